/- TokenParts, walked: whatever the two texts, it answers true. -/
import Derived.Test.YtaohdicilfabeaaGreatDoorTkLaw
import Derived.Test.YtaohdicilfabeaaGreatDoorTkRight
namespace Go.Proofs.YtaohdicilfabeaaGreatDoor
open Go.RowKit
set_option linter.unusedVariables false
set_option linter.unusedSimpArgs false

def zeroTok : Array Value := #[.int .u8 0, .string ⟨#[]⟩, .slice none 0 0, .bool false, .string ⟨#[]⟩]
/-- Five cells of a block, written one by one. -/
def wrote5 (w : World) (T : Nat) (a b c d e : Value) : World := ((((w.setCell ⟨T, 0, none⟩ a).setCell ⟨T, 1, none⟩ b).setCell ⟨T, 2, none⟩ c).setCell ⟨T, 3, none⟩ d).setCell ⟨T, 4, none⟩ e
theorem copied {w : World} {T : Nat} {t : Tk.Tok} {av : Value} (h : w.heap[T]? = some (.cells zeroTok 33 (0, 0))) : CopyAt (wrote5 w T (.int .u8 (t.kind : Int)) (.string ⟨t.name.toArray⟩) av (.bool t.self) (.string ⟨t.data.toArray⟩)) T t av :=
  bP (bP (bP (bP (bP h 0 _ rfl) 1 _ rfl) 2 _ rfl) 3 _ rfl) 4 _ rfl
theorem copied_far {w : World} {T : Nat} {t : Tk.Tok} {av : Value} (h : CopyAt w T t av) (g : Nat) (hne : T ≠ g) (a b c d e : Value) : CopyAt (wrote5 w g a b c d e) T t av :=
  bS (bS (bS (bS (bS h g 0 a hne) g 1 b hne) g 2 c hne) g 3 d hne) g 4 e hne
theorem wrote5_grown (w : World) (T : Nat) (a b c d e : Value) : w.grownBy (wrote5 w T a b c d e) (some T) :=
  gS (gS (gS (gS (gS (gRefl w _) T 0 a (.inl rfl)) T 1 b (.inl rfl)) T 2 c (.inl rfl)) T 3 d (.inl rfl)) T 4 e (.inl rfl)
theorem own_far5 {w : World} {B T n : Nat} {e : TypeId} {sz : Nat} {v : Value} {xs : List Value} {cs : Array Value} (h : w.ownsRow B e sz v n xs) (hb : w.heap[T]? = some (.cells cs 33 (0, 0))) (hne : e ≠ 33) (a b c d f : Value) : (wrote5 w T a b c d f).ownsRow B e sz v n xs :=
  own_far h (wrote5_grown w T a b c d f) hb hne
theorem below_five {w w' : World} {B : Nat} (h : Below B w w') (T : Nat) (hT : B ≤ T) (a b c d e : Value) : Below B w (wrote5 w' T a b c d e) :=
  ((((h.setCell (p := ⟨T, 0, none⟩) hT a).setCell (p := ⟨T, 1, none⟩) hT b).setCell (p := ⟨T, 2, none⟩) hT c).setCell (p := ⟨T, 3, none⟩) hT d).setCell (p := ⟨T, 4, none⟩) hT e
theorem mem_both {l r : List Tk.Tok} {t : Tk.Tok} {i j : Nat} (h : l[i]? = some t ∨ r[j]? = some t) : t ∈ l ++ r := by
  rcases h with h | h
  · exact List.mem_append.2 (.inl (List.mem_of_getElem? h))
  · exact List.mem_append.2 (.inr (List.mem_of_getElem? h))
/-- A row of tokens' last one. -/
theorem last_kind {w : World} {B g n c : Nat} {ts : List Tk.Tok} (h : OwnT 33 35 w B (.slice (some ⟨g, 0, none⟩) n c) ts) {t : Tk.Tok} (ht : ts.getLast? = some t) :
    w.cell? ⟨g, (ts.length - 1) * 5, none⟩ = some (.int .u8 (t.kind : Int)) := by
  rw [List.getLast?_eq_getElem?] at ht
  obtain ⟨g', av, hg', _, _, k0, _⟩ := h.at (ts.length - 1) t ht
  obtain rfl : g = g' := by injection hg' with h; injection h
  exact k0
theorem own_some {w : World} {B c n : Nat} {a : Option Addr} {ts : List Tk.Tok} (h : OwnT 33 35 w B (.slice a n c) ts) (hne : 0 < ts.length) : ∃ g, a = some ⟨g, 0, none⟩ := by
  obtain ⟨g, _, hg, _⟩ := h.at 0 _ (List.getElem?_eq_getElem hne)
  exact ⟨g, hg⟩

set_option maxRecDepth 100000 in
set_option maxHeartbeats 8000000 in
theorem tokenParts_any (s1 s2 : ByteArray) (w : World) (hgl : Gl nmT otT w) (hs1 : s1.size ≤ 140737488351232) (hs2 : s2.size ≤ 140737488351232) :
    Calls Tryz.prog 9 #[.string s1, .string s2] w (LawPost w) := by
  have HGL := Lib.hid hgl
  have h5 := hgl.lt
  obtain ⟨l1, hl1⟩ : ∃ l, s1.data.toList = l := ⟨_, rfl⟩
  obtain ⟨l2, hl2⟩ : ∃ l, s2.data.toList = l := ⟨_, rfl⟩
  have HL1 := Lib.hid hl1
  have HL2 := Lib.hid hl2
  have HSZ1 : Hid (l1.length = s1.size) := by show _ = _; rw [← hl1, ← Lib.size_eq]
  have HSZ2 : Hid (l2.length = s2.size) := by show _ = _; rw [← hl2, ← Lib.size_eq]
  clear hgl hl1 hl2
  by_cases hbig : 2000 < s1.size
  · have hb : 2000 < (s1.size : Int) := by omega
    clear hbig
    go_enter Tryz.func9, Tryz.ntmps9
    go_wp2_with fail
    refine (works_law w _ HGL.out (Below.refl _ _)).mono ?_
    rintro e w1 ⟨rfl, hw⟩
    have HW := Lib.hid hw
    clear hw
    go_wp2
    go_ret
    exact ⟨rfl, HW.out⟩
  have hb1 : ¬ 2000 < (s1.size : Int) := by omega
  by_cases hbig2 : 2000 < s2.size
  · have hb : 2000 < (s2.size : Int) := by omega
    clear hbig hbig2
    go_enter Tryz.func9, Tryz.ntmps9
    go_wp2_with fail
    refine (works_law w _ HGL.out (Below.refl _ _)).mono ?_
    rintro e w1 ⟨rfl, hw⟩
    have HW := Lib.hid hw
    clear hw
    go_wp2
    go_ret
    exact ⟨rfl, HW.out⟩
  have hb2 : ¬ 2000 < (s2.size : Int) := by omega
  have HN1 : Hid (l1.length ≤ 2000) := by show _ ≤ _; have := HSZ1.out; omega
  have HN2 : Hid (l2.length ≤ 2000) := by show _ ≤ _; have := HSZ2.out; omega
  clear hbig hbig2
  go_enter Tryz.func9, Tryz.ntmps9
  go_wp2_with fail
  refine (toks_any s1 l1 HL1.out _ HGL.out).mono ?_
  rintro e w1 ⟨hbw1, v1, ts1, e1, p1, rfl, ht1, ho1⟩
  obtain ⟨a1, c1, rfl⟩ := ho1.shape
  have HT1 := Lib.hid ht1
  have HO1 := Lib.hid ho1
  have HB1 := Lib.hid hbw1
  clear ht1 ho1 hbw1
  go_wp2_with fail
  refine (toks_any s2 l2 HL2.out _ (HGL.out.below HB1.out h5)).mono ?_
  rintro e w2 ⟨hbw2, v2, ts2, e2, p2, rfl, ht2, ho2⟩
  obtain ⟨a2, c2, rfl⟩ := ho2.shape
  have HT2 := Lib.hid ht2
  have HO1 := Lib.hid (HO1.out.below hbw2)
  have HO2 := Lib.hid ho2
  have HB2 := Lib.hid (HB1.out.trans (hbw2.mono HB1.out.size))
  have HF1 := Lib.hid (Tk.tokens_fine HT1.out)
  have HF2 := Lib.hid (Tk.tokens_fine HT2.out)
  have HZ1 := Lib.hid (Tk.tokens_sizes HT1.out)
  have HZ2 := Lib.hid (Tk.tokens_sizes HT2.out)
  have hz1 : ts1.length ≤ 2000 := by have := HZ1.out.2; have := HN1.out; omega
  have hz2 : ts2.length ≤ 2000 := by have := HZ2.out.2; have := HN2.out; omega
  clear ht2 ho2 hbw2 HB1
  go_wp2_with fail
  refine (right_any _ _ ts1 _ HO1.out HF1.out.1 HF1.out.2 (fun t ht => by have := HZ1.out.1 t ht; have := HN1.out; omega) (by omega)).mono ?_
  rintro e w3 ⟨rfl, hbw3⟩
  have HO1 := Lib.hid (HO1.out.below hbw3)
  have HO2 := Lib.hid (HO2.out.below hbw3)
  have HB3 := Lib.hid (HB2.out.trans (hbw3.mono HB2.out.size))
  clear hbw3 HB2
  go_wp2_with fail
  refine (right_any _ _ ts2 _ HO2.out HF2.out.1 HF2.out.2 (fun t ht => by have := HZ2.out.1 t ht; have := HN2.out; omega) (by omega)).mono ?_
  rintro e w4 ⟨rfl, hbw4⟩
  have HO1 := Lib.hid (HO1.out.below hbw4)
  have HO2 := Lib.hid (HO2.out.below hbw4)
  have HB4 := Lib.hid (HB3.out.trans (hbw4.mono HB3.out.size))
  have HAT : Hid (∀ t ∈ ts1 ++ ts2, t.attrs.length ≤ 16) := fun t ht => (List.mem_append.1 ht).elim (fun h => (HF1.out.1 t h).attrs) (fun h => (HF2.out.1 t h).attrs)
  clear hbw4 HB3 HF1 HF2 HZ1 HZ2
  by_cases he1 : e1 = 0
  rotate_left
  · have hx : ((e1 : Int) != 0) = true := by simpa using he1
    clear he1
    go_wp2_with fail
    refine (works_law w _ HGL.out HB4.out).mono ?_
    rintro e w5 ⟨rfl, hw⟩
    have HW := Lib.hid hw
    clear hw
    go_wp2
    go_ret
    exact ⟨rfl, HW.out⟩
  subst he1
  by_cases hl0 : ts1.length = 0
  · have hx : ((ts1.length : Int) == 0) = true := by rw [hl0]; rfl
    go_wp2_with fail
    refine (works_law w _ HGL.out HB4.out).mono ?_
    rintro e w5 ⟨rfl, hw⟩
    have HW := Lib.hid hw
    clear hw
    go_wp2
    go_ret
    exact ⟨rfl, HW.out⟩
  have hx1 : ((ts1.length : Int) == 0) = false := by rw [beq_eq_false_iff_ne]; omega
  obtain ⟨g1, rfl⟩ := own_some HO1.out (by omega)
  obtain ⟨tl, htl⟩ : ∃ t, ts1.getLast? = some t := by
    rw [List.getLast?_eq_getElem?]; exact ⟨_, List.getElem?_eq_getElem (by omega)⟩
  have klast := last_kind HO1.out htl
  have HTL := Lib.hid htl
  have hsub : IntKind.i64.wrap ((ts1.length : Int) - 1) = ((ts1.length - 1 : Nat) : Int) := by rw [IntKind.wrap_i64]; omega
  have hlt1 : ((ts1.length - 1 : Nat) : Int) < (ts1.length : Int) := by omega
  clear htl
  by_cases hk3 : tl.kind = 3
  · have hx3 : ((tl.kind : Int) == 3) = true := by rw [hk3]; rfl
    go_wp2_with fail
    refine (works_law w _ HGL.out HB4.out).mono ?_
    rintro e w5 ⟨rfl, hw⟩
    have HW := Lib.hid hw
    clear hw
    go_wp2
    go_ret
    exact ⟨rfl, HW.out⟩
  have hx3 : ((tl.kind : Int) == 3) = false := by rw [beq_eq_false_iff_ne]; omega
  by_cases hf42 : e2 = 42
  · have hx4 : ((e2 : Int) == 42) = true := by rw [hf42]; rfl
    clear hk3
    go_wp2_with fail
    refine (works_law w _ HGL.out HB4.out).mono ?_
    rintro e w5 ⟨rfl, hw⟩
    have HW := Lib.hid hw
    clear hw
    go_wp2
    go_ret
    exact ⟨rfl, HW.out⟩
  have hx4 : ((e2 : Int) == 42) = false := by rw [beq_eq_false_iff_ne]; omega
  have HP := Lib.hid (Tk.tokens_parts HN1.out HN2.out HT1.out HT2.out (fun t ht => by rw [HTL.out] at ht; cases ht; exact hk3) hf42)
  clear hk3 hf42
  go_wp2_with fail
  refine (toks_any (s1 ++ s2) (l1 ++ l2) (by rw [← HL1.out, ← HL2.out]; simp) _ (HGL.out.below HB4.out h5)).mono ?_
  rintro e w5 ⟨hbw5, v3, ts3, e3, p3, rfl, ht3, ho3⟩
  obtain ⟨a3, c3, rfl⟩ := ho3.shape
  rw [HP.out] at ht3
  clear klast hsub hlt1
  by_cases hf : e2 = 0
  rotate_left
  · rw [if_neg hf] at ht3
    obtain ⟨rfl, rfl, rfl⟩ : ts3 = _ ∧ e2 = e3 ∧ p3 = _ := by
      injection ht3 with a b; injection b with b c; exact ⟨a.symm, b, c.symm⟩
    have hx5 : ((e2 : Int) != 0) = true := by simpa using hf
    have hp2 : p2 ≤ 1000000 := by have := Tk.tokens_place HT2.out; have := HN2.out; omega
    have hsum : ((p2 + l1.length : Nat) : Int) = (p2 : Int) + (s1.size : Int) := by have := HSZ1.out; omega
    have HB5 := Lib.hid (HB4.out.trans (hbw5.mono HB4.out.size))
    clear ht3 ho3 hbw5 hf
    go_wp2_with fail
    refine (works_law w _ HGL.out HB5.out).mono ?_
    rintro e w6 ⟨rfl, hw⟩
    have HW := Lib.hid hw
    clear hw
    go_wp2
    go_ret
    exact ⟨rfl, HW.out⟩
  subst hf
  rw [if_pos rfl] at ht3
  obtain ⟨rfl, rfl, rfl⟩ : ts3 = _ ∧ e3 = _ ∧ p3 = _ := by
    injection ht3 with a b; injection b with b c; exact ⟨a.symm, b.symm, c.symm⟩
  have HO1 := Lib.hid (HO1.out.below hbw5)
  have HO2 := Lib.hid (HO2.out.below hbw5)
  have HO3 := Lib.hid ho3
  have HB5 := Lib.hid (HB4.out.trans (hbw5.mono HB4.out.size))
  obtain ⟨N, hN⟩ : ∃ N, (ts1 ++ ts2).length = N := ⟨_, rfl⟩
  have HNN := Lib.hid hN
  have hN2 : N = ts1.length + ts2.length := by rw [← hN, List.length_append]
  rw [hN]
  have hsum : (N : Int) = (ts1.length : Int) + (ts2.length : Int) := by omega
  clear ht3 ho3 hbw5 hN
  go_wp2_with fail
  go_loopg [14] N (fun g i wr => ∃ k : Nat, i = .int .i64 (k : Int) ∧ k + g = N ∧ Hid (Below w5.heap.size w5 wr))
  case atStart => exact ⟨0, rfl, by omega, Below.refl _ _⟩
  case round =>
    obtain ⟨k, rfl, hkg, HBR⟩ := hrel
    by_cases hk : k < N
    · obtain ⟨g, rfl⟩ : ∃ g, gk = g + 1 := ⟨gk - 1, by omega⟩
      have hki : (k : Int) < (N : Int) := by omega
      have HP1 := Lib.hid (HO1.out.below HBR.out)
      have HP2 := Lib.hid (HO2.out.below HBR.out)
      have HP3 := Lib.hid (HO3.out.below HBR.out)
      have hw0 : w.heap.size ≤ wr.heap.size := by have := HB5.out.size; have := HBR.out.size; omega
      have hw5 : w5.heap.size ≤ wr.heap.size := HBR.out.size
      by_cases hk1 : k < ts1.length
      · have hki1 : (k : Int) < (ts1.length : Int) := by omega
        obtain ⟨t, ht⟩ : ∃ t, ts1[k]? = some t := ⟨_, List.getElem?_eq_getElem hk1⟩
        have ht3 : (ts1 ++ ts2)[k]? = some t := by rw [List.getElem?_append_left hk1]; exact ht
        obtain ⟨g3, av3, rfl, hg3, hA3, k0, k1, k2, k3, k4⟩ := HP3.out.at k t ht3
        obtain ⟨aa3, ca3, rfl⟩ := own_shape hA3
        have HA3 := Lib.hid hA3
        have HTK := Lib.hid ht
        clear hg3 hA3 ht3 ht
        go_upto_region 21 with (fail)
        clear k0 k1 k2 k3 k4
        have HX : Hid (CopyAt ((wr.alloc (.cells #[.int .u8 (t.kind : Int), .string ⟨t.name.toArray⟩, .slice aa3 t.attrs.length ca3, .bool t.self, .string ⟨t.data.toArray⟩] 33 (0, 0))).alloc (.cells zeroTok 33 (0, 0))) wr.heap.size t (.slice aa3 t.attrs.length ca3)) := bA (bN wr _) _
        have HY : Hid (((wr.alloc (.cells #[.int .u8 (t.kind : Int), .string ⟨t.name.toArray⟩, .slice aa3 t.attrs.length ca3, .bool t.self, .string ⟨t.data.toArray⟩] 33 (0, 0))).alloc (.cells zeroTok 33 (0, 0))).heap[wr.heap.size + 1]? = some (.cells zeroTok 33 (0, 0))) := by
          have := bN (wr.alloc (.cells #[.int .u8 (t.kind : Int), .string ⟨t.name.toArray⟩, .slice aa3 t.attrs.length ca3, .bool t.self, .string ⟨t.data.toArray⟩] 33 (0, 0))) (.cells zeroTok 33 (0, 0))
          have e : (wr.alloc (.cells #[.int .u8 (t.kind : Int), .string ⟨t.name.toArray⟩, .slice aa3 t.attrs.length ca3, .bool t.self, .string ⟨t.data.toArray⟩] 33 (0, 0))).heap.size = wr.heap.size + 1 := by simp
          rw [e] at this; exact this
        have HBW : Hid (Below wr.heap.size wr ((wr.alloc (.cells #[.int .u8 (t.kind : Int), .string ⟨t.name.toArray⟩, .slice aa3 t.attrs.length ca3, .bool t.self, .string ⟨t.data.toArray⟩] 33 (0, 0))).alloc (.cells zeroTok 33 (0, 0)))) := ((Below.refl _ _).alloc (Nat.le_refl _) _).alloc (by simp) _
        have HQ1 := Lib.hid (HP1.out.below HBW.out)
        have HQ3 := Lib.hid (own_below HA3.out HBW.out)
        have hWs : wr.heap.size + 2 ≤ ((wr.alloc (.cells #[.int .u8 (t.kind : Int), .string ⟨t.name.toArray⟩, .slice aa3 t.attrs.length ca3, .bool t.self, .string ⟨t.data.toArray⟩] 33 (0, 0))).alloc (.cells zeroTok 33 (0, 0))).heap.size := by simp
        have HBR2 := Lib.hid (HBR.out.trans (HBW.out.mono HBR.out.size))
        clear HP1 HP2 HP3 HA3 HBW HBR
        unfold zeroTok at *
        generalize (wr.alloc (.cells #[.int .u8 (t.kind : Int), .string ⟨t.name.toArray⟩, .slice aa3 t.attrs.length ca3, .bool t.self, .string ⟨t.data.toArray⟩] 33 (0, 0))).alloc (.cells #[.int .u8 0, .string ⟨#[]⟩, .slice none 0 0, .bool false, .string ⟨#[]⟩] 33 (0, 0)) = W2 at *
        generalize wr.heap.size = T at *
        obtain ⟨g1', av1, hg1', hg1, hA1, j0, j1, j2, j3, j4⟩ := HQ1.out.at k t HTK.out
        obtain rfl : g1 = g1' := by injection hg1' with h; injection h
        obtain ⟨aa1, ca1, rfl⟩ := own_shape hA1
        have HA1 := Lib.hid hA1
        have z0 : W2.cell? ⟨T + 1, 0, none⟩ = some (.int .u8 0) := blk_cell HY.out 0
        have z1 : W2.cell? ⟨T + 1, 1, none⟩ = some (.string ⟨#[]⟩) := blk_cell HY.out 1
        have z2 : W2.cell? ⟨T + 1, 2, none⟩ = some (.slice none 0 0) := blk_cell HY.out 2
        have z3 : W2.cell? ⟨T + 1, 3, none⟩ = some (.bool false) := blk_cell HY.out 3
        have z4 : W2.cell? ⟨T + 1, 4, none⟩ = some (.string ⟨#[]⟩) := blk_cell HY.out 4
        have y0 := blk_free HY.out 0
        have y1 := blk_free HY.out 1
        have y2 := blk_free HY.out 2
        have y3 := blk_free HY.out 3
        have y4 := blk_free HY.out 4
        clear hg1' hA1
        go_upto_region 24 with (fail)
        clear j0 j1 j2 j3 j4 z0 z1 z2 z3 z4 y0 y1 y2 y3 y4
        have HYC := Lib.hid (copied HY.out (t := t) (av := .slice aa1 t.attrs.length ca1))
        have hTW : T < W2.heap.size := HX.out.lt
        have HXC := Lib.hid (copied_far HX.out (T + 1) (by omega) (.int .u8 (t.kind : Int)) (.string ⟨t.name.toArray⟩) (.slice aa1 t.attrs.length ca1) (.bool t.self) (.string ⟨t.data.toArray⟩))
        have HR1 := Lib.hid (own_far5 HA1.out HY.out (by decide) (.int .u8 (t.kind : Int)) (.string ⟨t.name.toArray⟩) (.slice aa1 t.attrs.length ca1) (.bool t.self) (.string ⟨t.data.toArray⟩))
        have HR3 := Lib.hid (own_far5 HQ3.out HY.out (by decide) (.int .u8 (t.kind : Int)) (.string ⟨t.name.toArray⟩) (.slice aa1 t.attrs.length ca1) (.bool t.self) (.string ⟨t.data.toArray⟩))
        have HBR3 := Lib.hid (below_five HBR2.out (T + 1) (by omega) (.int .u8 (t.kind : Int)) (.string ⟨t.name.toArray⟩) (.slice aa1 t.attrs.length ca1) (.bool t.self) (.string ⟨t.data.toArray⟩))
        unfold wrote5 at *
        clear HX HY HA1 HQ3 HBR2
        generalize ((((W2.setCell ⟨T + 1, 0, none⟩ (.int .u8 (t.kind : Int))).setCell ⟨T + 1, 1, none⟩ (.string ⟨t.name.toArray⟩)).setCell ⟨T + 1, 2, none⟩ (.slice aa1 t.attrs.length ca1)).setCell ⟨T + 1, 3, none⟩ (.bool t.self)).setCell ⟨T + 1, 4, none⟩ (.string ⟨t.data.toArray⟩) = W3 at *
        have x0 := HXC.out.c0
        have x1 := HXC.out.c1
        have x2 := HXC.out.c2
        have x3 := HXC.out.c3
        have x4 := HXC.out.c4
        have y0 := HYC.out.c0
        have y1 := HYC.out.c1
        have y2 := HYC.out.c2
        have y3 := HYC.out.c3
        have y4 := HYC.out.c4
        have hat : t.attrs.length ≤ 1000000 := by have := HAT.out t (mem_both (j := 0) (.inl HTK.out)); omega
        go_wp2_with fail
        refine (sameAttrs_any _ _ _ _ t.attrs t.attrs _ HR3.out HR1.out hat hat).mono ?_
        rintro e w6 ⟨rfl, n6, rfl⟩
        have hdec : decide (t.attrs = t.attrs) = true := by simp
        rw [hdec]
        go_wp2_with fail
        go_roundg g
        case measure => omega
        case rel => exact ⟨k + 1, by simp, by omega, HBR3.out.trans ⟨rfl, rfl, rfl, Nat.le_refl _, fun _ _ => rfl⟩⟩
      · have hki1 : ¬ (k : Int) < (ts1.length : Int) := by omega
        obtain ⟨t, ht⟩ : ∃ t, ts2[k - ts1.length]? = some t := ⟨_, List.getElem?_eq_getElem (by omega)⟩
        have ht3 : (ts1 ++ ts2)[k]? = some t := by rw [List.getElem?_append_right (by omega)]; exact ht
        obtain ⟨g3, av3, rfl, hg3, hA3, k0, k1, k2, k3, k4⟩ := HP3.out.at k t ht3
        obtain ⟨aa3, ca3, rfl⟩ := own_shape hA3
        have HA3 := Lib.hid hA3
        have HTK := Lib.hid ht
        clear hg3 hA3 ht3 ht
        go_upto_region 21 with (fail)
        clear k0 k1 k2 k3 k4
        have HX : Hid (CopyAt ((wr.alloc (.cells #[.int .u8 (t.kind : Int), .string ⟨t.name.toArray⟩, .slice aa3 t.attrs.length ca3, .bool t.self, .string ⟨t.data.toArray⟩] 33 (0, 0))).alloc (.cells zeroTok 33 (0, 0))) wr.heap.size t (.slice aa3 t.attrs.length ca3)) := bA (bN wr _) _
        have HY : Hid (((wr.alloc (.cells #[.int .u8 (t.kind : Int), .string ⟨t.name.toArray⟩, .slice aa3 t.attrs.length ca3, .bool t.self, .string ⟨t.data.toArray⟩] 33 (0, 0))).alloc (.cells zeroTok 33 (0, 0))).heap[wr.heap.size + 1]? = some (.cells zeroTok 33 (0, 0))) := by
          have := bN (wr.alloc (.cells #[.int .u8 (t.kind : Int), .string ⟨t.name.toArray⟩, .slice aa3 t.attrs.length ca3, .bool t.self, .string ⟨t.data.toArray⟩] 33 (0, 0))) (.cells zeroTok 33 (0, 0))
          have e : (wr.alloc (.cells #[.int .u8 (t.kind : Int), .string ⟨t.name.toArray⟩, .slice aa3 t.attrs.length ca3, .bool t.self, .string ⟨t.data.toArray⟩] 33 (0, 0))).heap.size = wr.heap.size + 1 := by simp
          rw [e] at this; exact this
        have HBW : Hid (Below wr.heap.size wr ((wr.alloc (.cells #[.int .u8 (t.kind : Int), .string ⟨t.name.toArray⟩, .slice aa3 t.attrs.length ca3, .bool t.self, .string ⟨t.data.toArray⟩] 33 (0, 0))).alloc (.cells zeroTok 33 (0, 0)))) := ((Below.refl _ _).alloc (Nat.le_refl _) _).alloc (by simp) _
        have HQ1 := Lib.hid (HP2.out.below HBW.out)
        have HQ3 := Lib.hid (own_below HA3.out HBW.out)
        have hWs : wr.heap.size + 2 ≤ ((wr.alloc (.cells #[.int .u8 (t.kind : Int), .string ⟨t.name.toArray⟩, .slice aa3 t.attrs.length ca3, .bool t.self, .string ⟨t.data.toArray⟩] 33 (0, 0))).alloc (.cells zeroTok 33 (0, 0))).heap.size := by simp
        have HBR2 := Lib.hid (HBR.out.trans (HBW.out.mono HBR.out.size))
        clear HP1 HP2 HP3 HA3 HBW HBR
        unfold zeroTok at *
        generalize (wr.alloc (.cells #[.int .u8 (t.kind : Int), .string ⟨t.name.toArray⟩, .slice aa3 t.attrs.length ca3, .bool t.self, .string ⟨t.data.toArray⟩] 33 (0, 0))).alloc (.cells #[.int .u8 0, .string ⟨#[]⟩, .slice none 0 0, .bool false, .string ⟨#[]⟩] 33 (0, 0)) = W2 at *
        generalize wr.heap.size = T at *
        obtain ⟨g2, av1, rfl, hg2, hA1, j0, j1, j2, j3, j4⟩ := HQ1.out.at (k - ts1.length) t HTK.out
        have hsb : IntKind.i64.wrap ((k : Int) - (ts1.length : Int)) = ((k - ts1.length : Nat) : Int) := by rw [IntKind.wrap_i64]; omega
        have hsl : ((k - ts1.length : Nat) : Int) < (ts2.length : Int) := by omega
        obtain ⟨aa1, ca1, rfl⟩ := own_shape hA1
        have HA1 := Lib.hid hA1
        have z0 : W2.cell? ⟨T + 1, 0, none⟩ = some (.int .u8 0) := blk_cell HY.out 0
        have z1 : W2.cell? ⟨T + 1, 1, none⟩ = some (.string ⟨#[]⟩) := blk_cell HY.out 1
        have z2 : W2.cell? ⟨T + 1, 2, none⟩ = some (.slice none 0 0) := blk_cell HY.out 2
        have z3 : W2.cell? ⟨T + 1, 3, none⟩ = some (.bool false) := blk_cell HY.out 3
        have z4 : W2.cell? ⟨T + 1, 4, none⟩ = some (.string ⟨#[]⟩) := blk_cell HY.out 4
        have y0 := blk_free HY.out 0
        have y1 := blk_free HY.out 1
        have y2 := blk_free HY.out 2
        have y3 := blk_free HY.out 3
        have y4 := blk_free HY.out 4
        clear hA1
        go_upto_region 24 with (fail)
        clear hsb hsl j0 j1 j2 j3 j4 z0 z1 z2 z3 z4 y0 y1 y2 y3 y4
        have HYC := Lib.hid (copied HY.out (t := t) (av := .slice aa1 t.attrs.length ca1))
        have hTW : T < W2.heap.size := HX.out.lt
        have HXC := Lib.hid (copied_far HX.out (T + 1) (by omega) (.int .u8 (t.kind : Int)) (.string ⟨t.name.toArray⟩) (.slice aa1 t.attrs.length ca1) (.bool t.self) (.string ⟨t.data.toArray⟩))
        have HR1 := Lib.hid (own_far5 HA1.out HY.out (by decide) (.int .u8 (t.kind : Int)) (.string ⟨t.name.toArray⟩) (.slice aa1 t.attrs.length ca1) (.bool t.self) (.string ⟨t.data.toArray⟩))
        have HR3 := Lib.hid (own_far5 HQ3.out HY.out (by decide) (.int .u8 (t.kind : Int)) (.string ⟨t.name.toArray⟩) (.slice aa1 t.attrs.length ca1) (.bool t.self) (.string ⟨t.data.toArray⟩))
        have HBR3 := Lib.hid (below_five HBR2.out (T + 1) (by omega) (.int .u8 (t.kind : Int)) (.string ⟨t.name.toArray⟩) (.slice aa1 t.attrs.length ca1) (.bool t.self) (.string ⟨t.data.toArray⟩))
        unfold wrote5 at *
        clear HX HY HA1 HQ3 HBR2
        generalize ((((W2.setCell ⟨T + 1, 0, none⟩ (.int .u8 (t.kind : Int))).setCell ⟨T + 1, 1, none⟩ (.string ⟨t.name.toArray⟩)).setCell ⟨T + 1, 2, none⟩ (.slice aa1 t.attrs.length ca1)).setCell ⟨T + 1, 3, none⟩ (.bool t.self)).setCell ⟨T + 1, 4, none⟩ (.string ⟨t.data.toArray⟩) = W3 at *
        have x0 := HXC.out.c0
        have x1 := HXC.out.c1
        have x2 := HXC.out.c2
        have x3 := HXC.out.c3
        have x4 := HXC.out.c4
        have y0 := HYC.out.c0
        have y1 := HYC.out.c1
        have y2 := HYC.out.c2
        have y3 := HYC.out.c3
        have y4 := HYC.out.c4
        have hat : t.attrs.length ≤ 1000000 := by have := HAT.out t (mem_both (i := 0) (.inr HTK.out)); omega
        go_wp2_with fail
        refine (sameAttrs_any _ _ _ _ t.attrs t.attrs _ HR3.out HR1.out hat hat).mono ?_
        rintro e w6 ⟨rfl, n6, rfl⟩
        have hdec : decide (t.attrs = t.attrs) = true := by simp
        rw [hdec]
        go_wp2_with fail
        go_roundg g
        case measure => omega
        case rel => exact ⟨k + 1, by simp, by omega, HBR3.out.trans ⟨rfl, rfl, rfl, Nat.le_refl _, fun _ _ => rfl⟩⟩
    · have hki : ¬ (k : Int) < (N : Int) := by omega
      go_wp2_with fail
      refine (works_law w _ HGL.out (HB5.out.trans (HBR.out.mono HB5.out.size))).mono ?_
      rintro e w6 ⟨rfl, hw⟩
      have HW := Lib.hid hw
      clear hw
      go_wp2
      go_ret
      exact ⟨rfl, HW.out⟩
end Go.Proofs.YtaohdicilfabeaaGreatDoor

/- TokenReads, walked: whatever the text, it answers true. -/
import Derived.Test.YtaohdicilfabeaaGreatDoorTkLaw
import Derived.Test.YtaohdicilfabeaaGreatDoorTkSame
import Derived.Test.YtaohdicilfabeaaGreatDoorTkSee
import Derived.Test.YtaohdicilfabeaaGreatDoorTkParts
import Derived.Test.YtaohdicilfabeaaGreatDoorTkRefTokens
namespace Go.Proofs.YtaohdicilfabeaaGreatDoor
open Go.RowKit
set_option linter.unusedVariables false
set_option linter.unusedSimpArgs false

theorem sameAttrs_self (B1 B2 : Nat) (v1 v2 : Value) (l : List Tk.At) (W : World) (m : Nat) (h1 : OwnA 35 W B1 v1 l) (h2 : OwnA 35 W B2 v2 l) (hn : l.length ≤ 1000000) :
    Calls Tryz.prog 13 #[v1, v2] (W.drewN m) fun e w' => e = .returned (.bool true) ∧ ∃ n, w' = W.drewN n :=
  (sameAttrs_any B1 B2 v1 v2 l l (W.drewN m) h1 h2 hn hn).mono fun e w' ⟨he, n, hw⟩ => ⟨by rw [he, decide_eq_true rfl], m + n, hw.trans (World.drewN_drewN _ _ _)⟩

set_option maxRecDepth 100000 in
set_option maxHeartbeats 8000000 in
theorem same_any (B1 B2 : Nat) (v1 v2 : Value) (ts : List Tk.Tok) (w : World) (h1 : OwnT 33 35 w B1 v1 ts) (h2 : OwnT 46 35 w B2 v2 ts) (hl : ts.length ≤ 1000000) (ha : ∀ t ∈ ts, t.attrs.length ≤ 16) :
    Calls Tryz.prog 8 #[v1, v2] w fun e w' => e = .returned (.bool true) ∧ ∃ n, w' = w.drewN n := by
  obtain ⟨a1, c1, rfl⟩ := h1.shape
  obtain ⟨a2, c2, rfl⟩ := h2.shape
  have H1 := Lib.hid h1
  have H2 := Lib.hid h2
  have HA := Lib.hid ha
  have hlb : ((ts.length : Int) != (ts.length : Int)) = false := by simp
  clear h1 h2 ha
  go_enter Tryz.func8, Tryz.ntmps8
  go_wp2_with fail
  go_loopg [5] ts.length (fun g i wr => ∃ k : Nat, i = .int .i64 (k : Int) ∧ k + g = ts.length ∧ Hid (∃ n, wr = w.drewN n))
  case atStart => exact ⟨0, rfl, by omega, 0, rfl⟩
  case round =>
    obtain ⟨k, rfl, hkg, HW⟩ := hrel
    by_cases hk : k < ts.length
    · obtain ⟨g, rfl⟩ : ∃ g, gk = g + 1 := ⟨gk - 1, by omega⟩
      have hki : (k : Int) < (ts.length : Int) := by omega
      obtain ⟨t, ht⟩ : ∃ t, ts[k]? = some t := ⟨_, List.getElem?_eq_getElem hk⟩
      have HO1 : Hid (OwnT 33 35 wr B1 (.slice a1 ts.length c1) ts) := by obtain ⟨n, hn⟩ := HW.out; show OwnT _ _ _ _ _ _; rw [hn]; exact H1.out.drews n
      have HO2 : Hid (OwnT 46 35 wr B2 (.slice a2 ts.length c2) ts) := by obtain ⟨n, hn⟩ := HW.out; show OwnT _ _ _ _ _ _; rw [hn]; exact H2.out.drews n
      obtain ⟨g1, av1, rfl, _, hA1, k0, k1, k2, k3, k4⟩ := HO1.out.at k t ht
      obtain ⟨g2, av2, rfl, _, hA2, m0, m1, m2, m3, m4⟩ := HO2.out.at k t ht
      have hta := HA.out t (List.mem_of_getElem? ht)
      have hta2 : t.attrs.length ≤ 1000000 := by omega
      have e0 : ((t.kind : Int) != (t.kind : Int)) = false := by simp
      have e1 : (t.name != t.name) = false := by simp
      have e3 : (t.self != t.self) = false := by simp
      have e4 : (t.data != t.data) = false := by simp
      have HA1 := Lib.hid hA1
      have HA2 := Lib.hid hA2
      clear ht hta HO1 HO2 hA1 hA2
      go_wp2_with fail
      go_quiet ((go_at_call 13; exact sameAttrs_self B1 B2 _ _ t.attrs wr _ HA1.out HA2.out hta2))
      go_wp2_with fail
      go_roundg g
      case measure => omega
      case rel => exact ⟨k + 1, rfl, by omega, by obtain ⟨n, hn⟩ := HW.out; exact ⟨_, by rw [hn]; exact World.drewN_drewN _ _ _⟩⟩
    · have hki : ¬ (k : Int) < (ts.length : Int) := by omega
      go_wp2
      go_ret
      exact ⟨rfl, HW.out⟩

/-- A token's attributes may be written: their cells stand. -/
def AttrBlk (W : World) (B C : Nat) (av : Value) (n : Nat) : Prop := ∃ a c, av = .slice a n c ∧ (0 < n → ∃ g cs, a = some ⟨g, 0, none⟩ ∧ B ≤ g ∧ g < C ∧ W.heap[g]? = some (.cells cs 35 (0, 0)) ∧ n * 2 ≤ cs.size)
theorem AttrBlk.of {W : World} {B C : Nat} {av : Value} {l : List Tk.At} (h : OwnA 35 W B av l) (hC : W.heap.size ≤ C) : AttrBlk W B C av l.length := by
  rcases h.2 with ⟨rfl, h0⟩ | ⟨g, cap, cur, rfl, hB, hh, h1, _, h3, _⟩
  · exact ⟨none, 0, by rw [h0], fun h => absurd h (by omega)⟩
  · exact ⟨_, _, rfl, fun _ => ⟨g, cur, rfl, hB, by have := blk_lt hh; omega, hh, by rw [h3]; exact Nat.mul_le_mul_right 2 h1⟩⟩
theorem AttrBlk.set {W : World} {B C : Nat} {av : Value} {n : Nat} (h : AttrBlk W B C av n) (g k : Nat) {cs : Array Value} (hb : W.heap[g]? = some (.cells cs 35 (0, 0))) (u : Value) : AttrBlk (W.setCell ⟨g, k, none⟩ u) B C av n := by
  obtain ⟨a, c, rfl, h⟩ := h
  refine ⟨a, c, rfl, fun hn => ?_⟩
  obtain ⟨g', cs', rfl, h1, h2, h3, h4⟩ := h hn
  by_cases hg : g' = g
  · subst hg
    rw [hb] at h3; cases h3
    exact ⟨g', _, rfl, h1, h2, blk_set hb k u, by simpa using h4⟩
  · exact ⟨g', cs', rfl, h1, h2, bS h3 g k u hg, h4⟩
theorem AttrBlk.below {W W' : World} {B C : Nat} {av : Value} {n : Nat} (h : AttrBlk W B C av n) (hb : Below W.heap.size W W') : AttrBlk W' B C av n := by
  obtain ⟨a, c, rfl, h⟩ := h
  refine ⟨a, c, rfl, fun hn => ?_⟩
  obtain ⟨g', cs', rfl, h1, h2, h3, h4⟩ := h hn
  exact ⟨g', cs', rfl, h1, h2, bB h3 hb, h4⟩
/-- On the way of the law's loops: some attributes of the first row of tokens have been wiped; the second row stands. -/
structure Wiped (w : World) (C : Nat) (v1 : Value) (avs : List Value) (v2 : Value) (ts : List Tk.Tok) (W : World) : Prop where
  bel : Below w.heap.size w W
  row : W.ownsRow w.heap.size 33 5 v1 ts.length (tokCells ts avs)
  att : ∀ (i : Nat) t av, ts[i]? = some t → avs[i]? = some av → AttrBlk W w.heap.size C av t.attrs.length
  ref : OwnT 46 35 W C v2 ts
theorem Wiped.set {w : World} {C : Nat} {v1 v2 : Value} {avs : List Value} {ts : List Tk.Tok} {W : World} (h : Wiped w C v1 avs v2 ts W) (g k : Nat) (hg : w.heap.size ≤ g) (hC : g < C) {cs : Array Value} (hb : W.heap[g]? = some (.cells cs 35 (0, 0))) (u : Value) : Wiped w C v1 avs v2 ts (W.setCell ⟨g, k, none⟩ u) := by
  have hgr : W.grownBy (W.setCell ⟨g, k, none⟩ u) (some g) := gS (gRefl W (some g)) g k u (.inl rfl)
  refine ⟨h.bel.setCell (p := ⟨g, k, none⟩) hg u, own_far h.row hgr hb (by decide), fun i t av h1 h2 => (h.att i t av h1 h2).set g k hb u, ?_⟩
  obtain ⟨bvs, hl, ho, ha⟩ := h.ref
  have ne : ∀ {e : TypeId} {sz n : Nat} {v : Value} {xs : List Value}, W.ownsRow C e sz v n xs → v.ownBlock ≠ some g := fun hr he => by have := (hr.lt g he).1; omega
  exact ⟨bvs, hl, ho.kept hgr (.inr (ne ho)), fun i t av h1 h2 => World.ownsRow.kept (ha i t av h1 h2) hgr (.inr (ne (ha i t av h1 h2)))⟩
theorem row_at {W : World} {B : Nat} {a : Option Addr} {n c : Nat} {ts : List Tk.Tok} {avs : List Value} (hl : avs.length = ts.length) (ho : W.ownsRow B 33 5 (.slice a n c) ts.length (tokCells ts avs)) (i : Nat) (t : Tk.Tok) (hi : ts[i]? = some t) :
    ∃ g av, a = some ⟨g, 0, none⟩ ∧ avs[i]? = some av ∧ W.cell? ⟨g, i * 5 + 2, none⟩ = some av := by
  obtain ⟨av, h1, h2⟩ := tokCells_at ts avs hl i t hi
  have hlen : i < ts.length := (List.getElem?_eq_some_iff.1 hi).1
  have ho' := ho
  rcases ho.2 with ⟨_, h0⟩ | ⟨g, cap', cur, hv, _⟩
  · omega
  · injection hv with e1 e2 e3
    subst e1
    have := ho'.cells (g := g) rfl (i * 5 + 2) av (by rw [h2 2 (by omega)]; rfl)
    rw [add_at] at this
    exact ⟨g, av, rfl, h1, this⟩
theorem Wiped.drews {w : World} {C : Nat} {v1 v2 : Value} {avs : List Value} {ts : List Tk.Tok} {W : World} (h : Wiped w C v1 avs v2 ts W) (n : Nat) : Wiped w C v1 avs v2 ts (W.drewN n) :=
  ⟨⟨h.bel.os, h.bel.tape, h.bel.output, h.bel.size, h.bel.block⟩, h.row, h.att, h.ref⟩

set_option maxRecDepth 100000 in
set_option maxHeartbeats 8000000 in
theorem tokenReads_any (s : ByteArray) (w : World) (hgl : Gl nmT otT w) (hs : s.size ≤ 140737488351232) :
    Calls Tryz.prog 3 #[.string s] w (LawPost w) := by
  have HGL := Lib.hid hgl
  have h5 := hgl.lt
  obtain ⟨l, hl⟩ : ∃ l, s.data.toList = l := ⟨_, rfl⟩
  have HL := Lib.hid hl
  have HSZ : Hid (l.length = s.size) := by show _ = _; rw [← hl, ← Lib.size_eq]
  clear hgl hl
  obtain ⟨Q, hQ⟩ : ∃ Q, (decide (2000 < s.size) && decide (s.size ≤ 65536)) = Q := ⟨_, rfl⟩
  have HQ := Lib.hid hQ
  clear hQ
  go_enter Tryz.func3, Tryz.ntmps3
  go_upto_region 1 with (fail)
  go_cut [22] (fun b wx => w = wx ∧ b = .bool Q)
  case first =>
    by_cases h1 : 2000 < s.size
    · have h1i : (2000 : Int) < (s.size : Int) := by omega
      by_cases h2 : s.size ≤ 65536
      · have h2i : (s.size : Int) ≤ 65536 := by omega
        have hq : Q = true := by rw [← HQ.out, decide_eq_true h1, decide_eq_true h2]; rfl
        subst hq
        go_wp2_with fail
        go_meet
        exact ⟨rfl, rfl⟩
      · have h2i : ¬ (s.size : Int) ≤ 65536 := by omega
        have hq : Q = false := by rw [← HQ.out, decide_eq_false h2, Bool.and_false]
        subst hq
        go_wp2_with fail
        go_meet
        exact ⟨rfl, rfl⟩
    · have h1i : ¬ (2000 : Int) < (s.size : Int) := by omega
      have hq : Q = false := by rw [← HQ.out, decide_eq_false h1, Bool.false_and]
      subst hq
      go_wp2_with fail
      go_meet
      exact ⟨rfl, rfl⟩
  obtain ⟨rfl, rfl⟩ := hcut
  cases Q with
  | true =>
    go_wp2_with fail
    refine (works_law w _ HGL.out (Below.refl _ _)).mono ?_
    rintro e w1 ⟨rfl, hw⟩
    have HW := Lib.hid hw
    clear hw
    go_wp2
    go_ret
    exact ⟨rfl, HW.out⟩
  | false =>
  clear HQ
  go_wp2_with fail
  refine (toks_any s l HL.out _ HGL.out).mono ?_
  rintro e w1 ⟨hb1, v1, ts, er, ps, rfl, ht, ho1⟩
  have HT := Lib.hid ht
  have HB1 := Lib.hid hb1
  have HO0 := Lib.hid ho1
  clear ht hb1 ho1
  go_wp2_with fail
  refine (refTokens_any s l HL.out _).mono ?_
  rintro e w2 ⟨hb2, v2, ts2, er2, ps2, rfl, ht2, ho2⟩
  rw [HT.out] at ht2
  obtain ⟨rfl, rfl, rfl⟩ : ts = ts2 ∧ er = er2 ∧ ps = ps2 := by
    injection ht2 with h1 h2; injection h2 with h2 h3; exact ⟨h1, h2, h3⟩
  have HO1 := Lib.hid (HO0.out.below hb2)
  have HB2 := Lib.hid (HB1.out.trans (hb2.mono HB1.out.size))
  have HO2 := Lib.hid ho2
  have HBB := Lib.hid hb2
  have HAT : Hid (∀ t ∈ ts, t.attrs.length ≤ 16) := fun t h => ((Tk.tokens_fine HT.out).1 t h).attrs
  have hlen : ts.length ≤ 65536 := by
    by_cases hbig : 65536 < l.length
    · have h := HT.out
      unfold Tk.tokens at h
      rw [if_pos hbig] at h
      injection h with h _
      rw [← h]; simp
    · have := (Tk.tokens_sizes HT.out).2; omega
  clear ht2 hb2 ho2
  have e1 : ((er : Int) != (er : Int)) = false := by simp
  have e2 : ((ps : Int) != (ps : Int)) = false := by simp
  go_wp2_with fail
  refine (same_any w.heap.size w1.heap.size v1 v2 ts _ HO1.out HO2.out (by omega) HAT.out).mono ?_
  rintro e w3 ⟨rfl, n3, rfl⟩
  obtain ⟨avs, hal, hao, haa⟩ := HO0.out
  have HAL := Lib.hid hal
  obtain ⟨a1, c1, rfl⟩ := own_shape hao
  have HS0 : Wiped w w1.heap.size (.slice a1 ts.length c1) avs v2 ts w2 :=
    ⟨HB2.out, own_below hao HBB.out, fun i t av h1 h2 => (AttrBlk.of (haa i t av h1 h2) (Nat.le_refl _)).below HBB.out, HO2.out⟩
  have HS := Lib.hid (HS0.drews n3)
  generalize w2.drewN n3 = w3 at *
  have hC := HB1.out.size
  generalize w1.heap.size = C at *
  clear HS0 hal hao haa HO0 HO1 HO2 HBB HB1 HB2 e1 e2
  go_wp2_with fail
  go_loopg [9] ts.length (fun g v wr => ∃ i : Nat, v = .int .i64 (i : Int) ∧ i + g = ts.length ∧ Hid (Wiped w C (.slice a1 ts.length c1) avs v2 ts wr))
  case atStart => exact ⟨0, rfl, by omega, HS⟩
  case round =>
    clear HS
    obtain ⟨i, rfl, hig, X⟩ := hrel
    by_cases hi : i < ts.length
    · obtain ⟨g, rfl⟩ : ∃ g, gk = g + 1 := ⟨gk - 1, by omega⟩
      have hii : (i : Int) < (ts.length : Int) := by omega
      obtain ⟨t, ht⟩ : ∃ t, ts[i]? = some t := ⟨_, List.getElem?_eq_getElem hi⟩
      have HTI := Lib.hid ht
      have hat : t.attrs.length ≤ 1000000 := by have := HAT.out t (List.mem_of_getElem? ht); omega
      obtain ⟨g1, av, rfl, hav, c2⟩ := row_at HAL.out X.out.row i t ht
      have HAV := Lib.hid hav
      obtain ⟨aa, ca, rfl, _⟩ := X.out.att i t av ht hav
      clear ht hav
      go_wp2_with fail
      go_loopg [11] t.attrs.length (fun g v wx => ∃ k : Nat, v = .int .i64 (k : Int) ∧ k + g = t.attrs.length ∧ Hid (Wiped w C (.slice (some ⟨g1, 0, none⟩) ts.length c1) avs v2 ts wx))
      case atStart => exact ⟨0, rfl, by omega, X⟩
      case round =>
        clear X c2
        obtain ⟨k, rfl, hkg, Y⟩ := hrel
        by_cases hk : k < t.attrs.length
        · have hki : (k : Int) < (t.attrs.length : Int) := by omega
          obtain ⟨q, rfl⟩ : ∃ q, gk = q + 1 := ⟨gk - 1, by omega⟩
          obtain ⟨aa', ca', heq, hblk⟩ := Y.out.att i t _ HTI.out HAV.out
          injection heq with h1 _ h2
          subst h1; subst h2
          obtain ⟨g2, cs, rfl, hB, hC2, hb, hsz⟩ := hblk (by omega)
          have d0 : wr.cell? ⟨g2, k * 2, none⟩ = some (cs[k * 2]'(by omega)) := by rw [blk_cell hb]; exact Array.getElem?_eq_getElem _
          have d1 : wr.cell? ⟨g2, k * 2 + 1, none⟩ = some (cs[k * 2 + 1]'(by omega)) := by rw [blk_cell hb]; exact Array.getElem?_eq_getElem _
          obtain ⟨x0, hx0⟩ : ∃ x, cs[k * 2]'(by omega) = x := ⟨_, rfl⟩
          obtain ⟨x1, hx1⟩ : ∃ x, cs[k * 2 + 1]'(by omega) = x := ⟨_, rfl⟩
          rw [hx0] at d0
          rw [hx1] at d1
          have f0 := blk_free hb (k * 2)
          have f1 := blk_free hb (k * 2 + 1)
          have Y2 := Lib.hid ((Y.out.set g2 (k * 2) hB hC2 hb (.string ⟨#[]⟩)).set g2 (k * 2 + 1) hB hC2 (blk_set hb _ _) (.string ⟨#[]⟩))
          clear hx0 hx1 hb hsz Y
          go_wp2_with fail
          go_roundg q
          case measure => omega
          case rel => exact ⟨k + 1, rfl, by omega, Y2⟩
        · have hki : ¬ (k : Int) < (t.attrs.length : Int) := by omega
          go_wp2_with fail
          go_roundg g
          case measure => omega
          case rel => exact ⟨i + 1, rfl, by omega, Y⟩
    · have hii : ¬ (i : Int) < (ts.length : Int) := by omega
      go_wp2_with fail
      refine (toks_any s l HL.out _ (HGL.out.below X.out.bel h5)).mono ?_
      rintro e w5 ⟨hb5, v3, ts3, er3, ps3, rfl, ht3, ho3⟩
      rw [HT.out] at ht3
      obtain ⟨rfl, rfl, rfl⟩ : ts = ts3 ∧ er = er3 ∧ ps = ps3 := by
        injection ht3 with h1 h2; injection h2 with h2 h3; exact ⟨h1, h2, h3⟩
      have HO3 := Lib.hid ho3
      have HO2 := Lib.hid (X.out.ref.below hb5)
      have HB5 := Lib.hid (X.out.bel.trans (hb5.mono X.out.bel.size))
      clear ht3 ho3 hb5 X
      go_wp2_with fail
      refine (same_any wr.heap.size C v3 v2 ts _ HO3.out HO2.out (by omega) HAT.out).mono ?_
      rintro e w6 ⟨rfl, n6, rfl⟩
      have HB6 : Hid (Below w.heap.size w (w5.drewN n6)) := below_drews HB5.out n6
      clear HB5 HO2 HO3
      go_wp2_with fail
      refine (works_law w _ HGL.out HB6.out).mono ?_
      rintro e w7 ⟨rfl, hw⟩
      have HW := Lib.hid hw
      clear hw
      go_wp2
      go_ret
      exact ⟨rfl, HW.out⟩
end Go.Proofs.YtaohdicilfabeaaGreatDoor

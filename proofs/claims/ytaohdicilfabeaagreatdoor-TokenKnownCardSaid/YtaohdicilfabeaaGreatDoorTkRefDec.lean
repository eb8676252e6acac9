/- The answer's Decode (selvedgeref03), walked: a text without references, as the program tells it. -/
import Derived.Test.YtaohdicilfabeaaGreatDoorTkRefFind
import Derived.Test.YtaohdicilfabeaaGreatDoorTkDecode
import Derived.Test.YtaohdicilfabeaaGreatDoorTkRefLeaf
import Derived.Test.YtaohdicilfabeaaGreatDoorTkOwn
namespace Go.Proofs.YtaohdicilfabeaaGreatDoor
open Go.RowKit
set_option linter.unusedVariables false
set_option linter.unusedSimpArgs false

theorem runeCells_one (r : Int) : ∀ u ∈ Lib.runeCells r, u.oneCell' = true := by
  intro u hu
  unfold Lib.runeCells at hu
  obtain ⟨x, _, rfl⟩ := List.mem_map.1 hu
  rfl
theorem row_back {w : World} {B U n : Nat} {v : Value} {l : List UInt8} (h : w.ownsRow B U 1 v n (Lib.byteCells l)) (hl : l.length = n) : (v = .slice none 0 0 ∧ l = []) ∨ ∃ g cap, v = .slice (some ⟨g, 0, none⟩) n cap ∧ ∀ j x, l[j]? = some x → w.cell? ⟨g, j, none⟩ = some (.int .u8 (x.toNat : Int)) := by
  have h0 := h
  rcases h.2 with ⟨e1, e2⟩ | ⟨g, cap, cur, rfl, _⟩
  · exact .inl ⟨e1, List.length_eq_zero_iff.1 (by omega)⟩
  · refine .inr ⟨g, cap, rfl, fun j x hx => ?_⟩
    have := h0.cells (g := g) rfl j (.int .u8 (x.toNat : Int)) (by unfold Lib.byteCells; rw [List.getElem?_map, hx]; rfl)
    have e : (⟨g, 0, none⟩ : Addr).add j = ⟨g, j, none⟩ := by unfold Addr.add; split <;> simp_all
    rw [e] at this; exact this
theorem add_at0 (g k : Nat) : (⟨g, 0, none⟩ : Addr).add k = ⟨g, k, none⟩ := by
  unfold Addr.add; split <;> simp_all
theorem dec_at {l : List UInt8} {k : Nat} {b : UInt8} {attr : Bool} (hb : l[k]? = some b) : Tk.dec nmT otT (l.drop k) attr = match Tk.find nmT otT attr (l.drop k) with
    | some (r, n) => Lib.encodeRune r ++ Tk.dec nmT otT (l.drop (k + n)) attr
    | none => b :: Tk.dec nmT otT (l.drop (k + 1)) attr := by
  rw [drop_atr hb, Tk.dec_cons, ← drop_atr hb]
  cases h : Tk.find nmT otT attr (l.drop k) with
  | none => rfl
  | some x => obtain ⟨r, n⟩ := x; simp only [List.drop_drop]

set_option maxRecDepth 100000 in
set_option maxHeartbeats 8000000 in
theorem refDecode_any (s : ByteArray) (l : List UInt8) (hl : s.data.toList = l) (attr : Bool) (w : World) (hs : s.size ≤ 1000000) :
    Calls Tryz.prog 30 #[.string s, .bool attr] w fun e w' => e = .returned (.string ⟨(Tk.dec nmT otT l attr).toArray⟩) ∧ Below w.heap.size w w' := by
  obtain ⟨i0, hi, hz0, hz1, hz2⟩ := info_parts u8Info
  have HL := Lib.hid hl
  have HSZ : Hid (l.length = s.size) := by show _ = _; rw [← hl, ← Lib.size_eq]
  obtain ⟨B, hB⟩ : ∃ B, w.heap.size = B := ⟨_, rfl⟩
  rw [hB]
  have HB := Lib.hid hB
  clear hB hl
  go_enter Tryz.func30, Tryz.ntmps30
  go_wp2_with fail
  go_loopg [5, 6] s.size (fun g v i wr => ∃ (k : Nat) (acc : List UInt8), i = .int .i64 (k : Int) ∧ k ≤ s.size ∧ s.size ≤ k + g ∧ acc.length ≤ 4 * k ∧ Hid (wr.ownsRow B 5 1 v acc.length (Lib.byteCells acc)) ∧ Hid (Below B w wr) ∧ Hid (acc ++ Tk.dec nmT otT (l.drop k) attr = Tk.dec nmT otT l attr))
  case atStart => exact ⟨0, [], rfl, by omega, by omega, by simp, World.ownsRow_nil _ _ _ _, Below.refl _ _, rfl⟩
  case round =>
    obtain ⟨k, acc, rfl, hks, hkg, hal, HO, HW, HE⟩ := hrel
    have hB0 : B ≤ wr.heap.size := by have := HW.out.size; have := HB.out; omega
    by_cases hk : k < s.size
    · obtain ⟨g, rfl⟩ : ∃ g, gk = g + 1 := ⟨gk - 1, by omega⟩
      have hki : (k : Int) < (s.size : Int) := by omega
      have hki2 : (k : Int) ≤ (s.size : Int) := by omega
      obtain ⟨b, hb⟩ : ∃ b : UInt8, s[k] = b := ⟨_, rfl⟩
      have HBL : Hid (l[k]? = some b) := by show _ = _; rw [← hb, ← HL.out]; exact Lib.data_getElem? s k hk
      have HD : Hid ((s.extract k s.size).data.toList = l.drop k) := by show _ = _; rw [Lib.extract_to_end, HL.out]
      have hds : (s.extract k s.size).size ≤ 1000000 := by
        rw [Lib.size_eq, HD.out, List.length_drop]; have := HSZ.out; omega
      have hfind := fun W : World => refFindRef_any (s.extract k s.size) (l.drop k) HD.out attr W hds
      have HDA := Lib.hid (dec_at (attr := attr) HBL.out)
      have HFR : Hid (∀ r n, Tk.find nmT otT attr (l.drop k) = some (r, n) → (-2147483648 ≤ r ∧ r ≤ 2147483647) ∧ 1 ≤ n ∧ n ≤ s.size - k) := by
        intro r n h
        have h1 := Tk.find_len h
        rw [List.length_drop] at h1
        exact ⟨find_range nm_range ot_range h, h1.1, by have := HSZ.out; omega⟩
      obtain ⟨x, hx⟩ : ∃ x, Tk.find nmT otT attr (l.drop k) = x := ⟨_, rfl⟩
      rw [hx] at hfind HDA HFR
      clear hx hds
      cases x with
      | none =>
        have HE2 : Hid ((acc ++ [b]) ++ Tk.dec nmT otT (l.drop (k + 1)) attr = Tk.dec nmT otT l attr) := by
          show _ = _
          rw [← HE.out, HDA.out, List.append_assoc]; rfl
        clear HDA HFR HE
        go_wp2_with fail
        refine (hfind _).mono ?_
        rintro e w1 ⟨rfl, hb1⟩
        have HW1 := Lib.hid (HW.out.trans (hb1.mono hB0))
        have hown := own_below HO.out hb1
        have hs1 := hb1.size
        clear hfind hb1 HW HO
        unfold numRes
        go_wp2_with (at_builtin; refine wpList_append_own _ rfl _ _ 39 rfl B 5 i0 (.int .u8 0) 1 1 Tryz.underlying39 hi hz0 hz1 hz2 rfl (by decide) _ _ _ rfl (hown.alloc _) ⟨w1.heap.size, 0, none⟩ 1 1 [.int .u8 (b.toNat : Int)] rfl rfl ?d1 ?d2 ?d3 ?d4 ?d5 ?_)
        case d1 =>
          intro j u hj
          match j, hj with
          | 0, hj => simp at hj; subst hj; simp [Addr.add]
        case d2 => first | rfl | (intro u hu; simp at hu; subst hu; rfl)
        case d3 => unfold maxLen; omega
        case d4 => omega
        case d5 => first | omega | (simp; omega)
        intro v' w2 hown' hgrow _
        have hb2 := Lib.hid (free_ret hown HW1.out hgrow (by omega))
        have hcells : Lib.byteCells acc ++ [.int .u8 (b.toNat : Int)] = Lib.byteCells (acc ++ [b]) := by rw [Lib.byteCells_append]; rfl
        have hln : acc.length + 1 = (acc ++ [b]).length := by simp
        rw [hcells, hln] at hown'
        have HO1 := Lib.hid hown'
        clear hown' hgrow hown hcells hln HW1
        go_wp2_with fail
        go_roundg g
        case measure => omega
        case rel => exact ⟨k + 1, acc ++ [b], by simp, by omega, by omega, by simp; omega, HO1, hb2, HE2⟩
      | some x =>
        obtain ⟨r, n⟩ := x
        obtain ⟨⟨hr0, hr1⟩, hn1, hn2⟩ := HFR.out r n rfl
        have HE2 : Hid ((acc ++ Lib.encodeRune r) ++ Tk.dec nmT otT (l.drop (k + n)) attr = Tk.dec nmT otT l attr) := by
          show _ = _
          rw [← HE.out, HDA.out, List.append_assoc]
        clear HDA HFR HE
        go_wp2_with fail
        refine (hfind _).mono ?_
        rintro e w1 ⟨rfl, hb1⟩
        have HW1 := Lib.hid (HW.out.trans (hb1.mono hB0))
        have HO1 := Lib.hid (own_below HO.out hb1)
        have hs1 := hb1.size
        clear hfind hb1 HW HO
        unfold numRes
        go_wp2_with fail
        refine (refOne_any r hr0 hr1 _).mono ?_
        rintro e w2 ⟨rfl, hw2⟩
        have hrl := Lib.runeCells_le r
        have hown := HO1.out.alloc (.cells (Lib.runeCells r).toArray 5 (0, 0))
        rw [← hw2] at hown
        have HC : Hid (∀ j u, (Lib.runeCells r)[j]? = some u → w2.cell? ((⟨w1.heap.size, 0, none⟩ : Addr).add j) = some u) := by
          intro j u hu
          have hn : w2.heap[w1.heap.size]? = some (.cells (Lib.runeCells r).toArray 5 (0, 0)) := by rw [hw2]; exact bN _ _
          rw [add_at0, blk_cell hn, List.getElem?_toArray]; exact hu
        have HBW : Hid (Below B w w2) := by show Below _ _ _; rw [hw2]; exact HW1.out.alloc (by omega) _
        have hs2 : B ≤ w2.heap.size := by have := HBW.out.size; have := HB.out; omega
        clear hw2 HO1 HW1
        generalize w1.heap.size = G at *
        go_wp2_with (at_builtin; refine wpList_append_own _ rfl _ _ 39 rfl B 5 i0 (.int .u8 0) 1 1 Tryz.underlying39 hi hz0 hz1 hz2 rfl (by decide) _ _ _ rfl hown ⟨G, 0, none⟩ (Lib.runeCells r).length (Lib.runeCells r).length (Lib.runeCells r) rfl (Nat.mul_one _).symm HC.out (runeCells_one r) (by unfold maxLen; omega) (by omega) hs2 ?_)
        intro v' w3 hown' hgrow _
        have hb3 := Lib.hid (HBW.out.grown hgrow hs2 (fun g e => (hown.lt g e).1))
        have hcells : Lib.byteCells acc ++ Lib.runeCells r = Lib.byteCells (acc ++ Lib.encodeRune r) := by rw [Lib.byteCells_append, Lib.byteCells_encodeRune]
        have hln : acc.length + (Lib.runeCells r).length = (acc ++ Lib.encodeRune r).length := by rw [List.length_append, Lib.runeCells_length]
        rw [hcells, hln] at hown'
        have HO3 := Lib.hid hown'
        have hal2 : (acc ++ Lib.encodeRune r).length ≤ 4 * (k + n) := by rw [← hln]; omega
        clear hown' hgrow hown hcells hln HBW HC hrl
        go_wp2_with fail
        go_roundg g
        case measure => omega
        case rel => exact ⟨k + n, acc ++ Lib.encodeRune r, by simp, by omega, by omega, hal2, HO3, hb3, HE2⟩
    · have hki : ¬ (k : Int) < (s.size : Int) := by omega
      have HE2 : Hid (acc = Tk.dec nmT otT l attr) := by
        show _ = _
        rw [← HE.out, List.drop_eq_nil_of_le (by have := HSZ.out; omega), Tk.dec_nil, List.append_nil]
      rcases row_back HO.out rfl with ⟨rfl, rfl⟩ | ⟨g, cap, rfl, hcells⟩
      · have hrun := Lib.run_convert_nil_bytes (P := Tryz.prog) wr 39 9 5 0 Tryz.underlying39 Tryz.underlying5 Tryz.underlying9
        go_wp2
        go_ret
        exact ⟨by rw [← HE2.out]; rfl, HW.out⟩
      · have hback := run_convert_bytes_back (P := Tryz.prog) wr 39 9 5 ⟨g, 0, none⟩ cap acc Tryz.underlying39 Tryz.underlying5 Tryz.underlying9 (fun j hj => by
          have e : (⟨g, 0, none⟩ : Addr).add j = ⟨g, j, none⟩ := by unfold Addr.add; split <;> simp_all
          rw [e]; exact hcells j _ (List.getElem?_eq_getElem hj))
        clear hcells
        go_wp2
        go_ret
        exact ⟨by rw [← HE2.out]; rfl, HW.out⟩
end Go.Proofs.YtaohdicilfabeaaGreatDoor

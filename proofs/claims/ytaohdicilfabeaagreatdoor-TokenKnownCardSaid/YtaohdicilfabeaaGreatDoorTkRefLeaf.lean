/- The answer's letters, digits and small letters (selvedgeref04), walked. -/
import Derived.Test.YtaohdicilfabeaaGreatDoorTkSmall
import Derived.Lib.UnsafeStr
import Derived.Lib.BufferRead
namespace Go.Proofs.YtaohdicilfabeaaGreatDoor
open Go.RowKit
set_option linter.unusedVariables false
set_option linter.unusedSimpArgs false

theorem refDigit_any (b : UInt8) (w : World) :
    Calls Tryz.prog 70 #[.int .u8 (b.toNat : Int)] w fun e w' => e = .returned (.bool (Tk.digit b)) ∧ w = w' := by
  have hr : Tk.digit b = (decide (48 ≤ (b.toNat : Int)) && decide ((b.toNat : Int) ≤ 57)) := by
    unfold Tk.digit; rw [Bool.eq_iff_iff]; simp [UInt8.le_iff_toNat_le]; omega
  have HR := Lib.hid hr
  clear hr
  by_cases h1 : 48 ≤ (b.toNat : Int)
  all_goals
    go_enter Tryz.func70, Tryz.ntmps70
    go_wp2
    go_ret
    exact ⟨ret_bool (by rw [HR.out]; simp <;> omega), rfl⟩
theorem refLetter_any (b : UInt8) (w : World) :
    Calls Tryz.prog 25 #[.int .u8 (b.toNat : Int)] w fun e w' => e = .returned (.bool (Tk.letter b)) ∧ w = w' := by
  have hr : Tk.letter b = ((decide (65 ≤ (b.toNat : Int)) && decide ((b.toNat : Int) ≤ 90)) || (decide (97 ≤ (b.toNat : Int)) && decide ((b.toNat : Int) ≤ 122))) := by
    unfold Tk.letter; rw [Bool.eq_iff_iff]; simp [UInt8.le_iff_toNat_le]; omega
  have HR := Lib.hid hr
  clear hr
  by_cases h1 : 65 ≤ (b.toNat : Int)
  · by_cases h2 : (b.toNat : Int) ≤ 90
    · go_enter Tryz.func25, Tryz.ntmps25
      go_wp2
      go_ret
      exact ⟨ret_bool (by rw [HR.out]; first | (simp <;> omega) | omega | (rw [Bool.eq_iff_iff]; simp; omega)), rfl⟩
    · by_cases h3 : 97 ≤ (b.toNat : Int)
      all_goals
        go_enter Tryz.func25, Tryz.ntmps25
        go_wp2
        go_ret
        exact ⟨ret_bool (by rw [HR.out]; first | (simp <;> omega) | omega | (rw [Bool.eq_iff_iff]; simp; omega)), rfl⟩
  · have h3 : ¬ 97 ≤ (b.toNat : Int) := by omega
    go_enter Tryz.func25, Tryz.ntmps25
    go_wp2
    go_ret
    exact ⟨ret_bool (by rw [HR.out]; first | (simp <;> omega) | omega | (rw [Bool.eq_iff_iff]; simp; omega)), rfl⟩

theorem u8Info : (Tryz.prog.info? 5).map (fun i => (i.zero, i.size, i.bytes)) = some (some (.int .u8 0), 1, 1) := by kernel_rfl
theorem small_snoc (s : ByteArray) (k : Nat) (b : UInt8) (hb : s.data.toList[k]? = some b) : Lib.byteCells (Tk.small (s.data.toList.take k)) ++ [.int .u8 ((Tk.low b).toNat : Int)] = Lib.byteCells (Tk.small (s.data.toList.take (k + 1))) := by
  have hlt := (List.getElem?_eq_some_iff.1 hb)
  rw [List.take_succ_eq_append_getElem hlt.1, hlt.2]
  unfold Tk.small
  rw [List.map_append, Lib.byteCells_append]; rfl
theorem row_bytes {w : World} {B U n : Nat} {v : Value} {l : List UInt8} (h : w.ownsRow B U 1 v n (Lib.byteCells l)) (hl : l.length = n) (hn : 0 < n) : ∃ g cap, v = .slice (some ⟨g, 0, none⟩) n cap ∧ (B ≤ g ∧ g < w.heap.size) ∧ ∀ j x, l[j]? = some x → w.cell? ⟨g, j, none⟩ = some (.int .u8 (x.toNat : Int)) := by
  have h0 := h
  rcases h.2 with ⟨_, e⟩ | ⟨g, cap, cur, rfl, _⟩
  · omega
  · refine ⟨g, cap, rfl, h.lt g rfl, fun j x hx => ?_⟩
    have := h0.cells (g := g) rfl j (.int .u8 (x.toNat : Int)) (by unfold Lib.byteCells; rw [List.getElem?_map, hx]; rfl)
    have e : (⟨g, 0, none⟩ : Addr).add j = ⟨g, j, none⟩ := by unfold Addr.add; split <;> simp_all
    rw [e] at this; exact this
theorem free_ret {w wr : World} {v : Value} {k : Nat} {xs : List Value} {B U : Nat} (h : wr.ownsRow B U 1 v k xs) (hb : Below B w wr) {c : Value} {w1 : World} (hg : (wr.alloc (.cells #[c] U (0, 0))).grownBy w1 v.ownBlock) (hB : B ≤ wr.heap.size) : Below B w w1 :=
  (hb.alloc hB _).grown hg (by simp; omega) (fun g e => (h.lt g e).1)

set_option maxHeartbeats 1000000 in
theorem refSmall_any (s : ByteArray) (w : World) (hs : s.size ≤ 140737488351232) :
    Calls Tryz.prog 31 #[.string s] w fun e w' => e = .returned (.string ⟨(Tk.small s.data.toList).toArray⟩) ∧ Below w.heap.size w w' := by
  obtain ⟨i0, hi, hz0, hz1, hz2⟩ := info_parts u8Info
  obtain ⟨B, hB⟩ : ∃ B, w.heap.size = B := ⟨_, rfl⟩
  rw [hB]
  have HB := Lib.hid hB
  clear hB
  go_enter Tryz.func31, Tryz.ntmps31
  go_wp2_with fail
  go_loopg [3, 4] s.size (fun g v i wr => ∃ k : Nat, i = .int .i64 (k : Int) ∧ k + g = s.size ∧ (k = 0 → v = .slice none 0 0) ∧ Hid (wr.ownsRow B 5 1 v k (Lib.byteCells (Tk.small (s.data.toList.take k)))) ∧ Hid (Below B w wr))
  case atStart => exact ⟨0, rfl, by omega, fun _ => rfl, World.ownsRow_nil _ _ _ _, Below.refl _ _⟩
  case round =>
    obtain ⟨k, rfl, hkg, hnil, HO, HW⟩ := hrel
    have hB0 : B ≤ wr.heap.size := by have := HW.out.size; have := HB.out; omega
    by_cases hk : k < s.size
    · obtain ⟨g, rfl⟩ : ∃ g, gk = g + 1 := ⟨gk - 1, by omega⟩
      have hki : (k : Int) < (s.size : Int) := by omega
      obtain ⟨b, hb⟩ : ∃ b : UInt8, s[k] = b := ⟨_, rfl⟩
      have HBL : Hid (s.data.toList[k]? = some b) := by show _ = _; rw [← hb]; exact Lib.data_getElem? s k hk
      have hown := HO.out
      clear hnil
      obtain ⟨c, hc⟩ : ∃ c : Int, ((Tk.low b).toNat : Int) = c := ⟨_, rfl⟩
      have HC : Hid (Lib.byteCells (Tk.small (s.data.toList.take k)) ++ [.int .u8 c] = Lib.byteCells (Tk.small (s.data.toList.take (k + 1)))) := by
        show _ = _; rw [← hc]; exact small_snoc s k b HBL.out
      by_cases h1 : 65 ≤ (b.toNat : Int)
      · by_cases h2 : (b.toNat : Int) ≤ 90
        · obtain rfl : (b.toNat : Int) + 32 = c := by rw [← hc]; exact (low_yes b h1 h2).symm
          clear hc
          go_wp2_with (at_builtin; refine wpList_append_own _ rfl _ _ 39 rfl B 5 i0 (.int .u8 0) 1 1 Tryz.underlying39 hi hz0 hz1 hz2 rfl (by decide) _ _ _ rfl (hown.alloc _) ⟨wr.heap.size, 0, none⟩ 1 1 [.int .u8 ((b.toNat : Int) + 32)] rfl rfl ?c1 ?c2 ?c3 ?c4 ?c5 ?_)
          case c1 =>
            intro j u hj
            match j, hj with
            | 0, hj => simp at hj; subst hj; simp [Addr.add]
          case c2 => intro u hu; simp at hu; subst hu; rfl
          case c3 => unfold maxLen; omega
          case c4 => omega
          case c5 => simp; omega
          intro v' w1 hown' hgrow _
          have hb1 := Lib.hid (free_ret HO.out HW.out hgrow hB0)
          rw [HC.out] at hown'
          have HO1 := Lib.hid hown'
          clear hown' hgrow hown HO HW HC
          go_wp2
          go_roundg g
          case measure => omega
          case rel => exact ⟨k + 1, by simp, by omega, fun h => absurd h (by omega), HO1, hb1⟩
        · obtain rfl : (b.toNat : Int) = c := by rw [← hc, low_no b (by omega)]
          clear hc
          go_wp2_with (at_builtin; refine wpList_append_own _ rfl _ _ 39 rfl B 5 i0 (.int .u8 0) 1 1 Tryz.underlying39 hi hz0 hz1 hz2 rfl (by decide) _ _ _ rfl (hown.alloc _) ⟨wr.heap.size, 0, none⟩ 1 1 [.int .u8 (b.toNat : Int)] rfl rfl ?d1 ?d2 ?d3 ?d4 ?d5 ?_)
          case d2 => first | rfl | (intro u hu; simp at hu; subst hu; rfl)
          case d3 => unfold maxLen; omega
          case d4 => omega
          case d5 => first | omega | (simp; omega)
          intro v' w1 hown' hgrow _
          have hb1 := Lib.hid (free_ret HO.out HW.out hgrow hB0)
          rw [HC.out] at hown'
          have HO1 := Lib.hid hown'
          clear hown' hgrow hown HO HW HC
          go_wp2
          go_roundg g
          case measure => omega
          case rel => exact ⟨k + 1, by simp, by omega, fun h => absurd h (by omega), HO1, hb1⟩
      · obtain rfl : (b.toNat : Int) = c := by rw [← hc, low_no b (by omega)]
        clear hc
        go_wp2_with (at_builtin; refine wpList_append_own _ rfl _ _ 39 rfl B 5 i0 (.int .u8 0) 1 1 Tryz.underlying39 hi hz0 hz1 hz2 rfl (by decide) _ _ _ rfl (hown.alloc _) ⟨wr.heap.size, 0, none⟩ 1 1 [.int .u8 (b.toNat : Int)] rfl rfl ?e1 ?e2 ?e3 ?e4 ?e5 ?_)
        case e2 => first | rfl | (intro u hu; simp at hu; subst hu; rfl)
        case e3 => unfold maxLen; omega
        case e4 => omega
        case e5 => first | omega | (simp; omega)
        intro v' w1 hown' hgrow _
        have hb1 := Lib.hid (free_ret HO.out HW.out hgrow hB0)
        rw [HC.out] at hown'
        have HO1 := Lib.hid hown'
        clear hown' hgrow hown HO HW HC
        go_wp2
        go_roundg g
        case measure => omega
        case rel => exact ⟨k + 1, by simp, by omega, fun h => absurd h (by omega), HO1, hb1⟩
    · have hki : ¬ (k : Int) < (s.size : Int) := by omega
      obtain rfl : k = s.size := by omega
      have hsl : s.data.toList.length = s.size := (Lib.size_eq s).symm
      have htk : s.data.toList.take s.size = s.data.toList := by rw [← hsl, List.take_length]
      rw [htk] at HO
      by_cases h0 : s.size = 0
      · obtain rfl := hnil h0
        have hl0 : s.data.toList = [] := List.length_eq_zero_iff.1 (by omega)
        have hrun := Lib.run_convert_nil_bytes (P := Tryz.prog) wr 39 9 5 0 Tryz.underlying39 Tryz.underlying5 Tryz.underlying9
        have HL := Lib.hid hl0
        clear hl0 hsl htk hnil
        go_wp2
        go_ret
        exact ⟨by rw [HL.out]; rfl, HW.out⟩
      · obtain ⟨g, cap, rfl, _, hcells⟩ := row_bytes HO.out (by simp [Tk.small, hsl]) (by omega)
        have hback := run_convert_bytes_back (P := Tryz.prog) wr 39 9 5 ⟨g, 0, none⟩ cap (Tk.small s.data.toList) Tryz.underlying39 Tryz.underlying5 Tryz.underlying9 (fun j hj => by
          have e : (⟨g, 0, none⟩ : Addr).add j = ⟨g, j, none⟩ := by unfold Addr.add; split <;> simp_all
          rw [e]; exact hcells j _ (List.getElem?_eq_getElem hj))
        have hl : (Tk.small s.data.toList).length = s.size := by simp [Tk.small, hsl]
        rw [hl] at hback
        clear hl hcells hsl htk hnil
        go_wp2
        go_ret
        exact ⟨rfl, HW.out⟩
end Go.Proofs.YtaohdicilfabeaaGreatDoor

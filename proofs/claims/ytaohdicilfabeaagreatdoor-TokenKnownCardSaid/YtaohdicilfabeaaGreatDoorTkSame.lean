/- SameAttrs (selvedgekit), walked. -/
import Derived.Test.YtaohdicilfabeaaGreatDoorTkTag
namespace Go.Proofs.YtaohdicilfabeaaGreatDoor
open Go.RowKit

theorem neq_attr (w : World) (a b c d : List UInt8) : (binOp .neq 35 (.agg #[.string ⟨a.toArray⟩, .string ⟨b.toArray⟩]) (.agg #[.string ⟨c.toArray⟩, .string ⟨d.toArray⟩])).run Tryz.prog w = .ok (.bool (!((a == c) && (b == d)))) w := by
  rw [run_neq_struct, run_equalIn_struct w 9999 _ _ _ (by kernel_rfl) (by kernel_rfl)]
  have hf : (Tryz.prog.fieldsOf 35).toList = [⟨"Name", 9, 0, false, "", "", 0⟩, ⟨"Value", 9, 1, false, "", "", 16⟩] := by kernel_rfl
  rw [hf]
  by_cases h1 : a = c <;> by_cases h2 : b = d <;> simp [Op.eqFields, go_sem, part, h1, h2]
theorem at_eq (x y : Tk.At) : decide (x = y) = (decide (x.name = y.name) && decide (x.value = y.value)) := by
  cases x; cases y; simp
theorem take_eq_succ {l k : List Tk.At} {n : Nat} (h : l.take n = k.take n) (h1 : n < l.length) (h2 : n < k.length) (he : l[n] = k[n]) : l.take (n + 1) = k.take (n + 1) := by
  rw [List.take_succ_eq_append_getElem h1, List.take_succ_eq_append_getElem h2, h, he]

set_option maxRecDepth 100000 in
set_option maxHeartbeats 1000000 in
theorem sameAttrs_any (B1 B2 : Nat) (v1 v2 : Value) (l1 l2 : List Tk.At) (w : World) (h1 : OwnA 35 w B1 v1 l1) (h2 : OwnA 35 w B2 v2 l2) (hn : l1.length ≤ 1000000) (hn2 : l2.length ≤ 1000000) :
    Calls Tryz.prog 13 #[v1, v2] w fun e w' => e = .returned (.bool (decide (l1 = l2))) ∧ ∃ n, w' = w.drewN n := by
  obtain ⟨a1, c1, rfl⟩ := own_shape h1
  obtain ⟨a2, c2, rfl⟩ := own_shape h2
  have H1 := Lib.hid h1
  have H2 := Lib.hid h2
  clear h1 h2
  by_cases hl : l1.length = l2.length
  · have hlb : ((l1.length : Int) != (l2.length : Int)) = false := by simp [hl]
    go_enter Tryz.func13, Tryz.ntmps13
    go_wp2_with fail
    go_loopg [5] l1.length (fun g i wr => ∃ k n : Nat, i = .int .i64 (k : Int) ∧ k + g = l1.length ∧ wr = w.drewN n ∧ Hid (l1.take k = l2.take k))
    case atStart => exact ⟨0, 0, rfl, by omega, rfl, rfl⟩
    case round =>
      obtain ⟨k, n, rfl, hkg, rfl, HT⟩ := hrel
      by_cases hk : k < l1.length
      · obtain ⟨g, rfl⟩ : ∃ g, gk = g + 1 := ⟨gk - 1, by omega⟩
        have hk2 : k < l2.length := by omega
        have hki : (k : Int) < (l1.length : Int) := by omega
        have hki2 : (k : Int) < (l2.length : Int) := by omega
        obtain ⟨g1, rfl, d0, d1⟩ := attr_at H1.out k hk
        obtain ⟨g2, rfl, d2, d3⟩ := attr_at H2.out k hk2
        obtain ⟨x, hx⟩ : ∃ x, l1[k] = x := ⟨_, rfl⟩
        obtain ⟨y, hy⟩ : ∃ y, l2[k] = y := ⟨_, rfl⟩
        rw [hx] at d0 d1
        rw [hy] at d2 d3
        by_cases he : x = y
        · subst he
          have HX := Lib.hid (take_eq_succ HT.out hk hk2 (hx.trans hy.symm))
          clear hx hy HT
          go_wp2_with fail
          go_quiet (fail)
          go_wp2_with fail
          go_roundg g
          case measure => omega
          case rel => exact ⟨k + 1, _, by simp, by omega, rfl, HX⟩
        · have hneq : ((x.name == y.name) && (x.value == y.value)) = false := by
            rw [Bool.eq_false_iff]; intro h
            simp at h
            apply he; cases x; cases y; simp_all
          have hne : decide (l1 = l2) = false := by
            rw [decide_eq_false_iff_not]; intro e; subst e
            exact he (hx.symm.trans hy)
          have HNE := Lib.hid hne
          have hq : ∀ W : World, (binOp .neq 35 (.agg #[.string ⟨x.name.toArray⟩, .string ⟨x.value.toArray⟩]) (.agg #[.string ⟨y.name.toArray⟩, .string ⟨y.value.toArray⟩])).run Tryz.prog W = .ok (.bool true) W := fun W => by rw [neq_attr, hneq]; rfl
          clear hne he hx hy HT hneq
          go_wp2_with fail
          go_quiet (fail)
          go_wp2
          go_ret
          exact ⟨ret_bool HNE.out.symm, _, World.drewN_drewN _ _ _⟩
      · have hki : ¬ (k : Int) < (l1.length : Int) := by omega
        have hne : decide (l1 = l2) = true := by
          rw [decide_eq_true_eq]
          have := HT.out
          rwa [List.take_of_length_le (by omega), List.take_of_length_le (by omega)] at this
        have HNE := Lib.hid hne
        clear hne HT
        go_wp2
        go_ret
        exact ⟨ret_bool HNE.out.symm, _, rfl⟩
  · have hlb : ((l1.length : Int) != (l2.length : Int)) = true := by simp; omega
    have hne : decide (l1 = l2) = false := by
      rw [decide_eq_false_iff_not]; intro e; exact hl (by rw [e])
    have HNE := Lib.hid hne
    clear hne hl
    go_enter Tryz.func13, Tryz.ntmps13
    go_wp2
    go_ret
    exact ⟨ret_bool HNE.out.symm, 0, rfl⟩
end Go.Proofs.YtaohdicilfabeaaGreatDoor

/- The laws' has, walked. -/
import Derived.Test.YtaohdicilfabeaaDoorTkIndexAny
namespace Go.Proofs.YtaohdicilfabeaaDoor
open Go.RowKit

def hasAny (l c : List UInt8) : Bool := l.any (c.contains ·)
theorem hasAny_free {l c : List UInt8} {i : Nat} (h : Tk.Free l c i) (hi : l.length ≤ i) : hasAny l c = false := by
  unfold hasAny
  rw [List.any_eq_false]
  intro x hx
  obtain ⟨j, hj⟩ := List.getElem?_of_mem hx
  have := h j x (by have := (List.getElem?_eq_some_iff.1 hj).1; omega) hj
  simp only [this]; decide
theorem hasAny_hit {l c : List UInt8} {i : Nat} {b : UInt8} (hb : l[i]? = some b) (hc : c.contains b = true) : hasAny l c = true := by
  unfold hasAny
  rw [List.any_eq_true]
  exact ⟨b, List.mem_of_getElem? hb, hc⟩

theorem hasAny_not {l c : List UInt8} (h : hasAny l c = false) : ∀ x ∈ l, ∀ d ∈ c, x ≠ d := by
  intro x hx d hd e
  subst e
  unfold hasAny at h
  rw [List.any_eq_false] at h
  exact h x hx (by simpa using hd)
theorem free_succ {l c : List UInt8} {i : Nat} {b : UInt8} (h : Tk.Free l c i) (hb : l[i]? = some b) (hn : c.contains b = false) : Tk.Free l c (i + 1) := by
  intro j x hj hx
  rcases Nat.lt_or_ge j i with h1 | h1
  · exact h j x h1 hx
  · obtain rfl : j = i := by omega
    rw [hb] at hx; cases hx; exact hn

set_option maxRecDepth 100000 in
set_option maxHeartbeats 2000000 in
theorem has_law (s c : ByteArray) (w : World) (hs : s.size ≤ 140737488351232) (hcs : c.size ≤ 140737488351232) :
    Calls Tryd.prog 11 #[.string s, .string c] w fun e w' => e = .returned (.bool (hasAny s.data.toList c.data.toList)) ∧ ∃ n, w' = w.drewN n := by
  go_enter Tryd.func11, Tryd.ntmps11
  go_wp2_with fail
  go_loopg [5] s.size (fun g i wr => ∃ k n : Nat, i = .int .i64 (k : Int) ∧ k + g = s.size ∧ wr = w.drewN n ∧ Hid (Tk.Free s.data.toList c.data.toList k))
  case atStart => exact ⟨0, 0, rfl, by omega, rfl, free_zero _ _⟩
  case round =>
    obtain ⟨k, n, rfl, hkg, rfl, HF⟩ := hrel
    by_cases hk : k < s.size
    · obtain ⟨g, rfl⟩ : ∃ g, gk = g + 1 := ⟨gk - 1, by omega⟩
      have hki : (k : Int) < (s.size : Int) := by omega
      obtain ⟨b, hb⟩ : ∃ b : UInt8, s[k] = b := ⟨_, rfl⟩
      have HBL : Hid (s.data.toList[k]? = some b) := by show _ = _; rw [← hb]; exact Lib.data_getElem? s k hk
      go_wp2_with fail
      go_loopg [6] c.size (fun q j wr => ∃ m n2 : Nat, j = .int .i64 (m : Int) ∧ m + q = c.size ∧ wr = w.drewN n2 ∧ Hid (NotYet c.data.toList (b.toNat : Int) m))
      case atStart => exact ⟨0, n, rfl, by omega, rfl, fun q x hq _ => by omega⟩
      case round =>
        obtain ⟨m, n2, rfl, hmq, rfl, HN⟩ := hrel
        by_cases hm : m < c.size
        · obtain ⟨q, rfl⟩ : ∃ q, gk = q + 1 := ⟨gk - 1, by omega⟩
          have hmi : (m : Int) < (c.size : Int) := by omega
          obtain ⟨d, hd⟩ : ∃ d : UInt8, c[m] = d := ⟨_, rfl⟩
          have HDL : Hid (c.data.toList[m]? = some d) := by show _ = _; rw [← hd]; exact Lib.data_getElem? c m hm
          by_cases he : (b.toNat : Int) = (d.toNat : Int)
          · have heb : ((b.toNat : Int) == (d.toNat : Int)) = true := by simpa using he
            have hbd : b = d := UInt8.toNat_inj.1 (by omega)
            have HX : Hid (c.data.toList.contains b = true) := by
              show _ = _; rw [hbd]; exact List.contains_iff_mem.2 (List.mem_of_getElem? HDL.out)
            clear he hbd
            go_wp2_with fail
            go_quiet (fail)
            go_wp2
            go_ret
            exact ⟨ret_bool (hasAny_hit HBL.out HX.out).symm, _, World.drewN_drewN _ _ _⟩
          · have heb : ((b.toNat : Int) == (d.toNat : Int)) = false := by simpa using he
            have HE := Lib.hid he
            clear he
            go_wp2_with fail
            go_quiet (fail)
            go_wp2_with fail
            go_roundg q
            case measure => omega
            case rel =>
              refine ⟨m + 1, _, by simp, by omega, rfl, fun q' y hq' hy => ?_⟩
              rcases Nat.lt_or_ge q' m with h | h
              · exact HN.out q' y h hy
              · obtain rfl : q' = m := by omega
                rw [HDL.out] at hy; cases hy
                exact fun e => HE.out e.symm
        · have hmi : ¬ (m : Int) < (c.size : Int) := by omega
          have HX : Hid (c.data.toList.contains b = false) := by
            show _ = _
            rw [Bool.eq_false_iff]
            intro h3
            obtain ⟨q, hq⟩ := List.getElem?_of_mem (List.contains_iff_mem.1 h3)
            exact HN.out q b (by have := (List.getElem?_eq_some_iff.1 hq).1; simp at this; have e : c.data.size = c.size := rfl; omega) hq rfl
          go_wp2_with fail
          go_roundg g
          case measure => omega
          case rel => exact ⟨k + 1, n2, by simp, by omega, rfl, free_succ HF.out HBL.out HX.out⟩
    · have hki : ¬ (k : Int) < (s.size : Int) := by omega
      go_wp2
      go_ret
      exact ⟨ret_bool (hasAny_free HF.out (by rw [← Lib.size_eq]; omega)).symm, _, rfl⟩
end Go.Proofs.YtaohdicilfabeaaDoor

/- strings.IndexRune: a character beyond ASCII stands in no text of ASCII bytes, walked for the one text that is asked. -/
import Derived.Test.YtaohdicilfabeaaGreatDoorTkAttr
import Derived.Laws.Runes
namespace Go.Proofs.YtaohdicilfabeaaGreatDoor
open Go.RowKit

theorem below_drews {B : Nat} {a w : World} (h : Below B a w) (n : Nat) : Below B a (w.drewN n) := ⟨h.os, h.tape, h.output, h.size, h.block⟩
def five : ByteArray := ⟨#[34, 39, 60, 61, 96]⟩
theorem five_extract (k : Nat) (c : UInt8) (hc : 128 ≤ c.toNat) : Lib.indexByte (five.extract k five.size).data.toList c < 0 := by
  rw [indexByte_neg, Bool.eq_false_iff]
  intro h
  have hm := List.contains_iff_mem.1 h
  rw [Lib.extract_data] at hm
  have hm2 := List.mem_of_mem_drop (List.mem_of_mem_take hm)
  have : c = 34 ∨ c = 39 ∨ c = 60 ∨ c = 61 ∨ c = 96 := by simpa [five] using hm2
  rcases this with rfl | rfl | rfl | rfl | rfl <;> simp at hc

set_option maxRecDepth 100000 in
set_option maxHeartbeats 4000000 in
theorem indexRune_high (r : Int) (w : World) (h1 : 128 ≤ r) :
    Calls Tryz.prog 100 #[.string five, .int .i32 r] w fun e w' => e = .returned (.int .i64 (-1)) ∧ Below w.heap.size w w' := by
  have h2 : ¬ r < 128 := by omega
  have h0 : (0 : Int) ≤ r := by omega
  by_cases he : r = 65533
  · subst he
    clear h1 h2 h0
    go_enter Tryz.func100, Tryz.ntmps100
    go_wp2_with fail
    try go_step3
    go_wp2_with fail
    go_loopg [] 5 (fun g wx => ∃ i : Nat, i + g = 5 ∧ wx = w.iter five i)
    case atStart => exact ⟨0, rfl, rfl⟩
    case round =>
      obtain ⟨i, hig, rfl⟩ := hrel
      have h5 : five.size = 5 := rfl
      cases gk with
      | zero =>
        obtain rfl : i = 5 := by omega
        have hnx := fun ty => run_next_end (P := Tryz.prog) w five 5 ty (by omega)
        go_wp2
        go_ret
        exact ⟨rfl, (Below.refl _ _).alloc (Nat.le_refl _) _⟩
      | succ g =>
        have hi : i < five.size := by omega
        obtain ⟨x, hx⟩ : ∃ x : UInt8, five[i]'hi = x := ⟨_, rfl⟩
        have hx128 : x.toNat < 128 := by
          have ha : ∀ (j : Nat) b, five.data.toList[j]? = some b → b.toNat < 128 := ascii_of_all (by decide)
          exact ha i x (by rw [← hx]; exact Lib.data_getElem? five i hi)
        have hnx := fun ty => run_next_ascii (P := Tryz.prog) w five i ty hi (by rw [hx]; exact hx128)
        rw [hx] at hnx
        have hne : (((x.toNat : Nat) : Int) == 65533) = false := by rw [beq_eq_false_iff_ne]; omega
        clear hx h5
        go_wp2_with fail
        go_roundg g
        case measure => omega
        case rel => exact ⟨i + 1, by omega, rfl⟩
  · have he' : (r == 65533) = false := by simpa using he
    clear he
    by_cases hv : Lib.validRune r = true
    · have hv2 : Utf8.valid r = true := by rw [validRune_eq]; exact hv
      have hf := encode_facts r hv2 h1
      obtain ⟨rs, hrs⟩ : ∃ rs, Utf8.encode r = rs := ⟨_, rfl⟩
      rw [hrs] at hf
      go_enter Tryz.func100, Tryz.ntmps100
      go_wp2_with fail
      try go_step3
      go_wp2_with fail
      refine (validRune_any r _).mono ?_
      rintro e w1 ⟨rfl, rfl⟩
      rw [hv]
      clear hv
      have hn2 : 2 ≤ rs.size := hf.1
      have hn4 : rs.size ≤ 4 := hf.2.1
      have hlast : rs.size - 1 < rs.size := by omega
      obtain ⟨z, hz⟩ : ∃ z : UInt8, rs[rs.size - 1]'hlast = z := ⟨_, rfl⟩
      have hz128 : 128 ≤ z.toNat := by rw [← hz]; exact hf.2.2 hlast
      obtain ⟨n, hn⟩ : ∃ n, rs.size - 1 = n := ⟨_, rfl⟩
      have hns : (rs.size : Int) - 1 = (n : Int) := by omega
      have hn1 : n < rs.size := by omega
      have hnz : rs[n]'hn1 = z := by rw [← hz]; simp [hn]
      have hnr : (n : Int) < (rs.size : Int) := by omega
      have h5 : five.size = 5 := rfl
      have hn5 : n < five.size := by omega
      have hn5i : (n : Int) < 5 := by omega
      obtain ⟨y, hy⟩ : ∃ y : UInt8, five[n]'hn5 = y := ⟨_, rfl⟩
      have hyz : ((y.toNat : Int) != (z.toNat : Int)) = true := by
        have ha : ∀ (j : Nat) b, five.data.toList[j]? = some b → b.toNat < 128 := ascii_of_all (by decide)
        have := ha n y (by rw [← hy]; exact Lib.data_getElem? five n hn5)
        rw [bne_iff_ne]; omega
      clear hf hz hlast hn
      go_wp2_with fail
      go_step3
      go_wp2_with fail
      go_loopg [9] 1 (fun g i wx => i = .int .i64 (n : Int) ∧ wx = w)
      case atStart => exact ⟨rfl, rfl⟩
      case round =>
        obtain ⟨rfl, rfl⟩ := hrel
        go_wp2_with fail
        go_step3
        go_wp2_with fail
        go_quiet (fail)
        have HB : Hid (Below wr.heap.size wr (wr.drewN nq)) := below_drews (Below.refl _ _) nq
        generalize wr.drewN nq = wq at *
        go_wp2_with fail
        have hx := five_extract (n + 1) z hz128
        have hzb : ((z.toNat : Int)).toNat.toUInt8 = z := by simp
        have hn11 : ((n : Int) + 1).toNat = n + 1 := by omega
        have hn12 : (n : Int) + 1 ≤ 5 := by omega
        have hn10 : (0 : Int) ≤ (n : Int) + 1 := by omega
        go_quiet ((go_at_call 10; go_must (exact Calls.quiet_of_same ((indexByte_any _ _ _).mono fun e wz hz => ⟨hz.1, hz.2.symm⟩))))
        rw [h5] at hx
        rw [hzb]
        clear hzb
        generalize Lib.indexByte (five.extract (n + 1) 5).data.toList z = o at *
        go_wp2
        simp only [Exit.noGoto_ret, Exit.inBlock, Exit.then]
        go_ret
        exact ⟨rfl, HB.out.trans (below_drews (Below.refl _ _) _)⟩
    · have hv' : Lib.validRune r = false := by simpa using hv
      clear hv
      go_enter Tryz.func100, Tryz.ntmps100
      go_wp2_with fail
      try go_step3
      go_wp2_with fail
      refine (validRune_any r _).mono ?_
      rintro e w1 ⟨rfl, rfl⟩
      rw [hv']
      clear hv'
      go_wp2
      go_ret
      exact ⟨rfl, Below.refl _ _⟩
end Go.Proofs.YtaohdicilfabeaaGreatDoor

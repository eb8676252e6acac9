/- The small functions of package charref, walked. -/
import Derived.Test.YtaohdicilfabeaaGreatDoorTkLeaf
import Derived.Test.YtaohdicilfabeaaGreatDoorTkCr
namespace Go.Proofs.YtaohdicilfabeaaGreatDoor
open Go.RowKit

theorem cr_bits (b : UInt8) : (Tk.digit b = true ↔ 48 ≤ (b.toNat : Int) ∧ (b.toNat : Int) ≤ 57) ∧ (Tk.digit b = true → Tk.hex b = (b.toNat : Int) - 48) ∧
    (Tk.digit b = false → 97 ≤ bits .or .u8 (b.toNat : Int) 32 → bits .or .u8 (b.toNat : Int) 32 ≤ 102 → Tk.hex b = bits .or .u8 (b.toNat : Int) 32 - 97 + 10) ∧
    (Tk.digit b = false → ¬ (97 ≤ bits .or .u8 (b.toNat : Int) 32 ∧ bits .or .u8 (b.toNat : Int) 32 ≤ 102) → Tk.hex b = 16) := by
  have h : ∀ n : Fin 256, let b := UInt8.ofNat n; (Tk.digit b = true ↔ 48 ≤ (b.toNat : Int) ∧ (b.toNat : Int) ≤ 57) ∧ (Tk.digit b = true → Tk.hex b = (b.toNat : Int) - 48) ∧
    (Tk.digit b = false → 97 ≤ bits .or .u8 (b.toNat : Int) 32 → bits .or .u8 (b.toNat : Int) 32 ≤ 102 → Tk.hex b = bits .or .u8 (b.toNat : Int) 32 - 97 + 10) ∧
    (Tk.digit b = false → ¬ (97 ≤ bits .or .u8 (b.toNat : Int) 32 ∧ bits .or .u8 (b.toNat : Int) 32 ≤ 102) → Tk.hex b = 16) := by decide +kernel
  have h' := h ⟨b.toNat, b.toNat_lt⟩
  simp only [UInt8.ofNat_toNat] at h'
  exact h'
theorem bits_range (b : UInt8) : 32 ≤ bits .or .u8 (b.toNat : Int) 32 ∧ bits .or .u8 (b.toNat : Int) 32 ≤ 255 := by
  have h : ∀ n : Fin 256, 32 ≤ bits .or .u8 ((UInt8.ofNat n).toNat : Int) 32 ∧ bits .or .u8 ((UInt8.ofNat n).toNat : Int) 32 ≤ 255 := by decide +kernel
  have h' := h ⟨b.toNat, b.toNat_lt⟩
  simpa only [UInt8.ofNat_toNat] using h'
theorem hex_range (b : UInt8) : 0 ≤ Tk.hex b ∧ Tk.hex b ≤ 16 := by
  have h : ∀ n : Fin 256, 0 ≤ Tk.hex (UInt8.ofNat n) ∧ Tk.hex (UInt8.ofNat n) ≤ 16 := by decide +kernel
  have h' := h ⟨b.toNat, b.toNat_lt⟩
  simpa only [UInt8.ofNat_toNat] using h'

set_option maxHeartbeats 1000000 in
theorem crdigit_any (b : UInt8) (w : World) :
    Calls Tryz.prog 95 #[.int .u8 (b.toNat : Int)] w fun e w' => e = .returned (.int .i32 (Tk.hex b)) ∧ w = w' := by
  obtain ⟨h0, h1, h2, h3⟩ := cr_bits b
  have hr := bits_range b
  have H0 := Lib.hid h0
  have H1 := Lib.hid h1
  have H2 := Lib.hid h2
  have H3 := Lib.hid h3
  have hb := b.toNat_lt
  obtain ⟨x, hx⟩ : ∃ x, bits .or .u8 (b.toNat : Int) 32 = x := ⟨_, rfl⟩
  rw [hx] at hr H2 H3
  clear h0 h1 h2 h3
  by_cases hd : Tk.digit b = true
  · have hh := Lib.hid (H1.out hd)
    obtain ⟨ha, hc⟩ := H0.out.1 hd
    clear H2 H3 hx hr
    go_enter Tryz.func95, Tryz.ntmps95
    go_wp2
    go_ret
    exact ⟨ret_int hh.out.symm, rfl⟩
  · have hd' : Tk.digit b = false := by simpa using hd
    have hnd : ¬ (48 ≤ (b.toNat : Int) ∧ (b.toNat : Int) ≤ 57) := fun h => hd (H0.out.2 h)
    by_cases h97 : 97 ≤ x
    · by_cases h102 : x ≤ 102
      · have hh := Lib.hid (H2.out hd' h97 h102)
        clear H2 H3 H0 H1 hd hd'
        by_cases h48 : 48 ≤ (b.toNat : Int)
        · have h57 : ¬ (b.toNat : Int) ≤ 57 := fun h => hnd ⟨h48, h⟩
          clear hnd
          go_enter Tryz.func95, Tryz.ntmps95
          go_wp2
          go_ret
          exact ⟨ret_int hh.out.symm, rfl⟩
        · clear hnd
          go_enter Tryz.func95, Tryz.ntmps95
          go_wp2
          go_ret
          exact ⟨ret_int hh.out.symm, rfl⟩
      · have hh := Lib.hid (H3.out hd' (fun h => h102 h.2))
        clear H2 H3 H0 H1 hd hd'
        by_cases h48 : 48 ≤ (b.toNat : Int)
        all_goals
          (try have h57 : ¬ (b.toNat : Int) ≤ 57 := fun h => hnd ⟨h48, h⟩)
          clear hnd
          go_enter Tryz.func95, Tryz.ntmps95
          go_wp2
          go_ret
          exact ⟨ret_int hh.out.symm, rfl⟩
    · have hh := Lib.hid (H3.out hd' (fun h => h97 h.1))
      clear H2 H3 H0 H1 hd hd'
      by_cases h48 : 48 ≤ (b.toNat : Int)
      all_goals
        (try have h57 : ¬ (b.toNat : Int) ≤ 57 := fun h => hnd ⟨h48, h⟩)
        clear hnd
        go_enter Tryz.func95, Tryz.ntmps95
        go_wp2
        go_ret
        exact ⟨ret_int hh.out.symm, rfl⟩

set_option maxHeartbeats 1000000 in
theorem alnum_any (b : UInt8) (w : World) :
    Calls Tryz.prog 77 #[.int .u8 (b.toNat : Int)] w fun e w' => e = .returned (.bool (Tk.alnum b)) ∧ w = w' := by
  have h0 := (cr_bits b).1
  have h1 := tk_letter_bits b
  obtain ⟨x, hx⟩ : ∃ x, bits .or .u8 (b.toNat : Int) 32 = x := ⟨_, rfl⟩
  rw [hx] at h1
  have hr : ∀ v : Bool, (v = true ↔ (48 ≤ (b.toNat : Int) ∧ (b.toNat : Int) ≤ 57) ∨ (97 ≤ x ∧ x ≤ 122)) → v = Tk.alnum b := by
    intro v hv
    rw [Bool.eq_iff_iff, hv]
    unfold Tk.alnum
    rw [Bool.or_eq_true, h0, h1]
  have HR := Lib.hid hr
  clear h0 h1 hr
  by_cases h48 : 48 ≤ (b.toNat : Int)
  all_goals by_cases h57 : (b.toNat : Int) ≤ 57
  all_goals by_cases h97 : 97 ≤ x
  all_goals by_cases h122 : x ≤ 122
  all_goals
    go_enter Tryz.func77, Tryz.ntmps77
    go_wp2
    go_ret
    exact ⟨ret_bool (HR.out _ (by simp <;> omega)), rfl⟩
end Go.Proofs.YtaohdicilfabeaaGreatDoor

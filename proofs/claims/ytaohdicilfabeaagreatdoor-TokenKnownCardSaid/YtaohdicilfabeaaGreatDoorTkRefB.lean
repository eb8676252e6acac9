/- The answer's small functions on character references (selvedgeref02, selvedgeref03): begins, alnum, digit, One, the tables, walked. -/
import Derived.Test.YtaohdicilfabeaaGreatDoorTkRefA
import Derived.Test.YtaohdicilfabeaaGreatDoorTkRefCr
import Derived.Test.YtaohdicilfabeaaGreatDoorTkNum
import Derived.Test.YtaohdicilfabeaaGreatDoorTkRefTab
import Derived.Shelf.Strings.BuilderK
import Derived.Lib.RuneBytes
import Derived.Lib.QuoteBits
import Derived.Laws.BitsLemmas
namespace Go.Proofs.YtaohdicilfabeaaGreatDoor
open Go.RowKit
set_option linter.unusedVariables false
set_option linter.unusedSimpArgs false

theorem nmT_good : Tk.Names.Good nmT := ⟨by decide +kernel, by decide +kernel⟩
theorem nm_in : ∀ x ∈ nmT, x ∈ nm2T := by decide +kernel
theorem nm_out : ∀ x ∈ nm2T, x ∈ nmT := by decide +kernel

theorem at_begin (s t : ByteArray) (h : t.size ≤ s.size) : ((s.extract 0 t.size).toList == t.toList) = Lib.hasPrefix s.data.toList t.data.toList := by
  have := at_of s t 0 (by omega)
  simpa using this
theorem begin_long (s t : ByteArray) (h : s.size < t.size) : Lib.hasPrefix s.data.toList t.data.toList = false := by
  have := at_long s t 0 (by omega) (by omega)
  simpa using this
theorem refBegins3_any (s t : ByteArray) (w : World) :
    Calls Tryz.prog 71 #[.string s, .string t] w fun e w' => e = .returned (.bool (Lib.hasPrefix s.data.toList t.data.toList)) ∧ w = w' := by
  by_cases h : t.size ≤ s.size
  · have HE := Lib.hid (at_begin s t h)
    have h1 : (t.size : Int) ≤ (s.size : Int) := by omega
    go_enter Tryz.func71, Tryz.ntmps71
    go_wp2
    go_ret
    exact ⟨ret_bool HE.out, rfl⟩
  · have HE := Lib.hid (begin_long s t (by omega))
    have h1 : ¬ (t.size : Int) ≤ (s.size : Int) := by omega
    go_enter Tryz.func71, Tryz.ntmps71
    go_wp2
    go_ret
    exact ⟨ret_bool HE.out.symm, rfl⟩
theorem alnum_ints (b : UInt8) : Tk.alnum b = ((decide (48 ≤ (b.toNat : Int)) && decide ((b.toNat : Int) ≤ 57)) || ((decide (97 ≤ (b.toNat : Int)) && decide ((b.toNat : Int) ≤ 122)) || (decide (65 ≤ (b.toNat : Int)) && decide ((b.toNat : Int) ≤ 90)))) := by
  unfold Tk.alnum Tk.digit Tk.letter; rw [Bool.eq_iff_iff]; simp [UInt8.le_iff_toNat_le]; omega
theorem refAlnum_any (b : UInt8) (w : World) :
    Calls Tryz.prog 74 #[.int .u8 (b.toNat : Int)] w fun e w' => e = .returned (.bool (Tk.alnum b)) ∧ w = w' := by
  have HR := Lib.hid (alnum_ints b)
  rcases (show ((b.toNat : Int) < 48) ∨ (48 ≤ (b.toNat : Int) ∧ (b.toNat : Int) ≤ 57) ∨ (57 < (b.toNat : Int) ∧ (b.toNat : Int) < 65) ∨ (65 ≤ (b.toNat : Int) ∧ (b.toNat : Int) ≤ 90) ∨ (90 < (b.toNat : Int) ∧ (b.toNat : Int) < 97) ∨ (97 ≤ (b.toNat : Int) ∧ (b.toNat : Int) ≤ 122) ∨ (122 < (b.toNat : Int)) from by omega) with h | ⟨h, h'⟩ | ⟨h, h'⟩ | ⟨h, h'⟩ | ⟨h, h'⟩ | ⟨h, h'⟩ | h
  all_goals
    go_enter Tryz.func74, Tryz.ntmps74
    go_wp2
    go_ret
    exact ⟨ret_bool (by rw [HR.out, Bool.eq_iff_iff]; simp <;> omega), rfl⟩
/-- A digit's number; -1: none. -/
def hexOr (b : UInt8) : Int := if Tk.hex b < 16 then Tk.hex b else -1
theorem hex_ints (b : UInt8) : (48 ≤ (b.toNat : Int) ∧ (b.toNat : Int) ≤ 57 ∧ hexOr b = (b.toNat : Int) - 48) ∨ (97 ≤ (b.toNat : Int) ∧ (b.toNat : Int) ≤ 102 ∧ hexOr b = (b.toNat : Int) - 97 + 10) ∨ (65 ≤ (b.toNat : Int) ∧ (b.toNat : Int) ≤ 70 ∧ hexOr b = (b.toNat : Int) - 65 + 10) ∨
    (¬ (48 ≤ (b.toNat : Int) ∧ (b.toNat : Int) ≤ 57) ∧ ¬ (97 ≤ (b.toNat : Int) ∧ (b.toNat : Int) ≤ 102) ∧ ¬ (65 ≤ (b.toNat : Int) ∧ (b.toNat : Int) ≤ 70) ∧ hexOr b = -1) := by
  revert b
  have h : ∀ n : Fin 256, (48 ≤ ((UInt8.ofNat n).toNat : Int) ∧ ((UInt8.ofNat n).toNat : Int) ≤ 57 ∧ hexOr (UInt8.ofNat n) = ((UInt8.ofNat n).toNat : Int) - 48) ∨ (97 ≤ ((UInt8.ofNat n).toNat : Int) ∧ ((UInt8.ofNat n).toNat : Int) ≤ 102 ∧ hexOr (UInt8.ofNat n) = ((UInt8.ofNat n).toNat : Int) - 97 + 10) ∨ (65 ≤ ((UInt8.ofNat n).toNat : Int) ∧ ((UInt8.ofNat n).toNat : Int) ≤ 70 ∧ hexOr (UInt8.ofNat n) = ((UInt8.ofNat n).toNat : Int) - 65 + 10) ∨
    (¬ (48 ≤ ((UInt8.ofNat n).toNat : Int) ∧ ((UInt8.ofNat n).toNat : Int) ≤ 57) ∧ ¬ (97 ≤ ((UInt8.ofNat n).toNat : Int) ∧ ((UInt8.ofNat n).toNat : Int) ≤ 102) ∧ ¬ (65 ≤ ((UInt8.ofNat n).toNat : Int) ∧ ((UInt8.ofNat n).toNat : Int) ≤ 70) ∧ hexOr (UInt8.ofNat n) = -1) := by decide +kernel
  intro b
  have h' := h ⟨b.toNat, b.toNat_lt⟩
  simpa only [UInt8.ofNat_toNat] using h'
theorem refDigit3_any (b : UInt8) (w : World) :
    Calls Tryz.prog 92 #[.int .u8 (b.toNat : Int)] w fun e w' => e = .returned (.int .i32 (hexOr b)) ∧ w = w' := by
  have h255 : (b.toNat : Int) ≤ 255 := by have := b.toNat_lt; omega
  rcases hex_ints b with ⟨h1, h2, h3⟩ | ⟨h1, h2, h3⟩ | ⟨h1, h2, h3⟩ | ⟨h1, h2, h3, h4⟩
  · have HR := Lib.hid h3
    clear h3
    go_enter Tryz.func92, Tryz.ntmps92
    go_wp2
    go_ret
    exact ⟨ret_int HR.out.symm, rfl⟩
  · have HR := Lib.hid h3
    have h4 : ¬ (b.toNat : Int) ≤ 57 := by omega
    clear h3
    go_enter Tryz.func92, Tryz.ntmps92
    go_wp2
    go_ret
    exact ⟨ret_int HR.out.symm, rfl⟩
  · have HR := Lib.hid h3
    have h4 : ¬ (b.toNat : Int) ≤ 57 := by omega
    have h5 : ¬ 97 ≤ (b.toNat : Int) := by omega
    clear h3
    go_enter Tryz.func92, Tryz.ntmps92
    go_wp2
    go_ret
    exact ⟨ret_int HR.out.symm, rfl⟩
  · have HR := Lib.hid h4
    clear h4
    rcases (show ((b.toNat : Int) < 48) ∨ (57 < (b.toNat : Int) ∧ (b.toNat : Int) < 65) ∨ (70 < (b.toNat : Int) ∧ (b.toNat : Int) < 97) ∨ (102 < (b.toNat : Int)) from by omega) with h | ⟨h, h'⟩ | ⟨h, h'⟩ | h
    all_goals
      clear h1 h2 h3
      go_enter Tryz.func92, Tryz.ntmps92
      go_wp2
      go_ret
      exact ⟨ret_int HR.out.symm, rfl⟩

theorem i32_and63 (x : Int) (h0 : 0 ≤ x) (h1 : x < 2147483648) : bits .and .i32 x 63 = x % 64 := bits_mask .i32 31 (by decide) wraps_i32 6 (by decide) x h0 h1
theorem one_tail (x : Int) (h0 : 0 ≤ x) (h1 : x < 2147483648) : bits .or .u8 128 (bits .and .i32 x 63 % 256) = 128 + x % 64 := by
  rw [i32_and63 x h0 h1]
  have e : x % 64 % 256 = x % 64 := by omega
  rw [e]; exact u8_or128 _ (by omega) (by omega)

set_option maxHeartbeats 2000000 in
set_option maxRecDepth 100000 in
theorem refOne_any (r : Int) (hr0 : -2147483648 ≤ r) (hr1 : r ≤ 2147483647) (w : World) :
    Calls Tryz.prog 49 #[.int .i32 r] w fun e w' => e = .returned (.slice (some ⟨w.heap.size, 0, none⟩) (Lib.runeCells r).length (Lib.runeCells r).length) ∧ w' = w.alloc (.cells (Lib.runeCells r).toArray 5 (0, 0)) := by
  by_cases h0 : r < 0
  · have HR : Hid (Lib.runeCells r = [.int .u8 239, .int .u8 191, .int .u8 189]) := by show _ = _; unfold Lib.runeCells; rw [Lib.encodeRuneZ_bad (.inl h0)]; rfl
    rw [HR.out]
    clear HR
    go_enter Tryz.func49, Tryz.ntmps49
    go_wp2
    go_ret
    exact ⟨rfl, rfl⟩
  by_cases h1 : 1114111 < r
  · have HR : Hid (Lib.runeCells r = [.int .u8 239, .int .u8 191, .int .u8 189]) := by show _ = _; unfold Lib.runeCells; rw [Lib.encodeRuneZ_bad (.inr (.inr h1))]; rfl
    rw [HR.out]
    clear HR
    go_enter Tryz.func49, Tryz.ntmps49
    go_wp2
    go_ret
    exact ⟨rfl, rfl⟩
  have hn0 : ¬ r < 0 := h0
  have hn1 : ¬ 1114111 < r := h1
  replace h0 : 0 ≤ r := by omega
  replace h1 : r ≤ 1114111 := by omega
  rcases (show (r ≤ 127) ∨ (128 ≤ r ∧ r ≤ 2047) ∨ (2048 ≤ r ∧ r < 55296) ∨ (55296 ≤ r ∧ r ≤ 57343) ∨ (57343 < r ∧ r ≤ 65535) ∨ (65536 ≤ r) from by omega) with h | ⟨h, h'⟩ | ⟨h, h'⟩ | ⟨h, h'⟩ | ⟨h, h'⟩ | h
  · have HR : Hid (Lib.runeCells r = [.int .u8 r]) := by show _ = _; unfold Lib.runeCells; rw [Lib.encodeRuneZ_one h0 h]; rfl
    rw [HR.out]
    clear HR
    go_enter Tryz.func49, Tryz.ntmps49
    go_wp2
    go_ret
    first | exact ⟨rfl, rfl⟩ | (rw [one_tail _ (by omega) (by omega), one_tail _ (by omega) (by omega), one_tail _ (by omega) (by omega)]; exact ⟨rfl, rfl⟩) | (rw [one_tail _ (by omega) (by omega), one_tail _ (by omega) (by omega)]; exact ⟨rfl, rfl⟩) | (rw [one_tail _ (by omega) (by omega)]; exact ⟨rfl, rfl⟩)
  · have HR : Hid (Lib.runeCells r = [.int .u8 (192 + r / 64), .int .u8 (128 + r % 64)]) := by show _ = _; unfold Lib.runeCells; rw [Lib.encodeRuneZ_two h h']; rfl
    rw [HR.out]
    clear HR
    go_enter Tryz.func49, Tryz.ntmps49
    go_wp2
    go_ret
    first | exact ⟨rfl, rfl⟩ | (rw [one_tail _ (by omega) (by omega), one_tail _ (by omega) (by omega), one_tail _ (by omega) (by omega)]; exact ⟨rfl, rfl⟩) | (rw [one_tail _ (by omega) (by omega), one_tail _ (by omega) (by omega)]; exact ⟨rfl, rfl⟩) | (rw [one_tail _ (by omega) (by omega)]; exact ⟨rfl, rfl⟩)
  · have HR : Hid (Lib.runeCells r = [.int .u8 (224 + r / 4096), .int .u8 (128 + r / 64 % 64), .int .u8 (128 + r % 64)]) := by show _ = _; unfold Lib.runeCells; rw [Lib.encodeRuneZ_three (.inl ⟨h, h'⟩)]; rfl
    rw [HR.out]
    clear HR
    go_enter Tryz.func49, Tryz.ntmps49
    go_wp2
    go_ret
    first | exact ⟨rfl, rfl⟩ | (rw [one_tail _ (by omega) (by omega), one_tail _ (by omega) (by omega), one_tail _ (by omega) (by omega)]; exact ⟨rfl, rfl⟩) | (rw [one_tail _ (by omega) (by omega), one_tail _ (by omega) (by omega)]; exact ⟨rfl, rfl⟩) | (rw [one_tail _ (by omega) (by omega)]; exact ⟨rfl, rfl⟩)
  · have HR : Hid (Lib.runeCells r = [.int .u8 239, .int .u8 191, .int .u8 189]) := by show _ = _; unfold Lib.runeCells; rw [Lib.encodeRuneZ_bad (.inr (.inl ⟨h, h'⟩))]; rfl
    rw [HR.out]
    clear HR
    go_enter Tryz.func49, Tryz.ntmps49
    go_wp2
    go_ret
    first | exact ⟨rfl, rfl⟩ | (rw [one_tail _ (by omega) (by omega), one_tail _ (by omega) (by omega), one_tail _ (by omega) (by omega)]; exact ⟨rfl, rfl⟩) | (rw [one_tail _ (by omega) (by omega), one_tail _ (by omega) (by omega)]; exact ⟨rfl, rfl⟩) | (rw [one_tail _ (by omega) (by omega)]; exact ⟨rfl, rfl⟩)
  · have HR : Hid (Lib.runeCells r = [.int .u8 (224 + r / 4096), .int .u8 (128 + r / 64 % 64), .int .u8 (128 + r % 64)]) := by show _ = _; unfold Lib.runeCells; rw [Lib.encodeRuneZ_three (.inr ⟨h, h'⟩)]; rfl
    rw [HR.out]
    clear HR
    go_enter Tryz.func49, Tryz.ntmps49
    go_wp2
    go_ret
    first | exact ⟨rfl, rfl⟩ | (rw [one_tail _ (by omega) (by omega), one_tail _ (by omega) (by omega), one_tail _ (by omega) (by omega)]; exact ⟨rfl, rfl⟩) | (rw [one_tail _ (by omega) (by omega), one_tail _ (by omega) (by omega)]; exact ⟨rfl, rfl⟩) | (rw [one_tail _ (by omega) (by omega)]; exact ⟨rfl, rfl⟩)
  · have HR : Hid (Lib.runeCells r = [.int .u8 (240 + r / 262144), .int .u8 (128 + r / 4096 % 64), .int .u8 (128 + r / 64 % 64), .int .u8 (128 + r % 64)]) := by show _ = _; unfold Lib.runeCells; rw [Lib.encodeRuneZ_four h h1]; rfl
    rw [HR.out]
    clear HR
    go_enter Tryz.func49, Tryz.ntmps49
    go_wp2
    go_ret
    first | exact ⟨rfl, rfl⟩ | (rw [one_tail _ (by omega) (by omega), one_tail _ (by omega) (by omega), one_tail _ (by omega) (by omega)]; exact ⟨rfl, rfl⟩) | (rw [one_tail _ (by omega) (by omega), one_tail _ (by omega) (by omega)]; exact ⟨rfl, rfl⟩) | (rw [one_tail _ (by omega) (by omega)]; exact ⟨rfl, rfl⟩)
end Go.Proofs.YtaohdicilfabeaaGreatDoor

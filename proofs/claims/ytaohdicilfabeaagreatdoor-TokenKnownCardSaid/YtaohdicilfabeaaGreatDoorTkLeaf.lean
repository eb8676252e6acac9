/- The small functions of package token, walked: what each answers, in the words of TkPlain. -/
import Derived.Test.YtaohdicilfabeaaGreatDoorProg
import Derived.Test.YtaohdicilfabeaaGreatDoorTkShelf
import Derived.WalkKit
import Derived.WalkSpells
import Derived.WalkLawsBesides
import Derived.Deep.QuietTactic
import Derived.BigQuiet
import Derived.Deep.Draws
import Derived.Lib.Hide
namespace Go.Proofs.YtaohdicilfabeaaGreatDoor
open Go.RowKit

theorem ret_bool {a b : Bool} (h : a = b) : Ending.returned (.bool a) = .returned (.bool b) := by rw [h]
theorem ret_int {k : IntKind} {a b : Int} (h : a = b) : Ending.returned (.int k a) = .returned (.int k b) := by rw [h]
theorem ret_str {a b : ByteArray} (h : a = b) : Ending.returned (.string a) = .returned (.string b) := by rw [h]
theorem tk_letter_bits (b : UInt8) : (97 ≤ bits .or .u8 (b.toNat : Int) 32 ∧ bits .or .u8 (b.toNat : Int) 32 ≤ 122) ↔ Tk.letter b = true := by
  revert b
  have h : ∀ n : Fin 256, (decide (97 ≤ bits .or .u8 ((UInt8.ofNat n).toNat : Int) 32 ∧ bits .or .u8 ((UInt8.ofNat n).toNat : Int) 32 ≤ 122)) = Tk.letter (UInt8.ofNat n) := by decide +kernel
  intro b
  have h' := h ⟨b.toNat, b.toNat_lt⟩
  simp only [UInt8.ofNat_toNat] at h'
  rw [← h']
  simp

set_option maxHeartbeats 400000 in
theorem letter_any (b : UInt8) (w : World) :
    Calls Tryz.prog 18 #[.int .u8 (b.toNat : Int)] w fun e w' => e = .returned (.bool (Tk.letter b)) ∧ w = w' := by
  have hb := tk_letter_bits b
  by_cases h1 : 97 ≤ bits .or .u8 (b.toNat : Int) 32
  · have hr : decide (bits .or .u8 (b.toNat : Int) 32 ≤ 122) = Tk.letter b := by
      rw [Bool.eq_iff_iff, decide_eq_true_eq, ← hb]; exact ⟨fun h => ⟨h1, h⟩, fun h => h.2⟩
    have HR := Lib.hid hr
    clear hr hb
    go_enter Tryz.func18, Tryz.ntmps18
    go_wp2
    go_ret
    exact ⟨ret_bool HR.out, rfl⟩
  · have hr : Tk.letter b = false := by
      rw [Bool.eq_false_iff]; intro h; exact h1 (hb.2 h).1
    have HR := Lib.hid hr
    clear hr hb
    go_enter Tryz.func18, Tryz.ntmps18
    go_wp2
    go_ret
    exact ⟨ret_bool HR.out.symm, rfl⟩

set_option maxHeartbeats 400000 in
theorem digit_any (b : UInt8) (w : World) :
    Calls Tryz.prog 82 #[.int .u8 (b.toNat : Int)] w fun e w' => e = .returned (.bool (Tk.digit b)) ∧ w = w' := by
  have hr : Tk.digit b = (decide (48 ≤ (b.toNat : Int)) && decide ((b.toNat : Int) ≤ 57)) := by
    unfold Tk.digit; rw [Bool.eq_iff_iff]; simp [UInt8.le_iff_toNat_le]; omega
  have HR := Lib.hid hr
  clear hr
  by_cases h1 : 48 ≤ (b.toNat : Int)
  all_goals
    go_enter Tryz.func82, Tryz.ntmps82
    go_wp2
    go_ret
    exact ⟨ret_bool (by rw [HR.out]; simp <;> omega), rfl⟩

theorem indexByte_neg (l : List UInt8) (c : UInt8) : (Lib.indexByte l c < 0) ↔ l.contains c = false := by
  induction l with
  | nil => simp [Lib.indexByte]
  | cons b l ih =>
    have hg := Lib.indexByte_ge l c
    unfold Lib.indexByte
    by_cases h : b = c
    · subst h; simp
    · have h1 : (b == c) = false := by simpa using h
      have h2 : (c == b) = false := by simpa using fun e => h e.symm
      simp only [h1, Bool.false_eq_true, if_false, List.contains_cons, h2, Bool.false_or]
      rw [← ih]
      split
      · rename_i h3; have : Lib.indexByte l c = -1 := by simpa using h3
        omega
      · rename_i h3; have : ¬ Lib.indexByte l c = -1 := by simpa using h3
        omega
theorem take_snoc (s : ByteArray) (k : Nat) (h : k < s.size) : s.data.toList.take (k + 1) = s.data.toList.take k ++ [s[k]] := by
  rw [List.take_succ_eq_append_getElem (by simpa using h)]; rfl
theorem byte_back (b : UInt8) : ((b.toNat : Int)).toNat.toUInt8 = b := by simp

theorem made_snoc (s : ByteArray) (o : List UInt8) (k : Nat) (hlt : k < s.size) (h : (s.data.toList.take k).all (Tk.fit o) = true) (hb : Tk.fit o s[k] = true) : (s.data.toList.take (k + 1)).all (Tk.fit o) = true := by
  rw [take_snoc s k hlt, List.all_append, h]; simp [hb]
theorem made_false (s : ByteArray) (o : List UInt8) (k : Nat) (hlt : k < s.size) (hb : Tk.fit o s[k] = false) : Tk.made s.data.toList o = false := by
  unfold Tk.made
  have : s.data.toList.all (Tk.fit o) = false := by
    rw [List.all_eq_false]
    exact ⟨s[k], by have : s[k] = s.data.toList[k]'(by simpa using hlt) := rfl; rw [this]; exact List.getElem_mem _, by simp [hb]⟩
  rw [this]; rfl

set_option maxHeartbeats 1000000 in
theorem made_any (s o : ByteArray) (w : World) (hs : s.size ≤ 9223372036854775807) :
    Calls Tryz.prog 55 #[.string s, .string o] w fun e w' => e = .returned (.bool (Tk.made s.data.toList o.data.toList)) ∧ w = w' := by
  go_enter Tryz.func55, Tryz.ntmps55
  go_wp2
  go_loop [5, 8] (fun _ c => ∃ k : Nat, k ≤ s.size ∧ c = .int .i64 k ∧ (s.data.toList.take k).all (Tk.fit o.data.toList) = true) (fun _ c => s.size - (intOf c).toNat)
  case atStart => exact ⟨0, Nat.zero_le _, rfl, by simp⟩
  case round =>
    obtain ⟨k, hk, rfl, hall⟩ := hrel
    have HA := Lib.hid hall
    clear hall
    by_cases hlt : k < s.size
    · go_wp2_with (first
        | (go_at_call 18; refine (letter_any _ _).mono ?_; rintro e w' ⟨rfl, rfl⟩)
        | (go_at_call 82; refine (digit_any _ _).mono ?_; rintro e w' ⟨rfl, rfl⟩)
        | (go_at_call 10; refine (indexByte_any _ _ _).mono ?_; rintro e w' ⟨rfl, rfl⟩))
      case roundEnd => 
        go_round
        case rel => exact ⟨k + 1, by omega, by go_num, made_snoc s _ k hlt HA.out (by unfold Tk.fit; simp [*])⟩
        case measure => simp [intOf]; omega
      case roundEnd => 
        go_round
        case rel => exact ⟨k + 1, by omega, by go_num, made_snoc s _ k hlt HA.out (by unfold Tk.fit; simp [*])⟩
        case measure => simp [intOf]; omega
      · have h1 : ¬ Tk.letter s[k] = true := by assumption
        have h2 : ¬ Tk.digit s[k] = true := by assumption
        have h3 : Lib.indexByte o.data.toList s[k] < 0 := by assumption
        go_ret
        exact ⟨ret_bool (made_false s _ k hlt (by unfold Tk.fit; rw [(indexByte_neg _ _).1 h3]; simp [h1, h2])).symm, rfl⟩
      · have h3 : 0 ≤ Lib.indexByte o.data.toList s[k] := by assumption
        have h4 : o.data.toList.contains s[k] = true := by
          rcases Bool.eq_false_or_eq_true (o.data.toList.contains s[k]) with h | h
          · exact h
          · have := (indexByte_neg _ _).2 h; omega
        go_round
        case rel => exact ⟨k + 1, by omega, by go_num, made_snoc s _ k hlt HA.out (by unfold Tk.fit; rw [h4]; simp)⟩
        case measure => simp [intOf]; omega
    · go_wp2
      go_ret
      refine ⟨ret_bool ?_, rfl⟩
      have e : s.data.toList.take k = s.data.toList := List.take_of_length_le (by simp; omega)
      rw [e] at HA
      unfold Tk.made
      rw [HA.out, Lib.toList_data]; simp
end Go.Proofs.YtaohdicilfabeaaGreatDoor

/- One step of the reader: the next token, by whichever method reads it. -/
import Derived.Test.YtaohdicilfabeaaGreatDoorTkNext
import Derived.Test.YtaohdicilfabeaaGreatDoorTkLen
namespace Go.Proofs.YtaohdicilfabeaaGreatDoor
open Go.RowKit

theorem which_two {l : List UInt8} (h : which l ≠ 0) : Tk.begins l = true := by
  by_cases hb : Tk.begins l = true
  · exact hb
  · exact absurd (which_text (by simpa using hb)) h
/-- What a token is, by the method that reads it. -/
theorem one_which (dec : List UInt8 → Bool → List UInt8) (l : List UInt8) :
    (which l = 0 ∧ Tk.one dec l = .inr (Tk.text dec l)) ∨
    (which l = 1 ∧ 2 ≤ l.length ∧ Tk.one dec l = Tk.tag dec 1 (l.drop 1)) ∨
    (which l = 2 ∧ 2 ≤ l.length ∧ Tk.one dec l = if l.length = 2 ∨ Tk.letter (l.getD 2 0) = false then .inl 40 else Tk.tag dec 2 (l.drop 2)) ∨
    (which l = 3 ∧ 4 ≤ l.length ∧ Tk.one dec l = Tk.comment (l.drop 4)) ∨
    (which l = 4 ∧ Tk.one dec l = Tk.mark l) := by
  unfold which Tk.one
  by_cases h0 : Tk.begins l = false
  · rw [if_pos h0, if_pos h0]; exact .inl ⟨rfl, rfl⟩
  · rw [if_neg h0, if_neg h0]
    have h2 := Tk.begins_two_le (l := l) (by simpa using h0)
    by_cases h1 : Tk.letter (l.getD 1 0) = true
    · rw [if_pos h1, if_pos h1]; exact .inr (.inl ⟨rfl, h2, rfl⟩)
    · rw [if_neg h1, if_neg h1]
      by_cases h3 : l.getD 1 0 = 47
      · rw [if_pos h3, if_pos h3]; exact .inr (.inr (.inl ⟨rfl, h2, rfl⟩))
      · rw [if_neg h3, if_neg h3]
        by_cases h4 : Lib.hasPrefix l [60, 33, 45, 45] = true
        · rw [if_pos h4, if_pos h4]; exact .inr (.inr (.inr (.inl ⟨rfl, pre_len h4, rfl⟩)))
        · rw [if_neg h4, if_neg h4]; exact .inr (.inr (.inr (.inr ⟨rfl, rfl⟩)))

theorem step_any {nm : List (List UInt8 × Int × Bool)} {ot : List Int} {dec : List UInt8 → Bool → List UInt8} (hD : DecodeSaid nm ot dec) (hI : IndexAnySaid) (B R : Nat) (s : ByteArray) (p : Nat) (l : List UInt8) (v : Value) (ts : List Tk.Tok) (w : World) (h : Sta w B R s ts w p l v) (hgl : Gl nm ot w) (hB5 : 5 ≤ B) (h1 : 1 ≤ l.length) (hs : s.size ≤ 1000000) (hts : ts.length ≤ 1000000) :
    Calls Tryz.prog (methodOf (which l)) #[.pointer (some ⟨R, 0, none⟩)] w (StepPost B R s ts (Tk.one dec l) w) := by
  rcases one_which dec l with ⟨hw, ho⟩ | ⟨hw, h2, ho⟩ | ⟨hw, h2, ho⟩ | ⟨hw, h4, ho⟩ | ⟨hw, ho⟩
  · rw [hw, ho]; exact text_any hD B R s p l v ts w h hgl hB5 h1 hs hts
  · rw [hw, ho]; exact start_any hD hI B R s p l v ts w h hgl hB5 h1 hs hts
  · rw [hw, ho]; exact end_any hD hI B R s p l v ts w h hgl hB5 h2 hs hts
  · rw [hw, ho]; exact comment_any B R s p l v ts w h hgl hB5 h4 hs hts
  · rw [hw, ho]; exact mark_any B R s p l v ts w h hs hts
end Go.Proofs.YtaohdicilfabeaaGreatDoor

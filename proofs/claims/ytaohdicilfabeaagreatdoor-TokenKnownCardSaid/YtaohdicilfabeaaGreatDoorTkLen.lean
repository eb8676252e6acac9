/- Plain words: a token takes bytes. No program, no memory. -/
import Derived.Test.YtaohdicilfabeaaGreatDoorTkPlain
namespace Go.Proofs.YtaohdicilfabeaaGreatDoor.Tk
open Go

theorem past_le (c l : Bs) : (past c l).length ≤ l.length := (List.dropWhile_suffix _).length_le
theorem skip_len (l : Bs) : (skip l).length ≤ l.length := by unfold skip Lib.trimLeftS; exact (List.dropWhile_suffix _).length_le
theorem value_len {l v r : Bs} (h : value l = .inr (v, r)) : r.length ≤ l.length := by
  unfold value at h
  have a1 := past_le [34] (l.drop 1)
  have a2 := past_le [39] (l.drop 1)
  have a3 := past_le (blanks ++ [62]) l
  split at h
  · split at h
    · cases h
    · cases h; rw [List.length_drop] at *; omega
  · split at h
    · split at h
      · cases h
      · cases h; rw [List.length_drop] at *; omega
    · split at h
      · cases h
      · cases h; exact a3
theorem attr_len {dec : Bs → Bool → Bs} {l : Bs} {a : At} {r : Bs} (h : attr dec l = .inr (a, r)) : r.length ≤ l.length := by
  unfold attr at h
  have a1 : (attrRest l).length ≤ l.length := Nat.le_trans (skip_len _) (past_le _ _)
  split at h
  · cases h
  · split at h
    · split at h
      · cases h
      · rename_i hv
        cases h
        have := value_len hv
        have := skip_len ((attrRest l).drop 1)
        rw [List.length_drop] at this; omega
    · cases h; exact a1
theorem finish_eq {kind : Nat} {name : Bs} {sf : Bool} {acc : List At} {r : Bs} {t : Tok} {r' : Bs} (h : finish kind name sf acc r = .inr (t, r')) : r' = r ∧ t = ⟨kind, name, acc, sf, []⟩ := by
  unfold finish at h
  split at h
  · cases h
  · cases h; exact ⟨rfl, rfl⟩
theorem tagLoop_len {dec : Bs → Bool → Bs} {kind : Nat} {name : Bs} : ∀ (f : Nat) (l : Bs) (acc : List At) {t : Tok} {r : Bs}, tagLoop dec kind name f l acc = .inr (t, r) → r.length ≤ l.length
  | 0, _, _, _, _, h => by cases h
  | f + 1, l, acc, t, r, h => by
    have a1 := skip_len l
    unfold tagLoop at h
    split at h
    · cases h
    · split at h
      · rw [(finish_eq h).1, List.length_drop]; omega
      · split at h
        · rw [(finish_eq h).1, List.length_drop]; omega
        · split at h
          · cases h
          · split at h
            · cases h
            · rename_i ha
              have := attr_len ha
              split at h
              · cases h
              · split at h
                · cases h
                · have := tagLoop_len f _ _ h
                  omega
theorem tag_len {dec : Bs → Bool → Bs} {kind : Nat} {l : Bs} {t : Tok} {r : Bs} (h : tag dec kind l = .inr (t, r)) : r.length ≤ l.length := by
  unfold tag at h
  split at h
  · cases h
  · exact Nat.le_trans (tagLoop_len _ _ _ h) (past_le _ _)
theorem comment_len {l : Bs} {t : Tok} {r : Bs} (h : comment l = .inr (t, r)) : r.length ≤ l.length := by
  unfold comment at h
  split at h
  · cases h
  · dsimp only at h
    split at h
    · cases h
    · cases h; rw [List.length_drop]; omega
theorem mark_len {l : Bs} {t : Tok} {r : Bs} (h : mark l = .inr (t, r)) : r.length < l.length := by
  unfold mark at h
  split at h
  · cases h
  · rename_i hl
    split at h
    · cases h
    · cases h
      have := past_le [62] (l.drop 9)
      rw [List.length_drop] at *
      have : ¬ l.length < 9 := fun h => hl (.inl h)
      omega
theorem begins_two_le {l : Bs} (h : begins l = true) : 2 ≤ l.length := by
  match l, h with
  | [], h => cases h
  | [c], h => unfold begins at h; split at h <;> simp_all
  | _ :: _ :: _, _ => simp
theorem one_len {dec : Bs → Bool → Bs} {l : Bs} {t : Tok} {r : Bs} (hl : l ≠ []) (h : one dec l = .inr (t, r)) : r.length < l.length := by
  have hpos := List.length_pos_iff.2 hl
  unfold one at h
  split at h
  · cases h; rw [List.length_drop]; omega
  · rename_i hb
    have h2 := begins_two_le (l := l) (by simpa using hb)
    split at h
    · have := tag_len h; rw [List.length_drop] at this; omega
    · split at h
      · split at h
        · cases h
        · have := tag_len h; rw [List.length_drop] at this; omega
      · split at h
        · have := comment_len h; rw [List.length_drop] at this; omega
        · exact mark_len h
end Go.Proofs.YtaohdicilfabeaaGreatDoor.Tk

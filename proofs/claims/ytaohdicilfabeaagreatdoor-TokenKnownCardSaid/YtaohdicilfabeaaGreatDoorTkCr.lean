/- Plain words: character references, as functions on lists of bytes. No program, no memory. -/
import Derived.Test.YtaohdicilfabeaaGreatDoorTkPlain
import Derived.Lib.RuneBytes
import Derived.Lib.UnsafeStr
import Derived.Lib.Small
namespace Go.Proofs.YtaohdicilfabeaaGreatDoor.Tk
open Go

/-- The names (with the character, and whether it stands without ';'). -/
abbrev Names := List (Bs × Int × Bool)
def alnum (c : UInt8) : Bool := digit c || letter c
def hex (c : UInt8) : Int := if digit c then (c.toNat : Int) - 48 else if 65 ≤ c ∧ c ≤ 70 then (c.toNat : Int) - 55 else if 97 ≤ c ∧ c ≤ 102 then (c.toNat : Int) - 87 else 16
/-- How many digits, and the number behind them. -/
def digits (base : Int) : Bs → Int → Nat × Int
  | [], n => (0, n)
  | c :: r, n => if hex c < base then ((digits base r (min (n * base + hex c) 1114112)).1 + 1, (digits base r (min (n * base + hex c) 1114112)).2) else (0, n)
def fixed (others : List Int) (n : Int) : Int :=
  if n = 0 ∨ Lib.validRune n = false then 65533 else if 128 ≤ n ∧ n ≤ 159 ∧ others.getD (n - 128).toNat 0 ≠ 0 then others.getD (n - 128).toNat 0 else n
def hexed (s : Bs) : Bool := Lib.hasPrefix s [120] || Lib.hasPrefix s [88]
def numberAt (others : List Int) (s rest : Bs) (base : Int) : Option (Int × Nat) :=
  if (digits base rest 0).1 = 0 then none else some (fixed others (digits base rest 0).2, s.length - (Lib.trimPrefix (rest.drop (digits base rest 0).1) [59]).length)
def number (others : List Int) (s : Bs) : Option (Int × Nat) := if hexed s then numberAt others s (s.drop 1) 16 else numberAt others s s 10
def nameAt (names : Names) (i : Nat) : Bs × Int × Bool := names.getD i ([], 0, false)
def cmpN (names : Names) (i : Nat) (word : Bs) : Int := Lib.compareBytes (nameAt names i).1 word
/-- The place that the search by halves finds. -/
def bs (names : Names) (word : Bs) : Nat → Nat → Nat → Nat
  | 0, i, _ => i
  | f + 1, i, j => if i < j then (if cmpN names ((i + j) / 2) word < 0 then bs names word f ((i + j) / 2 + 1) j else bs names word f i ((i + j) / 2)) else i
def place (names : Names) (word : Bs) : Nat := bs names word names.length 0 names.length
def found (names : Names) (word : Bs) : Bool := decide (place names word < names.length) && decide (cmpN names (place names word) word = 0)
def findFrom (names : Names) (attr : Bool) (s : Bs) : Nat → Option (Int × Nat)
  | 0 => none
  | k + 1 =>
    if found names ((s.drop 1).take (k + 1)) = false then findFrom names attr s k
    else if s[k + 2]? = some 59 then some ((nameAt names (place names ((s.drop 1).take (k + 1)))).2.1, k + 3)
    else if (nameAt names (place names ((s.drop 1).take (k + 1)))).2.2 = false then findFrom names attr s k
    else if attr = true ∧ (s[k + 2]?).any (fun c => c == 61 || alnum c) = true then none
    else some ((nameAt names (place names ((s.drop 1).take (k + 1)))).2.1, k + 2)
def run1 (s : Bs) : Nat := ((s.drop 1).takeWhile alnum).length
def find (names : Names) (others : List Int) (attr : Bool) (s : Bs) : Option (Int × Nat) :=
  if Lib.hasPrefix s [38] = false then none
  else if Lib.hasPrefix s [38, 35] = true then (number others (s.drop 2)).map fun x => (x.1, x.2 + 2)
  else findFrom names attr s (run1 s)
/-- A text without references, f bytes at most. -/
def decF (names : Names) (others : List Int) (attr : Bool) : Nat → Bs → Bs
  | 0, _ => []
  | _ + 1, [] => []
  | f + 1, c :: s => match find names others attr (c :: s) with
    | some (r, n) => Lib.encodeRune r ++ decF names others attr f ((c :: s).drop n)
    | none => c :: decF names others attr f s
def dec (names : Names) (others : List Int) (s : Bs) (attr : Bool) : Bs := decF names others attr s.length s

theorem digits_le (base : Int) : ∀ (l : Bs) (n : Int), (digits base l n).1 ≤ l.length
  | [], _ => Nat.le_refl _
  | c :: r, n => by
    unfold digits; split
    · have := digits_le base r (min (n * base + hex c) 1114112); simp; omega
    · simp
theorem trimPrefix_len (l p : Bs) : (Lib.trimPrefix l p).length ≤ l.length := by
  unfold Lib.trimPrefix; split
  · rw [List.length_drop]; omega
  · exact Nat.le_refl _
theorem numberAt_len {others : List Int} {s rest : Bs} {base r : Int} {n : Nat} (hr : rest.length ≤ s.length) (h : numberAt others s rest base = some (r, n)) : 1 ≤ n ∧ n ≤ s.length := by
  unfold numberAt at h
  split at h
  · cases h
  · rename_i h0
    cases h
    have h1 := digits_le base rest 0
    have h2 := trimPrefix_len (rest.drop (digits base rest 0).1) [59]
    rw [List.length_drop] at h2
    omega
theorem number_len {others : List Int} {s : Bs} {r : Int} {n : Nat} (h : number others s = some (r, n)) : 1 ≤ n ∧ n ≤ s.length := by
  unfold number at h
  split at h
  · exact numberAt_len (by rw [List.length_drop]; omega) h
  · exact numberAt_len (Nat.le_refl _) h
theorem findFrom_len {names : Names} {attr : Bool} {s : Bs} : ∀ (k : Nat) {r : Int} {n : Nat}, k + 1 ≤ s.length → findFrom names attr s k = some (r, n) → 1 ≤ n ∧ n ≤ s.length
  | 0, _, _, _, h => by cases h
  | k + 1, r, n, hk, h => by
    unfold findFrom at h
    split at h
    · exact findFrom_len k (by omega) h
    · split at h
      · rename_i h59
        cases h
        have := (List.getElem?_eq_some_iff.1 h59).1
        omega
      · split at h
        · exact findFrom_len k (by omega) h
        · split at h
          · cases h
          · cases h; omega
theorem run1_len {s : Bs} (h : s ≠ []) : run1 s + 1 ≤ s.length := by
  have h1 := (List.takeWhile_sublist alnum (l := s.drop 1)).length_le
  have h2 := List.length_pos_iff.2 h
  unfold run1; rw [List.length_drop] at h1; omega
theorem find_len {names : Names} {others : List Int} {attr : Bool} {s : Bs} {r : Int} {n : Nat} (h : find names others attr s = some (r, n)) : 1 ≤ n ∧ n ≤ s.length := by
  unfold find at h
  split at h
  · cases h
  · rename_i h0
    split at h
    · rename_i h1
      cases hn : number others (s.drop 2) with
      | none => rw [hn] at h; cases h
      | some x =>
        rw [hn] at h; cases h
        have := number_len (r := x.1) (n := x.2) hn
        rw [List.length_drop] at this
        omega
    · exact findFrom_len _ (run1_len (by intro e; subst e; exact h0 rfl)) h
theorem decF_more (names : Names) (others : List Int) (attr : Bool) : ∀ (f g : Nat) (s : Bs), s.length ≤ f → s.length ≤ g → decF names others attr f s = decF names others attr g s
  | 0, g, s, hf, _ => by
    have : s = [] := List.length_eq_zero_iff.1 (by omega)
    subst this; cases g <;> rfl
  | f + 1, 0, s, _, hg => by
    have : s = [] := List.length_eq_zero_iff.1 (by omega)
    subst this; rfl
  | f + 1, g + 1, [], _, _ => rfl
  | f + 1, g + 1, c :: s, hf, hg => by
    unfold decF
    simp only [List.length_cons] at hf hg
    split
    · rename_i r n h
      have := find_len h
      rw [decF_more names others attr f g _ (by rw [List.length_drop]; simp; omega) (by rw [List.length_drop]; simp; omega)]
    · rw [decF_more names others attr f g s (by omega) (by omega)]
theorem dec_nil (names : Names) (others : List Int) (attr : Bool) : dec names others [] attr = [] := rfl
theorem dec_cons (names : Names) (others : List Int) (attr : Bool) (c : UInt8) (s : Bs) : dec names others (c :: s) attr = match find names others attr (c :: s) with
    | some (r, n) => Lib.encodeRune r ++ dec names others ((c :: s).drop n) attr
    | none => c :: dec names others s attr := by
  show decF names others attr (s.length + 1) (c :: s) = _
  unfold decF
  split
  · rename_i r n h
    have := find_len h
    congr 1
    exact decF_more names others attr _ _ _ (by rw [List.length_drop]; simp; omega) (Nat.le_refl _)
  · rfl
theorem find_none {names : Names} {others : List Int} {attr : Bool} {c : UInt8} {s : Bs} (h : c ≠ 38) : find names others attr (c :: s) = none := by
  unfold find
  rw [if_pos]
  unfold Lib.hasPrefix; simp [List.isPrefixOf]; exact fun e => h e.symm
/-- Bytes ahead of the first '&' stay. -/
theorem dec_skip (names : Names) (others : List Int) (attr : Bool) : ∀ (u s : Bs), (∀ c ∈ u, c ≠ 38) → dec names others (u ++ s) attr = u ++ dec names others s attr
  | [], s, _ => rfl
  | c :: u, s, h => by
    rw [List.cons_append, dec_cons, find_none (h c (by simp))]
    show c :: dec names others (u ++ s) attr = _
    rw [dec_skip names others attr u s (fun x hx => h x (by simp [hx]))]; rfl
end Go.Proofs.YtaohdicilfabeaaGreatDoor.Tk

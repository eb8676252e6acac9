/- Plain laws: a plain text, tags, values, as Tk.tokens reads them. No program, no memory. -/
import Derived.Test.YtaohdicilfabeaaGreatDoorTkLen
import Derived.Test.YtaohdicilfabeaaGreatDoorTkCr
namespace Go.Proofs.YtaohdicilfabeaaGreatDoor.Tk
open Go

theorem indexByte_none : ∀ {l : Bs} {c : UInt8}, (∀ x ∈ l, x ≠ c) → Lib.indexByte l c = -1
  | [], _, _ => rfl
  | b :: l, c, h => by
    have h0 : (b == c) = false := by simpa using h b (by simp)
    have h1 := indexByte_none (l := l) (c := c) (fun x hx => h x (by simp [hx]))
    unfold Lib.indexByte
    rw [h0, h1]; rfl
theorem indexByte_neg : ∀ {l : Bs} {c : UInt8}, Lib.indexByte l c < 0 → ∀ x ∈ l, x ≠ c
  | [], _, _, x, hx => by simp at hx
  | b :: l, c, h, x, hx => by
    unfold Lib.indexByte at h
    split at h
    · omega
    · rename_i hb
      rcases List.mem_cons.1 hx with rfl | hx
      · simpa using hb
      · refine indexByte_neg (l := l) ?_ x hx
        split at h
        · rename_i h1
          rw [beq_iff_eq] at h1; omega
        · have := Lib.indexByte_ge l c; omega
theorem begins_ne {c : UInt8} (r : Bs) (h : c ≠ 60) : begins (c :: r) = false := by
  unfold begins; split
  · rename_i heq; injection heq with h1 _; exact absurd h1 h
  · rfl
theorem begins_lt (d : UInt8) (r : Bs) : begins (60 :: d :: r) = (letter d || d == 47 || d == 33 || d == 63) := rfl
theorem run_free : ∀ {l : Bs}, (∀ c ∈ l, c ≠ 60) → run l = l.length
  | [], _ => rfl
  | c :: r, h => by
    unfold run
    rw [begins_ne r (h c (by simp)), run_free (l := r) (fun x hx => h x (by simp [hx]))]; simp
theorem go_nil (dec : Bs → Bool → Bs) (f p : Nat) (acc : List Tok) : go dec (f + 1) p [] acc = (acc, 0, 0) := by unfold go; simp
theorem go_cons (dec : Bs → Bool → Bs) (f p : Nat) (l : Bs) (acc : List Tok) (hl : l ≠ []) {t : Tok} {r : Bs} (h : one dec l = .inr (t, r)) : go dec (f + 1) p l acc = go dec f (p + (l.length - r.length)) r (acc ++ [t]) := by
  rw [show go dec (f + 1) p l acc = if l = [] then (acc, 0, 0) else match one dec l with
      | .inl e => ([], e, p)
      | .inr (t, r) => go dec f (p + (l.length - r.length)) r (acc ++ [t]) from rfl, if_neg hl, h]
theorem tokens_go {dec : Bs → Bool → Bs} {l : Bs} (hl : l.length ≤ 65536) (h0 : ∀ x ∈ l, x ≠ 0) : tokens dec l = go dec (l.length + 1) 0 l [] := by
  unfold tokens
  rw [if_neg (by omega), if_neg (by rw [indexByte_none h0]; decide)]

/-- A plain text is one token, itself. -/
theorem plain_tokens {dec : Bs → Bool → Bs} {l : Bs} (hd : dec l false = l) (hl : l.length ≤ 65536) (h : ∀ x ∈ l, x ≠ 60 ∧ x ≠ 0) (hne : l ≠ []) :
    tokens dec l = ([⟨3, [], [], false, l⟩], 0, 0) := by
  rw [tokens_go hl (fun x hx => (h x hx).2)]
  have hpos := List.length_pos_iff.2 hne
  obtain ⟨c, r, rfl⟩ := List.exists_cons_of_ne_nil hne
  have h1 : one dec (c :: r) = .inr (⟨3, [], [], false, c :: r⟩, []) := by
    unfold one
    rw [if_pos (begins_ne r (h c (by simp)).1)]
    unfold text
    have : run ((c :: r).drop 1) + 1 = (c :: r).length := by
      show run r + 1 = _
      rw [run_free (fun x hx => (h x (by simp [hx])).1)]; rfl
    rw [this, List.take_length, List.drop_length, hd]
  rw [go_cons dec _ _ _ _ hne h1]
  show go dec (r.length + 1) _ _ _ = _
  rw [go_nil]; rfl
theorem dec_free {nm : Names} {ot : List Int} {l : Bs} (b : Bool) (h : ∀ x ∈ l, x ≠ 38) : dec nm ot l b = l := by
  have := dec_skip nm ot b l [] h
  rw [List.append_nil, dec_nil, List.append_nil] at this; exact this

theorem upto_hit {s n : Bs} {c : UInt8} {r : Bs} (hn : ∀ x ∈ n, s.contains x = false) (hc : s.contains c = true) : upto s (n ++ c :: r) = n ∧ past s (n ++ c :: r) = c :: r := by
  induction n with
  | nil => unfold upto past; simp only [List.nil_append, List.takeWhile_cons, List.dropWhile_cons, hc]; simp
  | cons x n ih =>
    have hx := hn x (by simp)
    obtain ⟨a, b⟩ := ih (fun y hy => hn y (by simp [hy]))
    unfold upto past at *
    simp only [List.cons_append, List.takeWhile_cons, List.dropWhile_cons, hx]
    simp only [Bool.not_false, if_true, a, b, and_self]
theorem skip_keep {c : UInt8} (r : Bs) (h : blanks.contains c = false) : skip (c :: r) = c :: r := by
  unfold skip Lib.trimLeftS; rw [List.dropWhile_cons, h]; rfl
theorem skip_drop {c : UInt8} (r : Bs) (h : blanks.contains c = true) : skip (c :: r) = skip r := by
  unfold skip Lib.trimLeftS; rw [List.dropWhile_cons, h]; rfl
/-- Is it a letter or a digit? -/
def word (n : Bs) : Prop := (∀ x ∈ n, letter x = true ∨ digit x = true) ∧ ∃ c r, n = c :: r ∧ letter c = true
theorem small_letter (c : UInt8) : letter (low c) = letter c := by
  unfold letter low; simp only [UInt8.le_iff_toNat_le, Bool.and_eq_true, decide_eq_true_eq]
  split
  · rename_i h
    have : (c + 32).toNat = c.toNat + 32 := by
      have h2 : c.toNat ≤ 90 := h.2
      rw [UInt8.toNat_add]; show (c.toNat + 32) % 256 = _; omega
    rw [this, Bool.eq_iff_iff]; simp
    have h1 : 65 ≤ c.toNat := h.1
    have h2 : c.toNat ≤ 90 := h.2
    omega
  · rfl
theorem small_digit {c : UInt8} (h : digit c = true) : digit (low c) = true := by
  have : low c = c := by
    unfold low; rw [if_neg]
    unfold digit at h
    simp only [UInt8.le_iff_toNat_le, Bool.and_eq_true, decide_eq_true_eq] at *
    have h2 : c.toNat ≤ 57 := h.2
    intro h3
    have h4 : 65 ≤ c.toNat := h3.1
    omega
  rw [this]; exact h
theorem word_made {n : Bs} (h : word n) : made (small n) [] = true := by
  obtain ⟨c, r, rfl, _⟩ := h.2
  unfold made
  rw [Bool.and_eq_true]
  refine ⟨?_, rfl⟩
  rw [List.all_eq_true]
  intro x hx
  unfold small at hx
  obtain ⟨y, hy, rfl⟩ := List.mem_map.1 hx
  unfold fit
  rcases h.1 y hy with h1 | h1
  · rw [small_letter, h1]; rfl
  · rw [small_digit h1]; simp
theorem word_stop {n : Bs} (h : word n) : ∀ x ∈ n, (blanks ++ [47, 62]).contains x = false := by
  intro x hx
  rcases h.1 x hx with h1 | h1
  all_goals
    rw [Bool.eq_false_iff]; intro h2
    have h3 : x = 9 ∨ x = 10 ∨ x = 12 ∨ x = 32 ∨ x = 47 ∨ x = 62 := by simpa [blanks] using h2
    rcases h3 with rfl | rfl | rfl | rfl | rfl | rfl <;> exact absurd h1 (by decide)
theorem tag_close (dec : Bs → Bool → Bs) (k : Nat) {n : Bs} (h : word n) (r : Bs) : tag dec k (n ++ 62 :: r) = .inr (⟨k, small n, [], false, []⟩, r) := by
  obtain ⟨a, b⟩ := upto_hit (s := blanks ++ [47, 62]) (c := 62) (r := r) (word_stop h) (by decide)
  unfold tag
  rw [a, b, word_made h, if_neg (by decide)]
  show tagLoop dec k (small n) (16 + 1) (62 :: r) [] = _
  unfold tagLoop
  rw [skip_keep r (by decide), if_neg (by simp), if_pos (by simp [Lib.hasPrefix])]
  unfold finish
  rw [if_neg (by simp)]; rfl
theorem tag_self (dec : Bs → Bool → Bs) {n : Bs} (h : word n) (r : Bs) : tag dec 1 (n ++ 47 :: 62 :: r) = .inr (⟨1, small n, [], true, []⟩, r) := by
  obtain ⟨a, b⟩ := upto_hit (s := blanks ++ [47, 62]) (c := 47) (r := 62 :: r) (word_stop h) (by decide)
  unfold tag
  rw [a, b, word_made h, if_neg (by decide)]
  show tagLoop dec 1 (small n) (16 + 1) (47 :: 62 :: r) [] = _
  unfold tagLoop
  rw [skip_keep _ (by decide), if_neg (by simp), if_neg (by simp [Lib.hasPrefix]), if_pos (by simp [Lib.hasPrefix])]
  unfold finish
  rw [if_neg (by simp)]; rfl
theorem one_start (dec : Bs → Bool → Bs) {c : UInt8} (r : Bs) (h : letter c = true) : one dec (60 :: c :: r) = tag dec 1 (c :: r) := by
  unfold one
  rw [begins_lt, h, if_neg (by simp)]
  show (if letter c = true then _ else _) = _
  rw [if_pos h]; rfl
theorem one_end (dec : Bs → Bool → Bs) {c : UInt8} (r : Bs) (h : letter c = true) : one dec (60 :: 47 :: c :: r) = tag dec 2 (c :: r) := by
  unfold one
  rw [begins_lt, if_neg (by decide)]
  show (if letter 47 = true then _ else if (47 : UInt8) = 47 then (if (60 :: 47 :: c :: r).length = 2 ∨ letter c = false then _ else _) else _) = _
  rw [if_neg (by decide), if_pos rfl, if_neg (by simp [h])]; rfl
def tagsOf (n : Bs) : Bs := [60] ++ n ++ [62, 60, 47] ++ n ++ [62, 60] ++ n ++ [47, 62]
theorem word_nz {n : Bs} (h : word n) : ∀ x ∈ n, x ≠ 0 := by
  intro x hx e; subst e
  rcases h.1 0 hx with h1 | h1 <;> exact absurd h1 (by decide)
/-- Tags of any name. -/
theorem tags_tokens (dec : Bs → Bool → Bs) {n : Bs} (h : word n) (hl : n.length ≤ 200) : tokens dec (tagsOf n) = ([⟨1, small n, [], false, []⟩, ⟨2, small n, [], false, []⟩, ⟨1, small n, [], true, []⟩], 0, 0) := by
  have hz := word_nz h
  rw [tokens_go (by unfold tagsOf; simp; omega) (by
    intro x hx; unfold tagsOf at hx
    simp only [List.mem_append, List.mem_cons, List.not_mem_nil, or_false] at hx
    rcases hx with ((((((rfl | hx) | (rfl | rfl | rfl)) | hx) | (rfl | rfl)) | hx) | (rfl | rfl)) <;> first | decide | exact hz _ hx)]
  obtain ⟨c, r, rfl, hc⟩ := h.2
  have e0 : tagsOf (c :: r) = 60 :: c :: (r ++ 62 :: 60 :: 47 :: c :: (r ++ 62 :: 60 :: c :: (r ++ [47, 62]))) := by unfold tagsOf; simp
  have h1 : one dec (tagsOf (c :: r)) = .inr (⟨1, small (c :: r), [], false, []⟩, 60 :: 47 :: c :: (r ++ 62 :: 60 :: c :: (r ++ [47, 62]))) := by
    rw [e0, one_start _ _ hc]; exact tag_close dec 1 h _
  have h2 : one dec (60 :: 47 :: c :: (r ++ 62 :: 60 :: c :: (r ++ [47, 62]))) = .inr (⟨2, small (c :: r), [], false, []⟩, 60 :: c :: (r ++ [47, 62])) := by
    rw [one_end _ _ hc]; exact tag_close dec 2 h _
  have h3 : one dec (60 :: c :: (r ++ [47, 62])) = .inr (⟨1, small (c :: r), [], true, []⟩, []) := by
    rw [one_start _ _ hc]; exact tag_self dec h []
  obtain ⟨f, hf⟩ : ∃ f, (tagsOf (c :: r)).length + 1 = f + 1 + 1 + 1 + 1 := ⟨(tagsOf (c :: r)).length - 3, by unfold tagsOf; simp; omega⟩
  rw [hf, go_cons dec _ _ _ _ (by rw [e0]; simp) h1, go_cons dec _ _ _ _ (by simp) h2, go_cons dec _ _ _ _ (by simp) h3, go_nil]; rfl

def valuesOf (v : Bs) : Bs := [60, 112, 32, 97, 61, 34] ++ v ++ [34, 32, 98, 32, 61, 32, 39] ++ v ++ [39, 62]
theorem value_double {v : Bs} (h : ∀ x ∈ v, x ≠ 34) (r : Bs) : value (34 :: (v ++ 34 :: r)) = .inr (v, r) := by
  obtain ⟨a, b⟩ := upto_hit (s := [34]) (n := v) (c := 34) (r := r) (fun x hx => by simpa using h x hx) (by decide)
  unfold value
  rw [if_pos (by simp [Lib.hasPrefix]), List.drop_one, List.tail_cons, a, b, if_neg (by simp)]; rfl
theorem value_single {v : Bs} (h : ∀ x ∈ v, x ≠ 39) (r : Bs) : value (39 :: (v ++ 39 :: r)) = .inr (v, r) := by
  obtain ⟨a, b⟩ := upto_hit (s := [39]) (n := v) (c := 39) (r := r) (fun x hx => by simpa using h x hx) (by decide)
  unfold value
  rw [if_neg (by simp [Lib.hasPrefix]), if_pos (by simp [Lib.hasPrefix]), List.drop_one, List.tail_cons, a, b, if_neg (by simp)]; rfl
theorem attr_a {dec : Bs → Bool → Bs} {v : Bs} (h : ∀ x ∈ v, x ≠ 34) (r : Bs) : attr dec (97 :: 61 :: 34 :: (v ++ 34 :: r)) = .inr (⟨[97], dec v true⟩, r) := by
  unfold attr
  have e1 : attrName (97 :: 61 :: 34 :: (v ++ 34 :: r)) = [97] := rfl
  have e2 : attrRest (97 :: 61 :: 34 :: (v ++ 34 :: r)) = 61 :: 34 :: (v ++ 34 :: r) := rfl
  have e3 : skip (List.drop 1 (61 :: 34 :: (v ++ 34 :: r))) = 34 :: (v ++ 34 :: r) := rfl
  rw [e1, e2, e3, if_neg (by decide), if_pos (by simp [Lib.hasPrefix]), value_double h]; rfl
theorem attr_b {dec : Bs → Bool → Bs} {v : Bs} (h : ∀ x ∈ v, x ≠ 39) (r : Bs) : attr dec (98 :: 32 :: 61 :: 32 :: 39 :: (v ++ 39 :: r)) = .inr (⟨[98], dec v true⟩, r) := by
  unfold attr
  have e1 : attrName (98 :: 32 :: 61 :: 32 :: 39 :: (v ++ 39 :: r)) = [98] := rfl
  have e2 : attrRest (98 :: 32 :: 61 :: 32 :: 39 :: (v ++ 39 :: r)) = 61 :: 32 :: 39 :: (v ++ 39 :: r) := rfl
  have e3 : skip (List.drop 1 (61 :: 32 :: 39 :: (v ++ 39 :: r))) = 39 :: (v ++ 39 :: r) := rfl
  rw [e1, e2, e3, if_neg (by decide), if_pos (by simp [Lib.hasPrefix]), value_single h]; rfl
/-- Values in quotes. -/
theorem values_tokens {dec : Bs → Bool → Bs} {v : Bs} (hd : dec v true = v) (hl : v.length ≤ 2000) (h : ∀ x ∈ v, x ≠ 34 ∧ x ≠ 39 ∧ x ≠ 0) :
    tokens dec (valuesOf v) = ([⟨1, [112], [⟨[97], v⟩, ⟨[98], v⟩], false, []⟩], 0, 0) := by
  rw [tokens_go (by unfold valuesOf; simp; omega) (by
    intro x hx; unfold valuesOf at hx
    simp only [List.mem_append, List.mem_cons, List.not_mem_nil, or_false] at hx
    rcases hx with ((((rfl | rfl | rfl | rfl | rfl | rfl) | hx) | (rfl | rfl | rfl | rfl | rfl | rfl | rfl)) | hx) | (rfl | rfl) <;> first | decide | exact (h _ hx).2.2)]
  have e0 : valuesOf v = 60 :: 112 :: 32 :: 97 :: 61 :: 34 :: (v ++ 34 :: 32 :: 98 :: 32 :: 61 :: 32 :: 39 :: (v ++ [39, 62])) := by unfold valuesOf; simp
  have h1 : one dec (valuesOf v) = .inr (⟨1, [112], [⟨[97], v⟩, ⟨[98], v⟩], false, []⟩, []) := by
    rw [e0, one_start _ _ (by decide)]
    unfold tag
    have u1 : upto (blanks ++ [47, 62]) (112 :: 32 :: 97 :: 61 :: 34 :: (v ++ 34 :: 32 :: 98 :: 32 :: 61 :: 32 :: 39 :: (v ++ [39, 62]))) = [112] := rfl
    have u2 : past (blanks ++ [47, 62]) (112 :: 32 :: 97 :: 61 :: 34 :: (v ++ 34 :: 32 :: 98 :: 32 :: 61 :: 32 :: 39 :: (v ++ [39, 62]))) = 32 :: 97 :: 61 :: 34 :: (v ++ 34 :: 32 :: 98 :: 32 :: 61 :: 32 :: 39 :: (v ++ [39, 62])) := rfl
    rw [u1, u2, if_neg (by decide)]
    show tagLoop dec 1 [112] (16 + 1) _ [] = _
    unfold tagLoop
    have s1 : skip (32 :: 97 :: 61 :: 34 :: (v ++ 34 :: 32 :: 98 :: 32 :: 61 :: 32 :: 39 :: (v ++ [39, 62]))) = 97 :: 61 :: 34 :: (v ++ 34 :: 32 :: 98 :: 32 :: 61 :: 32 :: 39 :: (v ++ [39, 62])) := rfl
    rw [s1, if_neg (by simp), if_neg (by simp [Lib.hasPrefix]), if_neg (by simp [Lib.hasPrefix]), if_neg (by simp [Lib.hasPrefix]), attr_a (fun x hx => (h x hx).1)]
    show (if List.any [] _ = true then _ else if ([] : List At).length = 16 then _ else tagLoop dec 1 [112] (15 + 1) _ ([] ++ [⟨[97], dec v true⟩])) = _
    rw [if_neg (by simp), if_neg (by simp)]
    unfold tagLoop
    have s2 : skip (32 :: 98 :: 32 :: 61 :: 32 :: 39 :: (v ++ [39, 62])) = 98 :: 32 :: 61 :: 32 :: 39 :: (v ++ [39, 62]) := rfl
    rw [s2, if_neg (by simp), if_neg (by simp [Lib.hasPrefix]), if_neg (by simp [Lib.hasPrefix]), if_neg (by simp [Lib.hasPrefix]), attr_b (fun x hx => (h x hx).2.1)]
    show (if List.any _ _ = true then _ else if (_ : List At).length = 16 then _ else tagLoop dec 1 [112] (14 + 1) [62] _) = _
    rw [if_neg (by simp), if_neg (by simp)]
    unfold tagLoop
    have s3 : skip [62] = [62] := rfl
    rw [s3, if_neg (by simp), if_pos (by simp [Lib.hasPrefix]), hd]
    rfl
  have hp : 1 ≤ (valuesOf v).length := by rw [e0]; simp
  obtain ⟨f, hf⟩ : ∃ f, (valuesOf v).length + 1 = f + 1 + 1 := ⟨(valuesOf v).length - 1, by omega⟩
  rw [hf, go_cons dec _ _ _ _ (by rw [e0]; simp) h1, go_nil]; rfl
end Go.Proofs.YtaohdicilfabeaaGreatDoor.Tk

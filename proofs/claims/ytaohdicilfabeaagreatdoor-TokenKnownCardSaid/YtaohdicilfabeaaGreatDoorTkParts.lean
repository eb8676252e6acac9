/- Plain laws: tokens are such as may be; what stands behind a tag is read as if it stood alone. No program, no memory. -/
import Derived.Test.YtaohdicilfabeaaGreatDoorTkLaws
namespace Go.Proofs.YtaohdicilfabeaaGreatDoor.Tk
open Go

/- A text with more behind it. -/
theorem upto_app {s l : Bs} (b : Bs) (h : past s l ≠ []) : upto s (l ++ b) = upto s l ∧ past s (l ++ b) = past s l ++ b := by
  induction l with
  | nil => exact absurd rfl h
  | cons x l ih =>
    unfold upto past at *
    simp only [List.cons_append, List.takeWhile_cons, List.dropWhile_cons] at *
    split
    · rename_i hx
      rw [hx] at h; simp only [if_true] at h
      obtain ⟨a, c⟩ := ih h
      exact ⟨by rw [a], c⟩
    · exact ⟨rfl, rfl⟩
theorem skip_app {l : Bs} (b : Bs) (h : skip l ≠ []) : skip (l ++ b) = skip l ++ b := by
  unfold skip Lib.trimLeftS at *
  induction l with
  | nil => exact absurd rfl h
  | cons x l ih =>
    simp only [List.cons_append, List.dropWhile_cons] at *
    split
    · rename_i hx
      rw [hx] at h; simp only [if_true] at h
      exact ih h
    · rfl
theorem skip_ne {l : Bs} (h : skip l ≠ []) : l ≠ [] := fun e => h (by rw [e]; rfl)
theorem pre_app {l p : Bs} (b : Bs) (h : p.length ≤ l.length) : Lib.hasPrefix (l ++ b) p = Lib.hasPrefix l p := by
  unfold Lib.hasPrefix
  rw [Bool.eq_iff_iff, List.isPrefixOf_iff_prefix, List.isPrefixOf_iff_prefix]
  constructor
  · intro hp; exact List.prefix_of_prefix_length_le hp (List.prefix_append l b) h
  · intro hp; exact hp.trans (List.prefix_append l b)
theorem pre_one {l : Bs} (c : UInt8) (b : Bs) (h : l ≠ []) : Lib.hasPrefix (l ++ b) [c] = Lib.hasPrefix l [c] := pre_app b (List.length_pos_iff.2 h)
theorem pre_len {l p : Bs} (h : Lib.hasPrefix l p = true) : p.length ≤ l.length := (List.isPrefixOf_iff_prefix.1 h).length_le
theorem drop_app {l : Bs} (b : Bs) {n : Nat} (h : n ≤ l.length) : (l ++ b).drop n = l.drop n ++ b := List.drop_append_of_le_length h
theorem index_app {l p : Bs} (b : Bs) (hp : p ≠ []) (h : 0 ≤ Lib.index l p) : Lib.index (l ++ b) p = Lib.index l p := by
  rcases Lib.index_spec l p with ⟨h1, _⟩ | ⟨i, h1, hi, ho, hn⟩
  · omega
  · rw [h1]
    have hr : i + p.length ≤ l.length := by
      rcases Lib.occAt_room ho with h2 | h2
      · exact h2
      · exact absurd h2 hp
    have same : ∀ j, j ≤ i → Lib.occAt (l ++ b) p j = Lib.occAt l p j := by
      intro j hj
      rw [Lib.occAt_iff_take _ _ _ (by rw [List.length_append]; omega), Lib.occAt_iff_take _ _ _ (by omega), drop_app b (by omega), List.take_append_of_le_length (by rw [List.length_drop]; omega)]
    exact Lib.index_first (by rw [List.length_append]; omega) (by rw [same i (Nat.le_refl _)]; exact ho) (fun j hj => by rw [same j (Nat.le_of_lt hj)]; exact hn j hj)

theorem value_nil : value [] = .inl 41 := rfl
theorem skip_nil : skip [] = [] := rfl
theorem value_app {l v r : Bs} (b : Bs) (h : value l = .inr (v, r)) (hr : r ≠ []) : value (l ++ b) = .inr (v, r ++ b) := by
  have hl : l ≠ [] := by
    intro e; subst e
    rw [value_nil] at h; cases h
  have hd : 1 ≤ l.length := List.length_pos_iff.2 hl
  unfold value at h ⊢
  rw [pre_one 34 b hl, pre_one 39 b hl, drop_app b hd]
  split at h
  · rename_i h1
    rw [if_pos h1]
    split at h
    · cases h
    · rename_i hp
      obtain ⟨e1, e2⟩ := upto_app b hp
      cases h
      rw [e1, e2, if_neg (fun e => hp (List.append_eq_nil_iff.1 e).1), drop_app b (List.length_pos_iff.2 hp)]
  · rename_i h1
    rw [if_neg h1]
    split at h
    · rename_i h2
      rw [if_pos h2]
      split at h
      · cases h
      · rename_i hp
        obtain ⟨e1, e2⟩ := upto_app b hp
        cases h
        rw [e1, e2, if_neg (fun e => hp (List.append_eq_nil_iff.1 e).1), drop_app b (List.length_pos_iff.2 hp)]
    · rename_i h2
      rw [if_neg h2]
      split at h
      · cases h
      · rename_i hp
        cases h
        obtain ⟨e1, e2⟩ := upto_app b hr
        rw [e1, e2, if_neg hp]
theorem attr_app {dec : Bs → Bool → Bs} {l : Bs} {a : At} {r : Bs} (b : Bs) (h : attr dec l = .inr (a, r)) (hr : r ≠ []) : attr dec (l ++ b) = .inr (a, r ++ b) := by
  have hrest : attrRest l ≠ [] := by
    intro e
    unfold attr at h
    rw [e] at h
    split at h
    · cases h
    · rw [if_neg (by decide)] at h
      cases h; exact hr rfl
  have hp : past (blanks ++ [61, 47, 62]) l ≠ [] := skip_ne hrest
  obtain ⟨e1, e2⟩ := upto_app b hp
  have e3 : attrRest (l ++ b) = attrRest l ++ b := by unfold attrRest; rw [e2]; exact skip_app b hrest
  have e4 : attrName (l ++ b) = attrName l := e1
  unfold attr at h ⊢
  rw [e4, e3, pre_one 61 b hrest, drop_app b (List.length_pos_iff.2 hrest)]
  split at h
  · cases h
  · rename_i h1
    rw [if_neg h1]
    split at h
    · rename_i h2
      rw [if_pos h2]
      split at h
      · cases h
      · rename_i v' r' hv
        cases h
        have hs : skip ((attrRest l).drop 1) ≠ [] := by
          intro e; rw [e, value_nil] at hv; cases hv
        rw [skip_app b hs, value_app b hv hr]
    · rename_i h2
      rw [if_neg h2]
      cases h; rfl
theorem finish_app {kind : Nat} {name : Bs} {sf : Bool} {acc : List At} {r : Bs} {t : Tok} {r' : Bs} (b : Bs) (h : finish kind name sf acc r = .inr (t, r')) : finish kind name sf acc (r ++ b) = .inr (t, r' ++ b) := by
  unfold finish at *
  split at h
  · cases h
  · rename_i h1
    rw [if_neg h1]; cases h; rfl
theorem tagLoop_app {dec : Bs → Bool → Bs} {kind : Nat} {name : Bs} (b : Bs) : ∀ (f : Nat) (l : Bs) (acc : List At) {t : Tok} {r : Bs}, tagLoop dec kind name f l acc = .inr (t, r) → tagLoop dec kind name f (l ++ b) acc = .inr (t, r ++ b)
  | 0, _, _, _, _, h => by cases h
  | f + 1, l, acc, t, r, h => by
    unfold tagLoop at h ⊢
    split at h
    · cases h
    · rename_i hs
      have hd := List.length_pos_iff.2 hs
      rw [skip_app b hs, if_neg (by simp [hs]), pre_one 62 b hs, pre_one 47 b hs, drop_app b hd]
      split at h
      · rename_i h1
        rw [if_pos h1]; exact finish_app b h
      · rename_i h1
        rw [if_neg h1]
        split at h
        · rename_i h2
          have hl2 := pre_len h2
          simp only [List.length_cons, List.length_nil] at hl2
          rw [if_pos (by rw [pre_app b (by simpa using hl2)]; exact h2), drop_app b hl2]; exact finish_app b h
        · rename_i h2
          split at h
          · cases h
          · rename_i h3
            have h4 : ¬ Lib.hasPrefix (skip l ++ b) [47, 62] = true := by
              intro h4
              have : Lib.hasPrefix (skip l ++ b) [47] = true := by
                unfold Lib.hasPrefix at h4 ⊢
                rw [List.isPrefixOf_iff_prefix] at *
                exact List.IsPrefix.trans ⟨[62], rfl⟩ h4
              rw [pre_one 47 b hs] at this
              exact h3 this
            rw [if_neg h4, if_neg h3]
            split at h
            · cases h
            · rename_i a r' ha
              have hr' : r' ≠ [] := by
                intro e; subst e
                split at h
                · cases h
                · split at h
                  · cases h
                  · cases f with
                    | zero => cases h
                    | succ f => unfold tagLoop at h; rw [if_pos skip_nil] at h; cases h
              rw [attr_app b ha hr']
              show (if _ then _ else if _ then _ else _) = _
              split at h
              · cases h
              · rename_i h5
                rw [if_neg h5]
                split at h
                · cases h
                · rename_i h6
                  rw [if_neg h6]
                  exact tagLoop_app b f r' _ h
theorem tag_app {dec : Bs → Bool → Bs} {kind : Nat} {l : Bs} {t : Tok} {r : Bs} (b : Bs) (h : tag dec kind l = .inr (t, r)) : tag dec kind (l ++ b) = .inr (t, r ++ b) := by
  unfold tag at h ⊢
  split at h
  · cases h
  · rename_i h1
    have hp : past (blanks ++ [47, 62]) l ≠ [] := by
      intro e
      rw [e] at h
      unfold tagLoop at h
      rw [if_pos skip_nil] at h; cases h
    obtain ⟨e1, e2⟩ := upto_app b hp
    rw [e1, e2, if_neg h1]
    exact tagLoop_app b _ _ _ h
theorem comment_app {l : Bs} {t : Tok} {r : Bs} (b : Bs) (h : comment l = .inr (t, r)) : comment (l ++ b) = .inr (t, r ++ b) := by
  unfold comment at h ⊢
  split at h
  · cases h
  · rename_i h1
    have h0 : 0 ≤ Lib.index l [45, 45, 62] := by
      rcases Int.lt_or_le (Lib.index l [45, 45, 62]) 0 with h2 | h2
      · exact absurd (.inl h2) h1
      · exact h2
    have hroom := Lib.index_room l [45, 45, 62] h0
    simp only [List.length_cons, List.length_nil] at hroom
    have hl3 : 3 ≤ l.length := by omega
    have hi := index_app b (by simp) h0
    have p1 := pre_app (l := l) (p := [62]) b (by simp; omega)
    have p2 := pre_app (l := l) (p := [45, 62]) b (by simp; omega)
    have hk : (Lib.index l [45, 45, 62]).toNat + 3 ≤ l.length := by omega
    rw [hi, p1, p2, if_neg h1]
    dsimp only at h ⊢
    rw [List.take_append_of_le_length (by omega)]
    split at h
    · cases h
    · rename_i h2
      rw [if_neg h2]
      cases h
      rw [drop_app b (by rw [List.length_take]; omega)]
theorem mark_app {l : Bs} {t : Tok} {r : Bs} (b : Bs) (h : mark l = .inr (t, r)) : mark (l ++ b) = .inr (t, r ++ b) := by
  unfold mark at h ⊢
  split at h
  · cases h
  · rename_i h1
    have hl : 9 ≤ l.length := by
      rcases Nat.lt_or_ge l.length 9 with h2 | h2
      · exact absurd (.inl h2) h1
      · exact h2
    have h1' : ¬ ((l ++ b).length < 9 ∨ small ((l ++ b).take 9) ≠ head) := by
      rw [List.take_append_of_le_length hl]
      rintro (h2 | h2)
      · rw [List.length_append] at h2; omega
      · exact h1 (.inr h2)
    rw [if_neg h1', drop_app b hl]
    split at h
    · cases h
    · rename_i hp
      obtain ⟨e1, e2⟩ := upto_app b hp
      rw [e1, e2, if_neg (fun e => hp (List.append_eq_nil_iff.1 e).1)]
      cases h
      rw [drop_app b (List.length_pos_iff.2 hp)]
theorem begins_app {l : Bs} (b : Bs) (h : 2 ≤ l.length) : begins (l ++ b) = begins l := by
  match l, h with
  | c :: d :: r, _ =>
    by_cases hc : c = 60
    · subst hc; rfl
    · rw [List.cons_append, begins_ne _ hc, begins_ne _ hc]
theorem run_app : ∀ {l : Bs} (b : Bs), run l < l.length → run (l ++ b) = run l
  | [], _, h => by simp at h
  | c :: r, b, h => by
    rw [List.cons_append]
    by_cases hb : begins (c :: r) = true
    · have h2 := begins_two_le hb
      have e := begins_app b h2
      rw [List.cons_append] at e
      unfold run
      rw [e, hb]; rfl
    · have h1 : run (c :: r) = run r + 1 := by conv => lhs; unfold run; rw [if_neg hb]
      rw [h1] at h
      simp only [List.length_cons] at h
      have hr : 1 ≤ r.length := by omega
      have e := begins_app (l := c :: r) b (by simp; omega)
      rw [List.cons_append] at e
      have h3 : run (c :: (r ++ b)) = run (r ++ b) + 1 := by conv => lhs; unfold run; rw [e, if_neg hb]
      rw [h1, h3, run_app b (by omega)]
theorem run_begins : ∀ {l : Bs}, run l < l.length → begins (l.drop (run l)) = true
  | [], h => by simp at h
  | c :: r, h => by
    by_cases hb : begins (c :: r) = true
    · have : run (c :: r) = 0 := by conv => lhs; unfold run; rw [if_pos hb]
      rw [this]; exact hb
    · have h1 : run (c :: r) = run r + 1 := by conv => lhs; unfold run; rw [if_neg hb]
      rw [h1] at h ⊢
      exact run_begins (l := r) (by simpa using h)
theorem getD_app {l : Bs} (b : Bs) {i : Nat} (h : i < l.length) : (l ++ b).getD i 0 = l.getD i 0 := by
  rw [List.getD_eq_getElem?_getD, List.getD_eq_getElem?_getD, List.getElem?_append_left h]
/-- What is read of a text stays, whatever stands behind it. -/
theorem one_app {dec : Bs → Bool → Bs} {l : Bs} {t : Tok} {r : Bs} (b : Bs) (hl : l ≠ []) (h : one dec l = .inr (t, r)) (hr : r ≠ [] ∨ t.kind ≠ 3) : one dec (l ++ b) = .inr (t, r ++ b) := by
  have hd : 1 ≤ l.length := List.length_pos_iff.2 hl
  unfold one at h
  split at h
  · rename_i hb
    unfold text at h
    cases h
    have hr' : l.drop (run (l.drop 1) + 1) ≠ [] := hr.elim id (fun h => absurd rfl h)
    have hlt : run (l.drop 1) + 1 < l.length := by
      rcases Nat.lt_or_ge (run (l.drop 1) + 1) l.length with h2 | h2
      · exact h2
      · exact absurd (List.drop_eq_nil_of_le h2) hr'
    unfold one
    rw [if_pos (by rw [begins_app b (by omega)]; exact hb)]
    unfold text
    rw [drop_app b hd, run_app b (by show run (l.drop 1) < _; rw [List.length_drop]; show _ < l.length - 1; omega), List.take_append_of_le_length (by omega), drop_app b (by omega)]
  · rename_i hb
    have h2 := begins_two_le (l := l) (by simpa using hb)
    unfold one
    rw [if_neg (by rw [begins_app b h2]; exact hb), getD_app b (i := 1) (by omega), drop_app b hd, drop_app b h2]
    split at h
    · rename_i h3
      rw [if_pos h3]; exact tag_app b h
    · rename_i h3
      rw [if_neg h3]
      split at h
      · rename_i h4
        rw [if_pos h4]
        split at h
        · cases h
        · rename_i h5
          have h6 : 3 ≤ l.length := by
            rcases Nat.lt_or_ge l.length 3 with h7 | h7
            · exact absurd (.inl (by omega)) h5
            · exact h7
          rw [if_neg (by
            rw [getD_app b (i := 2) (by omega)]
            rintro (h7 | h7)
            · rw [List.length_append] at h7; omega
            · exact h5 (.inr h7))]
          exact tag_app b h
      · rename_i h4
        rw [if_neg h4]
        split at h
        · rename_i h5
          have h6 := pre_len h5
          simp only [List.length_cons, List.length_nil] at h6
          rw [if_pos (by rw [pre_app b (by simpa using h6)]; exact h5), drop_app b h6]
          exact comment_app b h
        · rename_i h5
          have h6 : 9 ≤ l.length := by
            rcases Nat.lt_or_ge l.length 9 with h7 | h7
            · unfold mark at h; rw [if_pos (.inl h7)] at h; cases h
            · exact h7
          rw [if_neg (by rw [pre_app b (by simp; omega)]; exact h5)]
          exact mark_app b h

/- Runs of tokens. -/
theorem go_eq (dec : Bs → Bool → Bs) (f p : Nat) (l : Bs) (acc : List Tok) : go dec (f + 1) p l acc = if l = [] then (acc, 0, 0) else match one dec l with
      | .inl e => ([], e, p)
      | .inr (t, r) => go dec f (p + (l.length - r.length)) r (acc ++ [t]) := rfl
/-- What a run from elsewhere says. -/
def moved (p : Nat) (acc : List Tok) (x : List Tok × Nat × Nat) : List Tok × Nat × Nat := if x.2.1 = 0 then (acc ++ x.1, 0, 0) else ([], x.2.1, p + x.2.2)
theorem moved_moved (p q : Nat) (a c : List Tok) (x : List Tok × Nat × Nat) : moved p a (moved q c x) = moved (p + q) (a ++ c) x := by
  unfold moved
  by_cases h : x.2.1 = 0
  · simp [h]
  · simp only [h, if_false, Nat.add_assoc]
theorem go_moved (dec : Bs → Bool → Bs) (hone : ∀ l e, one dec l = .inl e → e ≠ 0) : ∀ (f g p : Nat) (l : Bs) (acc : List Tok), l.length < f → l.length < g → go dec f p l acc = moved p acc (go dec g 0 l [])
  | 0, _, _, _, _, h, _ => by omega
  | _ + 1, 0, _, _, _, _, h => by omega
  | f + 1, g + 1, p, l, acc, hf, hg => by
    rw [go_eq, go_eq]
    by_cases hl : l = []
    · rw [if_pos hl, if_pos hl]; unfold moved; simp
    · rw [if_neg hl, if_neg hl]
      cases h : one dec l with
      | inl e => unfold moved; simp [hone l e h]
      | inr x =>
        obtain ⟨t, r⟩ := x
        have hlt := one_len hl h
        show go dec f _ r _ = moved p acc (go dec g _ r _)
        rw [go_moved dec hone f g (p + (l.length - r.length)) r (acc ++ [t]) (by omega) (by omega), go_moved dec hone g g (0 + (l.length - r.length)) r ([] ++ [t]) (by omega) (by omega), moved_moved]
        simp
theorem value_err {l : Bs} {e : Nat} (h : value l = .inl e) : e ≠ 0 := by
  unfold value at h
  split at h
  · split at h <;> cases h; decide
  · split at h
    · split at h <;> cases h; decide
    · split at h <;> cases h; decide
theorem attr_err {dec : Bs → Bool → Bs} {l : Bs} {e : Nat} (h : attr dec l = .inl e) : e ≠ 0 := by
  unfold attr at h
  split at h
  · cases h; decide
  · split at h
    · split at h
      · rename_i hv; cases h; exact value_err hv
      · cases h
    · cases h
theorem finish_err {kind : Nat} {name : Bs} {sf : Bool} {acc : List At} {r : Bs} {e : Nat} (h : finish kind name sf acc r = .inl e) : e ≠ 0 := by
  unfold finish at h
  split at h <;> cases h; decide
theorem tagLoop_err {dec : Bs → Bool → Bs} {kind : Nat} {name : Bs} : ∀ (f : Nat) (l : Bs) (acc : List At) {e : Nat}, acc.length + f = 16 → tagLoop dec kind name (f + 1) l acc = .inl e → e ≠ 0
  | f, l, acc, e, hf, h => by
    unfold tagLoop at h
    split at h
    · cases h; decide
    · split at h
      · exact finish_err h
      · split at h
        · exact finish_err h
        · split at h
          · cases h; decide
          · split at h
            · rename_i ha; cases h; exact attr_err ha
            · split at h
              · cases h; decide
              · split at h
                · cases h; decide
                · rename_i h6
                  obtain ⟨g, rfl⟩ : ∃ g, f = g + 1 := ⟨f - 1, by omega⟩
                  exact tagLoop_err g _ _ (by rw [List.length_append]; simp; omega) h
theorem tag_err {dec : Bs → Bool → Bs} {kind : Nat} {l : Bs} {e : Nat} (h : tag dec kind l = .inl e) : e ≠ 0 := by
  unfold tag at h
  split at h
  · cases h; decide
  · exact tagLoop_err 16 _ _ rfl h
theorem one_err (dec : Bs → Bool → Bs) (l : Bs) (e : Nat) (h : one dec l = .inl e) : e ≠ 0 := by
  unfold one at h
  split at h
  · cases h
  · split at h
    · exact tag_err h
    · split at h
      · split at h
        · cases h; decide
        · exact tag_err h
      · split at h
        · unfold comment at h
          split at h
          · cases h; decide
          · dsimp only at h
            split at h
            · cases h; decide
            · cases h
        · unfold mark at h
          split at h
          · cases h; decide
          · split at h
            · cases h; decide
            · cases h
/-- A run over a text ahead of another one. -/
theorem go_app {dec : Bs → Bool → Bs} (b : Bs) : ∀ (f g p : Nat) (a : Bs) (acc l : List Tok) (q : Nat), a.length < f → (a ++ b).length < g → go dec f p a acc = (l, 0, q) → (a = [] ∨ ∀ t, l.getLast? = some t → t.kind ≠ 3) →
    go dec g p (a ++ b) acc = go dec (g - (l.length - acc.length)) (p + a.length) b l ∧ acc.length ≤ l.length ∧ l.length - acc.length ≤ a.length
  | 0, _, _, _, _, _, _, h, _, _, _ => by omega
  | f + 1, 0, _, _, _, _, _, _, h, _, _ => by omega
  | f + 1, g + 1, p, a, acc, l, q, hf, hg, h, hk => by
    rw [go_eq] at h
    by_cases ha : a = []
    · subst ha
      rw [if_pos rfl] at h
      cases h
      simp
    · rw [if_neg ha] at h
      cases ho : one dec a with
      | inl e => rw [ho] at h; exact absurd (by injection h with _ h; injection h) (one_err dec a e ho)
      | inr x =>
        obtain ⟨t, r⟩ := x
        rw [ho] at h
        have h' : go dec f (p + (a.length - r.length)) r (acc ++ [t]) = (l, 0, q) := h
        have hlt := one_len ha ho
        have hk' : r = [] ∨ ∀ t, l.getLast? = some t → t.kind ≠ 3 := .inr (hk.resolve_left ha)
        have hr : r ≠ [] ∨ t.kind ≠ 3 := by
          by_cases hr : r = []
          · subst hr
            right
            obtain ⟨f', rfl⟩ : ∃ f', f = f' + 1 := ⟨f - 1, by have := List.length_pos_iff.2 ha; omega⟩
            rw [go_nil] at h'
            cases h'
            exact hk.resolve_left ha t (by simp)
          · exact .inl hr
        rw [List.length_append] at hg
        obtain ⟨i1, i2, i3⟩ := go_app b f g (p + (a.length - r.length)) r (acc ++ [t]) l q (by omega) (by rw [List.length_append]; omega) h' hk'
        rw [List.length_append] at i1 i2 i3
        simp only [List.length_cons, List.length_nil] at i1 i2 i3
        have hone := one_app b ha ho hr
        rw [go_cons dec g p (a ++ b) acc (by simp [ha]) hone]
        refine ⟨?_, by omega, by omega⟩
        have e1 : (a ++ b).length - (r ++ b).length = a.length - r.length := by rw [List.length_append, List.length_append]; omega
        rw [e1, i1]
        congr 1 <;> omega
theorem null_of {dec : Bs → Bool → Bs} {b : Bs} {k : List Tok} {f q : Nat} (hb : b.length ≤ 65536) (h : tokens dec b = (k, f, q)) (hf : f ≠ 42) : ∀ x ∈ b, x ≠ 0 := by
  unfold tokens at h
  rw [if_neg (by omega)] at h
  split at h
  · cases h; exact absurd rfl hf
  · rename_i h0
    exact indexByte_neg (by omega)
/-- WHAT STANDS BEHIND A TAG IS READ AS IF IT STOOD ALONE. -/
theorem tokens_parts {dec : Bs → Bool → Bs} {a b : Bs} {l k : List Tok} {q f place : Nat} (hla : a.length ≤ 2000) (hlb : b.length ≤ 2000) (ha : tokens dec a = (l, 0, q)) (hb : tokens dec b = (k, f, place))
    (hk : ∀ t, l.getLast? = some t → t.kind ≠ 3) (hf : f ≠ 42) : tokens dec (a ++ b) = if f = 0 then (l ++ k, 0, 0) else ([], f, place + a.length) := by
  have na := null_of (by omega) ha (by decide)
  have nb := null_of (by omega) hb hf
  rw [tokens_go (by omega) na] at ha
  rw [tokens_go (by omega) nb] at hb
  rw [tokens_go (by rw [List.length_append]; omega) (fun x hx => (List.mem_append.1 hx).elim (na x) (nb x))]
  obtain ⟨h1, h2, h3⟩ := go_app b (a.length + 1) ((a ++ b).length + 1) 0 a [] l q (by omega) (by omega) ha (.inr hk)
  rw [h1, List.length_nil, Nat.sub_zero, Nat.zero_add]
  rw [go_moved dec (one_err dec) _ (b.length + 1) _ _ _ (by rw [List.length_append]; simp only [List.length_nil] at h3; omega) (by omega), hb]
  unfold moved
  split
  · rfl
  · rw [Nat.add_comm]

/- Tokens are such as may be. -/
structure Fine (t : Tok) : Prop where
  lo : 1 ≤ t.kind
  hi : t.kind ≤ 5
  name : small t.name = t.name
  named : t.name ≠ [] ↔ t.kind ≤ 2
  attrs : t.attrs.length ≤ 16
  bare : t.kind ≠ 1 → t.attrs = [] ∧ t.self = false
  apart : ∀ (i j : Nat) x y, t.attrs[i]? = some x → t.attrs[j]? = some y → i < j → x.name ≠ y.name
/-- Two texts never stand side by side. -/
def Apart (ts : List Tok) : Prop := ∀ (i : Nat) x y, ts[i]? = some x → ts[i + 1]? = some y → ¬ (x.kind = 3 ∧ y.kind = 3)
theorem low_low (c : UInt8) : low (low c) = low c := by
  have h : ∀ n : Fin 256, low (low (UInt8.ofNat n)) = low (UInt8.ofNat n) := by decide +kernel
  have := h ⟨c.toNat, c.toNat_lt⟩
  simpa only [UInt8.ofNat_toNat] using this
theorem small_small (l : Bs) : small (small l) = small l := by
  unfold small; rw [List.map_map]; apply List.map_congr_left; intro c _; exact low_low c
theorem finish_fine {kind : Nat} {name : Bs} {sf : Bool} {acc : List At} {r : Bs} {t : Tok} {r' : Bs} (hk : kind = 1 ∨ kind = 2) (hn : small name = name) (hne : name ≠ []) (ha : acc.length ≤ 16)
    (hap : ∀ (i j : Nat) x y, acc[i]? = some x → acc[j]? = some y → i < j → x.name ≠ y.name) (h : finish kind name sf acc r = .inr (t, r')) : Fine t ∧ t.kind ≠ 3 := by
  have e := (finish_eq h).2
  unfold finish at h
  split at h
  · cases h
  · rename_i h2
    subst e
    refine ⟨⟨by show 1 ≤ kind; omega, by show kind ≤ 5; omega, hn, ⟨fun _ => by show kind ≤ 2; omega, fun _ => hne⟩, ha, ?_, hap⟩, by show kind ≠ 3; omega⟩
    intro h1
    have hk2 : kind = 2 := hk.resolve_left h1
    show acc = [] ∧ sf = false
    constructor
    · apply Classical.byContradiction; intro h3; exact h2 ⟨hk2, .inr h3⟩
    · cases sf
      · rfl
      · exact absurd ⟨hk2, .inl rfl⟩ h2
theorem tagLoop_fine {dec : Bs → Bool → Bs} {kind : Nat} {name : Bs} (hk : kind = 1 ∨ kind = 2) (hn : small name = name) (hne : name ≠ []) : ∀ (f : Nat) (l : Bs) (acc : List At) {t : Tok} {r : Bs}, acc.length ≤ 16 →
    (∀ (i j : Nat) x y, acc[i]? = some x → acc[j]? = some y → i < j → x.name ≠ y.name) → tagLoop dec kind name f l acc = .inr (t, r) → Fine t ∧ t.kind ≠ 3
  | 0, _, _, _, _, _, _, h => by cases h
  | f + 1, l, acc, t, r, hl, hap, h => by
    unfold tagLoop at h
    split at h
    · cases h
    · split at h
      · exact finish_fine hk hn hne hl hap h
      · split at h
        · exact finish_fine hk hn hne hl hap h
        · split at h
          · cases h
          · split at h
            · cases h
            · rename_i a r' ha
              split at h
              · cases h
              · rename_i hd
                split at h
                · cases h
                · rename_i h16
                  refine tagLoop_fine hk hn hne f r' (acc ++ [a]) (by rw [List.length_append]; simp; omega) ?_ h
                  intro i j x y hx hy hij
                  have hj := (List.getElem?_eq_some_iff.1 hy).1
                  rw [List.length_append] at hj
                  simp only [List.length_cons, List.length_nil] at hj
                  rw [List.getElem?_append_left (by omega)] at hx
                  rcases Nat.lt_or_ge j acc.length with h1 | h1
                  · rw [List.getElem?_append_left h1] at hy
                    exact hap i j x y hx hy hij
                  · rw [List.getElem?_append_right h1] at hy
                    have e : j - acc.length = 0 := by omega
                    rw [e] at hy
                    simp at hy; subst hy
                    intro e2
                    exact hd (List.any_eq_true.2 ⟨x, List.mem_of_getElem? hx, by simp [e2]⟩)
theorem tag_fine {dec : Bs → Bool → Bs} {kind : Nat} {l : Bs} {t : Tok} {r : Bs} (hk : kind = 1 ∨ kind = 2) (h : tag dec kind l = .inr (t, r)) : Fine t ∧ t.kind ≠ 3 := by
  unfold tag at h
  split at h
  · cases h
  · rename_i hm
    have hm' : made (small (upto (blanks ++ [47, 62]) l)) [] = true := by simpa using hm
    refine tagLoop_fine hk (small_small _) ?_ 17 _ [] (by simp) (fun i j x y hx => by simp at hx) h
    intro e
    rw [e] at hm'
    exact absurd hm' (by decide)
theorem fine_bare {k : Nat} (hk : 3 ≤ k) (h5 : k ≤ 5) (d : Bs) : Fine ⟨k, [], [], false, d⟩ := ⟨by show 1 ≤ k; omega, h5, rfl, ⟨fun h => absurd rfl h, fun h => by have : k ≤ 2 := h; omega⟩, by simp, fun _ => ⟨rfl, rfl⟩, fun i j x y hx => by simp at hx⟩
theorem one_fine {dec : Bs → Bool → Bs} {l : Bs} {t : Tok} {r : Bs} (hl : l ≠ []) (h : one dec l = .inr (t, r)) : Fine t ∧ (t.kind = 3 → begins l = false ∧ (r = [] ∨ begins r = true)) := by
  have hd := List.length_pos_iff.2 hl
  unfold one at h
  split at h
  · rename_i hb
    unfold text at h
    cases h
    refine ⟨fine_bare (by omega) (by omega) _, fun _ => ⟨hb, ?_⟩⟩
    rcases Nat.lt_or_ge (run (l.drop 1)) (l.drop 1).length with h1 | h1
    · right
      have := run_begins h1
      rw [List.drop_drop] at this
      rw [Nat.add_comm]; exact this
    · left
      rw [List.length_drop] at h1
      exact List.drop_eq_nil_of_le (by omega)
  · split at h
    · obtain ⟨a, b⟩ := tag_fine (.inl rfl) h
      exact ⟨a, fun e => absurd e b⟩
    · split at h
      · split at h
        · cases h
        · obtain ⟨a, b⟩ := tag_fine (.inr rfl) h
          exact ⟨a, fun e => absurd e b⟩
      · split at h
        · unfold comment at h
          split at h
          · cases h
          · dsimp only at h
            split at h
            · cases h
            · cases h
              exact ⟨fine_bare (by omega) (by omega) _, fun e => by cases e⟩
        · unfold mark at h
          split at h
          · cases h
          · split at h
            · cases h
            · cases h
              exact ⟨fine_bare (by omega) (by omega) _, fun e => by cases e⟩
theorem go_fine {dec : Bs → Bool → Bs} : ∀ (f p : Nat) (l : Bs) (acc ts : List Tok) (e q : Nat), go dec f p l acc = (ts, e, q) → (∀ t ∈ acc, Fine t) → Apart acc → (∀ t, acc.getLast? = some t → t.kind = 3 → l = [] ∨ begins l = true) → (∀ t ∈ ts, Fine t) ∧ Apart ts
  | 0, p, l, acc, ts, e, q, h, _, _, _ => by
    cases h; exact ⟨fun t ht => by simp at ht, fun i x y hx => by simp at hx⟩
  | f + 1, p, l, acc, ts, e, q, h, hf, ha, hlast => by
    rw [go_eq] at h
    split at h
    · cases h; exact ⟨hf, ha⟩
    · rename_i hl
      cases ho : one dec l with
      | inl e' =>
        rw [ho] at h; cases h
        exact ⟨fun t ht => by simp at ht, fun i x y hx => by simp at hx⟩
      | inr x =>
        obtain ⟨t, r⟩ := x
        rw [ho] at h
        obtain ⟨h1, h2⟩ := one_fine hl ho
        refine go_fine f _ r (acc ++ [t]) ts e q h (fun u hu => ?_) ?_ (fun u hu h3 => ?_)
        · rcases List.mem_append.1 hu with hu | hu
          · exact hf u hu
          · rw [List.mem_singleton.1 hu]; exact h1
        · intro i x y hx hy
          have hi := (List.getElem?_eq_some_iff.1 hy).1
          rw [List.length_append] at hi
          simp only [List.length_cons, List.length_nil] at hi
          rw [List.getElem?_append_left (by omega)] at hx
          rcases Nat.lt_or_ge (i + 1) acc.length with h4 | h4
          · rw [List.getElem?_append_left h4] at hy
            exact ha i x y hx hy
          · rw [List.getElem?_append_right h4] at hy
            have e4 : i + 1 - acc.length = 0 := by omega
            rw [e4] at hy
            simp at hy; subst hy
            rintro ⟨k1, k2⟩
            have hx' : acc.getLast? = some x := by rw [List.getLast?_eq_getElem?, ← hx]; congr 1; omega
            rcases hlast x hx' k1 with h5 | h5
            · exact hl h5
            · rw [(h2 k2).1] at h5; cases h5
        · rw [List.getLast?_concat] at hu
          cases hu
          exact (h2 h3).2
theorem tokens_fine {dec : Bs → Bool → Bs} {l : Bs} {ts : List Tok} {e q : Nat} (h : tokens dec l = (ts, e, q)) : (∀ t ∈ ts, Fine t) ∧ Apart ts := by
  unfold tokens at h
  split at h
  · cases h; exact ⟨fun t ht => by simp at ht, fun i x y hx => by simp at hx⟩
  · split at h
    · cases h; exact ⟨fun t ht => by simp at ht, fun i x y hx => by simp at hx⟩
    · exact go_fine _ _ _ _ _ _ _ h (fun t ht => by simp at ht) (fun i x y hx => by simp at hx) (fun t ht => by simp at ht)

/- How long they are. -/
theorem finish_name {kind : Nat} {name : Bs} {sf : Bool} {acc : List At} {r : Bs} {t : Tok} {r' : Bs} (h : finish kind name sf acc r = .inr (t, r')) : t.name = name := by rw [(finish_eq h).2]
theorem tagLoop_name {dec : Bs → Bool → Bs} {kind : Nat} {name : Bs} : ∀ (f : Nat) (l : Bs) (acc : List At) {t : Tok} {r : Bs}, tagLoop dec kind name f l acc = .inr (t, r) → t.name = name
  | 0, _, _, _, _, h => by cases h
  | f + 1, l, acc, t, r, h => by
    unfold tagLoop at h
    split at h
    · cases h
    · split at h
      · exact finish_name h
      · split at h
        · exact finish_name h
        · split at h
          · cases h
          · split at h
            · cases h
            · split at h
              · cases h
              · split at h
                · cases h
                · exact tagLoop_name f _ _ h
theorem tag_name {dec : Bs → Bool → Bs} {kind : Nat} {l : Bs} {t : Tok} {r : Bs} (h : tag dec kind l = .inr (t, r)) : t.name.length ≤ l.length := by
  unfold tag at h
  split at h
  · cases h
  · rw [tagLoop_name _ _ _ h]
    unfold small upto
    rw [List.length_map]
    exact (List.takeWhile_sublist _).length_le
theorem one_name {dec : Bs → Bool → Bs} {l : Bs} {t : Tok} {r : Bs} (h : one dec l = .inr (t, r)) : t.name.length ≤ l.length := by
  unfold one at h
  split at h
  · unfold text at h; cases h; simp
  · split at h
    · have := tag_name h; rw [List.length_drop] at this; omega
    · split at h
      · split at h
        · cases h
        · have := tag_name h; rw [List.length_drop] at this; omega
      · split at h
        · unfold comment at h
          split at h
          · cases h
          · dsimp only at h
            split at h
            · cases h
            · cases h; simp
        · unfold mark at h
          split at h
          · cases h
          · split at h
            · cases h
            · cases h; simp
theorem go_sizes {dec : Bs → Bool → Bs} (M K : Nat) : ∀ (f p : Nat) (l : Bs) (acc ts : List Tok) (e q : Nat), go dec f p l acc = (ts, e, q) → (∀ t ∈ acc, t.name.length ≤ M) → l.length ≤ M → acc.length + l.length ≤ K → (∀ t ∈ ts, t.name.length ≤ M) ∧ ts.length ≤ K
  | 0, p, l, acc, ts, e, q, h, _, _, _ => by
    cases h; exact ⟨fun t ht => by simp at ht, by simp⟩
  | f + 1, p, l, acc, ts, e, q, h, hn, hl, hk => by
    rw [go_eq] at h
    split at h
    · cases h; exact ⟨hn, by omega⟩
    · rename_i hne
      cases ho : one dec l with
      | inl e' =>
        rw [ho] at h; cases h
        exact ⟨fun t ht => by simp at ht, by simp⟩
      | inr x =>
        obtain ⟨t, r⟩ := x
        rw [ho] at h
        have h1 := one_len hne ho
        refine go_sizes M K f _ r (acc ++ [t]) ts e q h (fun u hu => ?_) (by omega) (by rw [List.length_append]; simp only [List.length_cons, List.length_nil]; omega)
        rcases List.mem_append.1 hu with hu | hu
        · exact hn u hu
        · rw [List.mem_singleton.1 hu]; exact Nat.le_trans (one_name ho) hl
theorem tokens_sizes {dec : Bs → Bool → Bs} {l : Bs} {ts : List Tok} {e q : Nat} (h : tokens dec l = (ts, e, q)) : (∀ t ∈ ts, t.name.length ≤ l.length) ∧ ts.length ≤ l.length := by
  unfold tokens at h
  split at h
  · cases h; exact ⟨fun t ht => by simp at ht, by simp⟩
  · split at h
    · cases h; exact ⟨fun t ht => by simp at ht, by simp⟩
    · exact go_sizes l.length l.length _ _ _ _ _ _ _ h (fun t ht => by simp at ht) (Nat.le_refl _) (by simp)

/- Where an error stands. -/
theorem indexByte_le : ∀ (l : Bs) (c : UInt8), (Lib.indexByte l c).toNat ≤ l.length
  | [], _ => by unfold Lib.indexByte; decide
  | b :: l, c => by
    have h := indexByte_le l c
    unfold Lib.indexByte
    split
    · simp
    · split
      · simp
      · rw [List.length_cons]; omega
theorem go_place {dec : Bs → Bool → Bs} : ∀ (f p : Nat) (l : Bs) (acc ts : List Tok) (e q : Nat), go dec f p l acc = (ts, e, q) → q ≤ p + l.length
  | 0, p, l, acc, ts, e, q, h => by cases h; omega
  | f + 1, p, l, acc, ts, e, q, h => by
    rw [go_eq] at h
    split at h
    · cases h; omega
    · rename_i hne
      cases ho : one dec l with
      | inl e' => rw [ho] at h; cases h; omega
      | inr x =>
        obtain ⟨t, r⟩ := x
        rw [ho] at h
        have h1 := one_len hne ho
        have := go_place f _ r _ ts e q h
        omega
theorem tokens_place {dec : Bs → Bool → Bs} {l : Bs} {ts : List Tok} {e q : Nat} (h : tokens dec l = (ts, e, q)) : q ≤ l.length := by
  unfold tokens at h
  split at h
  · cases h; omega
  · split at h
    · cases h; exact indexByte_le l 0
    · have := go_place _ _ _ _ _ _ _ h; omega
end Go.Proofs.YtaohdicilfabeaaGreatDoor.Tk

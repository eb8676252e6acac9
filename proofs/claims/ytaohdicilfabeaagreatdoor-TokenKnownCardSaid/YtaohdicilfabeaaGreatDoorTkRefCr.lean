/- Plain words: the answer's way of finding a character reference (the longest name), and that it is the program's. No program, no memory. -/
import Derived.Test.YtaohdicilfabeaaGreatDoorTkCr
namespace Go.Proofs.YtaohdicilfabeaaGreatDoor.Tk
open Go

theorem cmp_zero : ∀ (a b : Bs), Lib.compareBytes a b = 0 → a = b
  | [], [], _ => rfl
  | [], _ :: _, h => by unfold Lib.compareBytes at h; exact absurd h (by decide)
  | _ :: _, [], h => by unfold Lib.compareBytes at h; exact absurd h (by decide)
  | x :: a, y :: b, h => by
    unfold Lib.compareBytes at h
    split at h
    · exact absurd h (by decide)
    · split at h
      · exact absurd h (by decide)
      · rename_i h1 h2
        have e : x = y := by
          apply UInt8.toNat_inj.1
          have a1 : ¬ x.toNat < y.toNat := fun h => h1 (UInt8.lt_iff_toNat_lt.2 h)
          have a2 : ¬ y.toNat < x.toNat := fun h => h2 (UInt8.lt_iff_toNat_lt.2 h)
          omega
        rw [e, cmp_zero a b h]

/-- What is asked of a table of names: each is found; they are words of letters and digits; no two are one. -/
structure Names.Good (nm : Names) : Prop where
  found : ∀ x ∈ nm, found nm x.1 = true ∧ nameAt nm (place nm x.1) = x
  word : ∀ x ∈ nm, x.1.all alnum = true ∧ x.1 ≠ []

theorem found_mem {nm : Names} {w : Bs} (h : found nm w = true) : nameAt nm (place nm w) ∈ nm ∧ (nameAt nm (place nm w)).1 = w := by
  unfold found at h
  rw [Bool.and_eq_true, decide_eq_true_eq, decide_eq_true_eq] at h
  refine ⟨?_, cmp_zero _ _ h.2⟩
  unfold nameAt
  rw [List.getD_eq_getElem?_getD, List.getElem?_eq_getElem h.1]
  exact List.getElem_mem h.1
theorem good_one {nm : Names} (hg : Names.Good nm) {x y : Bs × Int × Bool} (hx : x ∈ nm) (hy : y ∈ nm) (h : x.1 = y.1) : x = y := by
  have a := (hg.found x hx).2
  have b := (hg.found y hy).2
  rw [h, b] at a; exact a.symm

/-- What a name is worth at a text: its reference, its character. -/
def candOf (s : Bs) (x : Bs × Int × Bool) : Option (Bs × Int) :=
  if Lib.hasPrefix s (38 :: x.1) = false then none
  else if Lib.hasPrefix s (38 :: x.1 ++ [59]) = true then some (38 :: x.1 ++ [59], x.2.1)
  else if x.2.2 = false then none
  else some (38 :: x.1, x.2.1)
/-- One name more: the longest so far. -/
def longer (s : Bs) (st : Bs × Int) (x : Bs × Int × Bool) : Bs × Int :=
  match candOf s x with
  | none => st
  | some c => if st.1.length < c.1.length then c else st
def longest (s : Bs) (nm : Names) : Bs × Int := nm.foldl (longer s) ([], 0)
/-- The answer's end. -/
def lastly (attr : Bool) (s : Bs) (st : Bs × Int) : Option (Int × Nat) :=
  if st.1.length = 0 ∨ (attr = true ∧ st.1[st.1.length - 1]? ≠ some 59 ∧ (s[st.1.length]?).any (fun c => c == 61 || alnum c) = true) then none else some (st.2, st.1.length)

theorem longest_inv (s : Bs) : ∀ (l : Names) (st : Bs × Int), (st = ([], 0) ∨ ∃ x, candOf s x = some st) →
    ((l.foldl (longer s) st = st ∧ ∀ x ∈ l, ∀ c, candOf s x = some c → c.1.length ≤ st.1.length) ∨ (∃ x ∈ l, candOf s x = some (l.foldl (longer s) st) ∧ st.1.length < (l.foldl (longer s) st).1.length ∧ ∀ y ∈ l, ∀ c, candOf s y = some c → c.1.length ≤ (l.foldl (longer s) st).1.length))
  | [], st, _ => .inl ⟨rfl, fun x hx => by simp at hx⟩
  | y :: l, st, h => by
    rw [List.foldl_cons]
    have hstep : (longer s st y = st ∧ ∀ c, candOf s y = some c → c.1.length ≤ st.1.length) ∨ (candOf s y = some (longer s st y) ∧ st.1.length < (longer s st y).1.length) := by
      unfold longer
      cases hc : candOf s y with
      | none => exact .inl ⟨rfl, fun c hc => by cases hc⟩
      | some c =>
        by_cases hlt : st.1.length < c.1.length
        · right; simp only [hlt, if_true]; exact ⟨trivial, trivial⟩
        · left; simp only [hlt, if_false]; exact ⟨trivial, fun c' hc' => by cases hc'; omega⟩
    rcases hstep with ⟨h1, h2⟩ | ⟨h1, h2⟩
    · rw [h1]
      rcases longest_inv s l st h with ⟨h3, h4⟩ | ⟨x, hx, h3, h4, h5⟩
      · exact .inl ⟨h3, fun x hx c hc => (List.mem_cons.1 hx).elim (fun e => h2 c (e ▸ hc)) (fun hx => h4 x hx c hc)⟩
      · exact .inr ⟨x, List.mem_cons_of_mem _ hx, h3, h4, fun x hx c hc => (List.mem_cons.1 hx).elim (fun e => by have := h2 c (e ▸ hc); omega) (fun hx => h5 x hx c hc)⟩
    · right
      rcases longest_inv s l (longer s st y) (.inr ⟨y, h1⟩) with ⟨h3, h4⟩ | ⟨x, hx, h3, h4, h5⟩
      · refine ⟨y, List.mem_cons_self .., by rw [h3]; exact h1, by rw [h3]; exact h2, fun x hx c hc => ?_⟩
        rw [h3]
        rcases List.mem_cons.1 hx with e | hx
        · subst e; rw [h1] at hc; cases hc; exact Nat.le_refl _
        · exact h4 x hx c hc
      · refine ⟨x, List.mem_cons_of_mem _ hx, h3, by omega, fun x hx c hc => ?_⟩
        rcases List.mem_cons.1 hx with e | hx
        · subst e; rw [h1] at hc; cases hc; omega
        · exact h5 x hx c hc

/-- What stands k bytes behind the sign: a name's worth there. -/
def candAt (nm : Names) (s : Bs) (k : Nat) : Option Int :=
  if found nm ((s.drop 1).take k) = false then none
  else if s[k + 1]? = some 59 then some (nameAt nm (place nm ((s.drop 1).take k))).2.1
  else if (nameAt nm (place nm ((s.drop 1).take k))).2.2 = false then none
  else some (nameAt nm (place nm ((s.drop 1).take k))).2.1
theorem findFrom_spec (nm : Names) (attr : Bool) (s : Bs) : ∀ K : Nat, ((∀ k, 1 ≤ k → k ≤ K → candAt nm s k = none) ∧ findFrom nm attr s K = none) ∨
    ∃ k r, 1 ≤ k ∧ k ≤ K ∧ candAt nm s k = some r ∧ (∀ j, k < j → j ≤ K → candAt nm s j = none) ∧
      findFrom nm attr s K = if s[k + 1]? = some 59 then some (r, k + 2) else if attr = true ∧ (s[k + 1]?).any (fun c => c == 61 || alnum c) = true then none else some (r, k + 1)
  | 0 => .inl ⟨fun k h1 h2 => by omega, rfl⟩
  | K + 1 => by
    have down : candAt nm s (K + 1) = none → findFrom nm attr s (K + 1) = findFrom nm attr s K → _ := fun h1 h2 =>
      (findFrom_spec nm attr s K).elim (fun ⟨a, b⟩ => Or.inl (b := ∃ k r, 1 ≤ k ∧ k ≤ K + 1 ∧ candAt nm s k = some r ∧ (∀ j, k < j → j ≤ K + 1 → candAt nm s j = none) ∧
        findFrom nm attr s (K + 1) = if s[k + 1]? = some 59 then some (r, k + 2) else if attr = true ∧ (s[k + 1]?).any (fun c => c == 61 || alnum c) = true then none else some (r, k + 1)) (a := (∀ k, 1 ≤ k → k ≤ K + 1 → candAt nm s k = none) ∧ findFrom nm attr s (K + 1) = none)
          ⟨fun k hk1 hk2 => (Nat.lt_or_ge k (K + 1)).elim (fun h => a k hk1 (by omega)) (fun h => by have e : k = K + 1 := (by omega); rw [e]; exact h1), h2.trans b⟩)
        (fun ⟨k, r, a, b, c, d, e⟩ => .inr ⟨k, r, a, by omega, c, fun j hj1 hj2 => (Nat.lt_or_ge j (K + 1)).elim (fun h => d j hj1 (by omega)) (fun h => by have e : j = K + 1 := (by omega); rw [e]; exact h1), h2.trans e⟩)
    unfold candAt at down
    by_cases hf : found nm ((s.drop 1).take (K + 1)) = false
    · rw [if_pos hf] at down
      refine down rfl ?_
      conv => lhs; unfold findFrom
      rw [if_pos hf]
    · rw [if_neg hf] at down
      by_cases h59 : s[K + 2]? = some 59
      · right
        refine ⟨K + 1, (nameAt nm (place nm ((s.drop 1).take (K + 1)))).2.1, by omega, Nat.le_refl _, ?_, fun j h1 h2 => by omega, ?_⟩
        · unfold candAt; rw [if_neg hf, if_pos h59]
        · conv => lhs; unfold findFrom
          rw [if_neg hf, if_pos h59, if_pos h59]
      · have h59' : ¬ s[K + 1 + 1]? = some 59 := h59
        rw [if_neg h59'] at down
        by_cases ha : (nameAt nm (place nm ((s.drop 1).take (K + 1)))).2.2 = false
        · rw [if_pos ha] at down
          refine down rfl ?_
          conv => lhs; unfold findFrom
          rw [if_neg hf, if_neg h59, if_pos ha]
        · right
          refine ⟨K + 1, (nameAt nm (place nm ((s.drop 1).take (K + 1)))).2.1, by omega, Nat.le_refl _, ?_, fun j h1 h2 => by omega, ?_⟩
          · unfold candAt; rw [if_neg hf, if_neg h59', if_neg ha]
          · conv => lhs; unfold findFrom
            rw [if_neg hf, if_neg h59, if_neg ha, if_neg h59']
theorem take_prefix {l p : Bs} (h : Lib.hasPrefix l p = true) : l.take p.length = p := by
  obtain ⟨t, rfl⟩ := List.isPrefixOf_iff_prefix.1 h
  simp
theorem prefix_of_eq {l p : Bs} (h : l.take p.length = p) : Lib.hasPrefix l p = true := by
  unfold Lib.hasPrefix
  rw [List.isPrefixOf_iff_prefix, ← h]; exact List.take_prefix _ _
theorem prefix_snoc {l p : Bs} {c : UInt8} : Lib.hasPrefix l (p ++ [c]) = true ↔ Lib.hasPrefix l p = true ∧ l[p.length]? = some c := by
  constructor
  · intro h
    obtain ⟨t, rfl⟩ := List.isPrefixOf_iff_prefix.1 h
    refine ⟨?_, by simp⟩
    unfold Lib.hasPrefix; rw [List.isPrefixOf_iff_prefix, List.append_assoc]; exact List.prefix_append _ _
  · rintro ⟨h1, h2⟩
    obtain ⟨t, rfl⟩ := List.isPrefixOf_iff_prefix.1 h1
    cases t with
    | nil => simp at h2
    | cons d t =>
      simp at h2; subst h2
      unfold Lib.hasPrefix; rw [List.isPrefixOf_iff_prefix]
      exact ⟨t, by simp⟩
/-- A name ahead of which the sign stands: its length is one of the run's. -/
theorem cand_run {nm : Names} (hg : Names.Good nm) {s : Bs} (hs : Lib.hasPrefix s [38] = true) {x : Bs × Int × Bool} (hx : x ∈ nm) (h : Lib.hasPrefix s (38 :: x.1) = true) : 1 ≤ x.1.length ∧ x.1.length ≤ run1 s ∧ (s.drop 1).take x.1.length = x.1 := by
  obtain ⟨ha, hne⟩ := hg.word x hx
  obtain ⟨t, rfl⟩ := List.isPrefixOf_iff_prefix.1 h
  refine ⟨List.length_pos_iff.2 hne, ?_, by simp⟩
  unfold run1
  show _ ≤ (List.takeWhile alnum (x.1 ++ t)).length
  have : ∀ (u : Bs), u.all alnum = true → u.length ≤ (List.takeWhile alnum (u ++ t)).length := by
    intro u
    induction u with
    | nil => intro _; simp
    | cons a u ih =>
      intro h
      rw [List.all_cons, Bool.and_eq_true] at h
      rw [List.cons_append, List.takeWhile_cons, h.1]
      have := ih h.2
      simp; exact this
  exact this x.1 ha
theorem run_word {s : Bs} {k : Nat} (h : k < run1 s) : ∃ c, s[k + 1]? = some c ∧ alnum c = true := by
  unfold run1 at h
  obtain ⟨c, h1⟩ : ∃ c, ((s.drop 1).takeWhile alnum)[k]? = some c := ⟨_, List.getElem?_eq_getElem h⟩
  have h2 : alnum c = true := List.all_eq_true.1 (List.all_takeWhile (p := alnum) (l := s.drop 1)) _ (List.mem_of_getElem? h1)
  have h3 : (s.drop 1)[k]? = some c := by
    obtain ⟨t, ht⟩ := List.takeWhile_prefix (l := s.drop 1) (p := alnum)
    have : ((s.drop 1).takeWhile alnum ++ t)[k]? = some c := by rw [List.getElem?_append_left h]; exact h1
    rw [ht] at this; exact this
  rw [List.getElem?_drop, Nat.add_comm] at h3
  exact ⟨_, h3, h2⟩
/-- A name's worth, by its length. -/
theorem cand_at {nm : Names} (hg : Names.Good nm) {s : Bs} (hs : Lib.hasPrefix s [38] = true) {x : Bs × Int × Bool} (hx : x ∈ nm) {c : Bs × Int} (h : candOf s x = some c) :
    candAt nm s x.1.length = some c.2 ∧ 1 ≤ x.1.length ∧ x.1.length ≤ run1 s ∧ ((s[x.1.length + 1]? = some 59 ∧ c.1 = 38 :: x.1 ++ [59]) ∨ (s[x.1.length + 1]? ≠ some 59 ∧ c.1 = 38 :: x.1)) := by
  unfold candOf at h
  split at h
  · cases h
  · rename_i hp
    have hp' : Lib.hasPrefix s (38 :: x.1) = true := by simpa using hp
    obtain ⟨h1, h2, h3⟩ := cand_run hg hs hx hp'
    obtain ⟨f1, f2⟩ := hg.found x hx
    have hiff := prefix_snoc (l := s) (p := 38 :: x.1) (c := 59)
    rw [List.length_cons] at hiff
    split at h
    · rename_i h59
      have e59 := (hiff.1 h59).2
      cases h
      refine ⟨?_, h1, h2, .inl ⟨e59, rfl⟩⟩
      unfold candAt; rw [h3, f1, f2, if_neg (by simp), if_pos e59]
    · rename_i h59
      have e59 : s[x.1.length + 1]? ≠ some 59 := fun e => h59 (hiff.2 ⟨hp', e⟩)
      split at h
      · cases h
      · rename_i hal
        cases h
        refine ⟨?_, h1, h2, .inr ⟨e59, rfl⟩⟩
        unfold candAt; rw [h3, f1, f2, if_neg (by simp), if_neg e59, if_neg hal]
theorem at_cand {nm : Names} {s : Bs} (hs : Lib.hasPrefix s [38] = true) {k : Nat} {r : Int} (hk : k ≤ run1 s) (h : candAt nm s k = some r) :
    ∃ x ∈ nm, x.1.length = k ∧ ∃ c, candOf s x = some c ∧ c.2 = r ∧ ((s[k + 1]? = some 59 ∧ c.1.length = k + 2) ∨ (s[k + 1]? ≠ some 59 ∧ c.1.length = k + 1)) := by
  unfold candAt at h
  split at h
  · cases h
  · rename_i hf
    obtain ⟨hm, he⟩ := found_mem (nm := nm) (w := (s.drop 1).take k) (by simpa using hf)
    obtain ⟨x, hx⟩ : ∃ x, nameAt nm (place nm ((s.drop 1).take k)) = x := ⟨_, rfl⟩
    rw [hx] at hm he h
    have hlen : x.1.length = k := by
      rw [he, List.length_take]
      have : run1 s ≤ (s.drop 1).length := (List.takeWhile_sublist _).length_le
      omega
    have hp : Lib.hasPrefix s (38 :: x.1) = true := by
      apply prefix_of_eq
      cases s with
      | nil => exact absurd hs (by decide)
      | cons a s =>
        have ha : a = 38 := by
          unfold Lib.hasPrefix at hs
          simp [List.isPrefixOf] at hs; exact hs.symm
        subst ha
        rw [List.length_cons, List.take_succ_cons, hlen]
        rw [he]; rfl
    refine ⟨x, hm, hlen, ?_⟩
    have hiff := prefix_snoc (l := s) (p := 38 :: x.1) (c := 59)
    rw [List.length_cons, hlen] at hiff
    split at h
    · rename_i h59
      cases h
      refine ⟨(38 :: x.1 ++ [59], x.2.1), ?_, rfl, .inl ⟨h59, by simp [hlen]⟩⟩
      unfold candOf; rw [if_neg (by simp [hp]), if_pos (hiff.2 ⟨hp, h59⟩)]
    · rename_i h59
      split at h
      · cases h
      · rename_i hal
        cases h
        refine ⟨(38 :: x.1, x.2.1), ?_, rfl, .inr ⟨h59, by simp [hlen]⟩⟩
        unfold candOf; rw [if_neg (by simp [hp]), if_neg (fun e => h59 (hiff.1 e).2), if_neg hal]
/-- THE LONGEST NAME IS THE ONE THAT THE PROGRAM FINDS. -/
theorem longest_find {nm nm2 : Names} (hg : Names.Good nm) (h12 : ∀ x ∈ nm, x ∈ nm2) (h21 : ∀ x ∈ nm2, x ∈ nm) (attr : Bool) {s : Bs} (hs : Lib.hasPrefix s [38] = true) :
    lastly attr s (longest s nm2) = findFrom nm attr s (run1 s) := by
  have hfold := longest_inv s nm2 ([], 0) (.inl rfl)
  change ((longest s nm2 = ([], 0) ∧ _) ∨ _) at hfold
  rcases findFrom_spec nm attr s (run1 s) with ⟨h1, h2⟩ | ⟨k, r, hk1, hk2, hc, hup, hf⟩
  · rw [h2]
    rcases hfold with ⟨h3, _⟩ | ⟨x, hx, h3, _, _⟩
    · rw [h3]; unfold lastly; rw [if_pos (.inl rfl)]
    · obtain ⟨h4, h5, h6, _⟩ := cand_at hg hs (h21 x hx) h3
      rw [h1 _ h5 h6] at h4; cases h4
  · rw [hf]
    obtain ⟨x, hx, hxl, c, hcx, hcr, hcl⟩ := at_cand hs hk2 hc
    have hpos : 1 ≤ c.1.length := by rcases hcl with ⟨_, h⟩ | ⟨_, h⟩ <;> omega
    rcases hfold with ⟨h3, h4⟩ | ⟨y, hy, h3, _, h5⟩
    · have := h4 x (h12 x hx) c hcx
      simp at this; rw [this] at hpos; simp at hpos
    · change candOf s y = some (longest s nm2) at h3
      change ∀ z ∈ nm2, ∀ c, candOf s z = some c → c.1.length ≤ (longest s nm2).1.length at h5
      obtain ⟨g1, g2, g3, g4⟩ := cand_at hg hs (h21 y hy) h3
      have hmax := h5 x (h12 x hx) c hcx
      have hyk : y.1.length = k := by
        rcases Nat.lt_trichotomy y.1.length k with h | h | h
        · exfalso
          obtain ⟨d, hd1, hd2⟩ := run_word (s := s) (k := y.1.length) (by omega)
          rcases g4 with ⟨e, _⟩ | ⟨_, e⟩
          · rw [e] at hd1; cases hd1; exact absurd hd2 (by decide)
          · rw [e] at hmax
            simp at hmax
            rcases hcl with ⟨_, h'⟩ | ⟨_, h'⟩ <;> omega
        · exact h
        · rw [hup _ h g3] at g1; cases g1
      rw [hyk] at g1 g4
      rw [hc] at g1
      have hr : r = (longest s nm2).2 := Option.some.inj g1
      rcases g4 with ⟨e1, e2⟩ | ⟨e1, e2⟩
      · have hl : (longest s nm2).1.length = k + 2 := by rw [e2]; simp [hyk]
        have h59 : (longest s nm2).1[(longest s nm2).1.length - 1]? = some 59 := by
          rw [hl, e2]
          have e : k + 2 - 1 = (38 :: y.1).length := by simp [hyk]
          rw [e]; simp
        rw [if_pos e1]
        unfold lastly
        rw [if_neg (by
          rintro (h | ⟨_, h, _⟩)
          · omega
          · exact h h59), hl, hr]
      · have hl : (longest s nm2).1.length = k + 1 := by rw [e2]; simp [hyk]
        have h59 : (longest s nm2).1[(longest s nm2).1.length - 1]? ≠ some 59 := by
          rw [hl, e2]
          have e : k + 1 - 1 = (k - 1) + 1 := by omega
          rw [e, List.getElem?_cons_succ]
          intro h
          have := List.all_eq_true.1 (hg.word y (h21 y hy)).1 59 (List.mem_of_getElem? h)
          exact absurd this (by decide)
        rw [if_neg e1]
        unfold lastly
        rw [hl] at h59 ⊢
        by_cases ha : attr = true ∧ (s[k + 1]?).any (fun c => c == 61 || alnum c) = true
        · rw [if_pos (.inr ⟨ha.1, h59, ha.2⟩), if_pos ha]
        · rw [if_neg (by
            rintro (h | ⟨h1, _, h2⟩)
            · omega
            · exact ha ⟨h1, h2⟩), if_neg ha, hr]
end Go.Proofs.YtaohdicilfabeaaGreatDoor.Tk

/- Tokens as they lie in memory: a row of structs, each with a row of attributes of its own. -/
import Derived.Test.YtaohdicilfabeaaGreatDoorTkAttr
namespace Go.Proofs.YtaohdicilfabeaaGreatDoor
open Go.RowKit

def str (l : List UInt8) : Value := .string ⟨l.toArray⟩
def attrCells (l : List Tk.At) : List Value := l.flatMap fun a => [str a.name, str a.value]
def tokCell (t : Tk.Tok) (av : Value) : List Value := [.int .u8 (t.kind : Int), str t.name, av, .bool t.self, str t.data]
def tokCells : List Tk.Tok → List Value → List Value
  | t :: ts, av :: avs => tokCell t av ++ tokCells ts avs
  | _, _ => []
theorem attrCells_len (l : List Tk.At) : (attrCells l).length = l.length * 2 := by
  induction l with
  | nil => rfl
  | cons a l ih => simp only [attrCells, List.flatMap_cons] at ih ⊢; rw [List.length_append, ih]; simp; omega
theorem tokCells_snoc : ∀ (ts : List Tk.Tok) (avs : List Value) (t : Tk.Tok) (av : Value), avs.length = ts.length → tokCells (ts ++ [t]) (avs ++ [av]) = tokCells ts avs ++ tokCell t av
  | [], [], _, _, _ => by simp [tokCells]
  | [], _ :: _, _, _, h => by simp at h
  | _ :: _, [], _, _, h => by simp at h
  | t0 :: ts, a0 :: avs, t, av, h => by
    simp only [List.cons_append, tokCells, tokCells_snoc ts avs t av (by simpa using h), List.append_assoc]

section
variable (TT AT : TypeId)
/-- A row of attributes of the call's own (from block B on). -/
def OwnA (w : World) (B : Nat) (av : Value) (l : List Tk.At) : Prop := w.ownsRow B AT 2 av l.length (attrCells l)
/-- A row of tokens of the call's own. -/
def OwnT (w : World) (B : Nat) (v : Value) (ts : List Tk.Tok) : Prop :=
  ∃ avs : List Value, avs.length = ts.length ∧ w.ownsRow B TT 5 v ts.length (tokCells ts avs) ∧ ∀ (i : Nat) t av, ts[i]? = some t → avs[i]? = some av → OwnA AT w B av t.attrs
end
theorem own_type {w : World} {B : Nat} {e : TypeId} {sz n : Nat} {v : Value} {xs : List Value} (h : w.ownsRow B e sz v n xs) {g : Nat} (hg : v.ownBlock = some g) : ∃ cs, w.heap[g]? = some (.cells cs e (0, 0)) := by
  rcases h.2 with ⟨rfl, _⟩ | ⟨g', cap, cur, rfl, _, hh, _⟩
  · simp [Value.ownBlock] at hg
  · have : g' = g := by simpa [Value.ownBlock] using hg
    subst this; exact ⟨cur, hh⟩
theorem own_ne {w : World} {B : Nat} {e : TypeId} {sz n : Nat} {v : Value} {xs : List Value} (h : w.ownsRow B e sz v n xs) {g : Nat} {T : TypeId} {cs : Array Value} {fr : Nat × Nat} (hb : w.heap[g]? = some (.cells cs T fr)) (hne : e ≠ T) : v.ownBlock ≠ some g := by
  intro hg
  obtain ⟨cs', h'⟩ := own_type h hg
  rw [hb] at h'
  exact hne (by injection h' with h'; injection h' with _ h2 _; exact h2.symm)
theorem own_keep {w w' : World} {B : Nat} {e : TypeId} {sz n : Nat} {v : Value} {xs : List Value} (h : w.ownsRow B e sz v n xs) {row : Option Nat} (hg : w.grownBy w' row) (hne : v.ownBlock = none ∨ v.ownBlock ≠ row) : w'.ownsRow B e sz v n xs := h.kept hg hne
/-- Another block, of another type, has been written. -/
theorem own_far {w w' : World} {B : Nat} {e : TypeId} {sz n : Nat} {v : Value} {xs : List Value} (h : w.ownsRow B e sz v n xs) {R : Nat} (hg : w.grownBy w' (some R)) {T : TypeId} {cs : Array Value} {fr : Nat × Nat} (hb : w.heap[R]? = some (.cells cs T fr)) (hne : e ≠ T) : w'.ownsRow B e sz v n xs := h.kept hg (.inr (own_ne h hb hne))
theorem own_below {w w' : World} {B : Nat} {e : TypeId} {sz n : Nat} {v : Value} {xs : List Value} (h : w.ownsRow B e sz v n xs) (hb : Below w.heap.size w w') : w'.ownsRow B e sz v n xs :=
  h.kept (row := none) ⟨hb.os, hb.tape, hb.output, hb.size, fun i hi _ => hb.block i hi⟩ (by cases v.ownBlock <;> simp)

section
variable {TT AT : TypeId} {w w' : World} {B : Nat} {v : Value} {ts : List Tk.Tok}
theorem OwnT.nil (TT AT : TypeId) (w : World) (B : Nat) : OwnT TT AT w B (.slice none 0 0) [] := ⟨[], rfl, World.ownsRow_nil _ _ _ _, fun i t av h _ => by simp at h⟩
theorem OwnT.far (h : OwnT TT AT w B v ts) {R : Nat} (hg : w.grownBy w' (some R)) {T : TypeId} {cs : Array Value} {fr : Nat × Nat} (hb : w.heap[R]? = some (.cells cs T fr)) (h1 : TT ≠ T) (h2 : AT ≠ T) : OwnT TT AT w' B v ts := by
  obtain ⟨avs, hl, ho, ha⟩ := h
  exact ⟨avs, hl, own_far ho hg hb h1, fun i t av ht hav => own_far (ha i t av ht hav) hg hb h2⟩
theorem OwnT.below (h : OwnT TT AT w B v ts) (hb : Below w.heap.size w w') : OwnT TT AT w' B v ts := by
  obtain ⟨avs, hl, ho, ha⟩ := h
  exact ⟨avs, hl, own_below ho hb, fun i t av ht hav => own_below (ha i t av ht hav) hb⟩
/-- Behind an append of one token. -/
theorem OwnT.snoc {t : Tk.Tok} {av v' : Value} {avs : List Value} (hne : TT ≠ AT) (hl : avs.length = ts.length) (ho : w.ownsRow B TT 5 v ts.length (tokCells ts avs)) (ha : ∀ (i : Nat) t av, ts[i]? = some t → avs[i]? = some av → OwnA AT w B av t.attrs)
    (hav : OwnA AT w B av t.attrs) (hg : w.grownBy w' v.ownBlock) (ho' : w'.ownsRow B TT 5 v' (ts.length + 1) (tokCells ts avs ++ tokCell t av)) : OwnT TT AT w' B v' (ts ++ [t]) := by
  have keep : ∀ {a : Value} {l : List Tk.At}, OwnA AT w B a l → OwnA AT w' B a l := by
    intro a l h
    refine World.ownsRow.kept h hg ?_
    cases hv : v.ownBlock with
    | none => cases hx : a.ownBlock <;> simp
    | some g =>
      right
      obtain ⟨cs, hc⟩ := own_type ho hv
      exact own_ne h hc (fun e => hne e.symm)
  refine ⟨avs ++ [av], by simp [hl], ?_, ?_⟩
  · rw [tokCells_snoc ts avs t av hl]; simpa using ho'
  · intro i t' av' ht hav'
    rcases Nat.lt_or_ge i ts.length with h | h
    · rw [List.getElem?_append_left h] at ht
      rw [List.getElem?_append_left (by omega)] at hav'
      exact keep (ha i t' av' ht hav')
    · rw [List.getElem?_append_right h] at ht
      rw [List.getElem?_append_right (by omega)] at hav'
      have e : i - ts.length = 0 := by have := (List.getElem?_eq_some_iff.1 ht).1; simp at this; omega
      rw [e] at ht; rw [hl, e] at hav'
      simp at ht hav'; subst ht; subst hav'
      exact keep hav
end
theorem attrCells_snoc (l : List Tk.At) (a : Tk.At) : attrCells (l ++ [a]) = attrCells l ++ [str a.name, str a.value] := by simp [attrCells]

theorem OwnT.drews {TT AT : TypeId} {w : World} {B : Nat} {v : Value} {ts : List Tk.Tok} (h : OwnT TT AT w B v ts) (n : Nat) : OwnT TT AT (w.drewN n) B v ts := h
/-- A local of the call's own has been written. -/
theorem OwnT.local {TT AT : TypeId} {w : World} {B : Nat} {v : Value} {ts : List Tk.Tok} (h : OwnT TT AT w B v ts) {T : Nat} {cs : Array Value} {fr : Nat × Nat} (hb : w.heap[T]? = some (.cells cs TT fr)) (hne : v.ownBlock ≠ some T) (h2 : AT ≠ TT) (i : Nat) (u : Value) : OwnT TT AT (w.setCell ⟨T, i, none⟩ u) B v ts := by
  obtain ⟨avs, hl, ho, ha⟩ := h
  have hg := gS (gRefl w (some T)) T i u (.inl rfl)
  exact ⟨avs, hl, ho.kept hg (.inr hne), fun j t av ht hav => own_far (ha j t av ht hav) hg hb h2⟩
theorem OwnT.block_lt {TT AT : TypeId} {w : World} {B : Nat} {v : Value} {ts : List Tk.Tok} (h : OwnT TT AT w B v ts) {k : Nat} (hk : w.heap.size ≤ k) : v.ownBlock ≠ some k := by
  obtain ⟨avs, hl, ho, ha⟩ := h
  intro e
  have := (ho.lt k e).2
  omega

/-- What one step of the reader leaves. -/
def StepPost (B R : Nat) (s : ByteArray) (ts : List Tk.Tok) (res : Sum Nat (Tk.Tok × List UInt8)) (w : World) (e : Ending) (w' : World) : Prop :=
  Below B w w' ∧ ((∃ k : Nat, k ≠ 0 ∧ res = .inl k ∧ e = .returned (.int .i64 (k : Int))) ∨
    (∃ t r p' v', res = .inr (t, r) ∧ e = .returned (.int .i64 0) ∧ Rs w' R s p' r v' ∧ OwnT 33 35 w' B v' (ts ++ [t])))
theorem StepPost.err {B R : Nat} {s : ByteArray} {ts : List Tk.Tok} {res : Sum Nat (Tk.Tok × List UInt8)} {w : World} {e : Ending} {w' : World} (hb : Below B w w') (k : Nat) (hk : k ≠ 0) (hr : res = .inl k) (he : e = .returned (.int .i64 (k : Int))) : StepPost B R s ts res w e w' := ⟨hb, .inl ⟨k, hk, hr, he⟩⟩

/-- The reader and its tokens, on the way; w0: the world at the beginning. -/
structure Sta (w0 : World) (B R : Nat) (s : ByteArray) (ts : List Tk.Tok) (w : World) (p : Nat) (l : List UInt8) (v : Value) : Prop where
  bel : Below B w0 w
  rs : Rs w R s p l v
  own : OwnT 33 35 w B v ts
  hB : B ≤ R
section
variable {w0 : World} {B R : Nat} {s : ByteArray} {ts : List Tk.Tok} {w w1 : World} {p p' : Nat} {l l' : List UInt8} {v : Value}
theorem Sta.below (h : Sta w0 B R s ts w p l v) (hb : Below w.heap.size w w1) : Sta w0 B R s ts w1 p l v :=
  ⟨h.bel.trans (hb.mono (by have := blk_lt h.rs.rd; have := h.hB; omega)), h.rs.grown hb, h.own.below hb, h.hB⟩
theorem Sta.drews (h : Sta w0 B R s ts w p l v) (n : Nat) : Sta w0 B R s ts (w.drewN n) p l v := ⟨⟨h.bel.os, h.bel.tape, h.bel.output, h.bel.size, h.bel.block⟩, h.rs.drews n, h.own, h.hB⟩
theorem Sta.alloc (h : Sta w0 B R s ts w p l v) (o : Obj) : Sta w0 B R s ts (w.alloc o) p l v := h.below ((Below.refl _ _).alloc (Nat.le_refl _) _)
theorem Sta.grown (h : Sta w0 B R s ts w p l v) (hg : w.grownBy w1 (some R)) (hr : Rs w1 R s p' l' v) : Sta w0 B R s ts w1 p' l' v :=
  ⟨h.bel.grown hg (by have := blk_lt h.rs.rd; have := h.hB; omega) (fun k hk => by cases hk; exact h.hB), hr, h.own.far hg h.rs.rd (by decide) (by decide), h.hB⟩
theorem Sta.add (h : Sta w0 B R s ts w p l v) (q : Nat) (hq : q ≤ l.length) (x : Int) (hx : x = ((p + q : Nat) : Int)) : Sta w0 B R s ts (w.setCell ⟨R, 1, none⟩ (.int .i64 x)) (p + q) (l.drop q) v := by
  subst hx; exact h.grown (gS (gRefl w _) R 1 _ (.inl rfl)) (h.rs.set q hq)
theorem Sta.gl {nm : List (List UInt8 × Int × Bool)} {ot : List Int} (h : Sta w0 B R s ts w p l v) (hg : Gl nm ot w0) (hB : 5 ≤ B) : Gl nm ot w := hg.below h.bel hB
/-- A local struct of the call's own has been written. -/
theorem Sta.local (h : Sta w0 B R s ts w p l v) {T : Nat} {cs : Array Value} {fr : Nat × Nat} (hb : w.heap[T]? = some (.cells cs 33 fr)) (hne : v.ownBlock ≠ some T) (hT : B ≤ T) (i : Nat) (u : Value) : Sta w0 B R s ts (w.setCell ⟨T, i, none⟩ u) p l v :=
  ⟨h.bel.setCell (p := ⟨T, i, none⟩) hT u, h.rs.other T i u (fun e => by
    have h1 : w.heap[R]? = _ := h.rs.rd
    rw [e, hb] at h1
    injection h1 with h1; injection h1 with _ h2 _
    exact absurd h2 (by decide)), h.own.local hb hne (by decide) i u, h.hB⟩
theorem Sta.base (h : Sta w0 B R s ts w p l v) : B ≤ w.heap.size := by have := blk_lt h.rs.rd; have := h.hB; omega
theorem Sta.appended (h : Sta w0 B R s ts w p l v) {o : Obj} {n : Nat} {xs : List Value} (ho : w.ownsRow B 33 5 v n xs) (hg : (w.alloc o).grownBy w1 v.ownBlock) : Rd w1 R s p v :=
  (hg.block R (by have := blk_lt h.rs.rd; simp; omega) (fun e => own_ne ho h.rs.rd (by decide) e.symm)).trans (bA h.rs.rd o)
/-- The reader's tokens have been appended to, and stored back. -/
theorem Sta.done (h : Sta w0 B R s ts w p l v) {t : Tk.Tok} {av v' : Value} {avs : List Value} (hl : avs.length = ts.length) (ho : w.ownsRow B 33 5 v ts.length (tokCells ts avs)) (ha : ∀ (i : Nat) t av, ts[i]? = some t → avs[i]? = some av → OwnA 35 w B av t.attrs)
    (hav : OwnA 35 w B av t.attrs) {o : Obj} (hg0 : (w.alloc o).grownBy w1 v.ownBlock) (ho' : w1.ownsRow B 33 5 v' (ts.length + 1) (tokCells ts avs ++ tokCell t av)) {res : Sum Nat (Tk.Tok × List UInt8)} (hres : res = .inr (t, l)) :
    StepPost B R s ts res w0 (.returned (.int .i64 0)) (w1.setCell ⟨R, 2, none⟩ v') := by
  have hg : w.grownBy w1 v.ownBlock := gT (gA (gRefl w _) o) hg0
  have hR : w1.heap[R]? = _ := (hg.block R (blk_lt h.rs.rd) (fun e => own_ne ho h.rs.rd (by decide) e.symm)).trans h.rs.rd
  have h1 : Rd w1 R s p v := hR
  refine ⟨(h.bel.grown hg (by have := blk_lt h.rs.rd; have := h.hB; omega) (fun k hk => (ho.lt k hk).1)).setCell (p := ⟨R, 2, none⟩) h.hB _, .inr ⟨t, l, p, v', hres, rfl, ⟨h1.set2 v', h.rs.le, h.rs.dr⟩, ?_⟩⟩
  exact (OwnT.snoc (by decide) hl ho ha hav hg ho').far (gS (gRefl w1 (some R)) R 2 _ (.inl rfl)) hR (by decide) (by decide)
end
end Go.Proofs.YtaohdicilfabeaaGreatDoor

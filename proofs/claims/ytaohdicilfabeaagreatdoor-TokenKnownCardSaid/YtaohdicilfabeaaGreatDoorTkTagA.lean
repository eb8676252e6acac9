/- A tag on the way: the reader, the tag's own struct, its attributes. -/
import Derived.Test.YtaohdicilfabeaaGreatDoorTkText
namespace Go.Proofs.YtaohdicilfabeaaGreatDoor
open Go.RowKit

theorem blk_ne {w : World} {a b : Nat} {t u : TypeId} {cs ds : Array Value} {f g : Nat × Nat} (ha : w.heap[a]? = some (.cells cs t f)) (hb : w.heap[b]? = some (.cells ds u g)) (h : t ≠ u) : a ≠ b := by
  intro e; subst e; rw [ha] at hb; injection hb with hb; injection hb with _ h2 _; exact h h2
theorem gX {w W W1 : World} {row row' : Option Nat} (h : w.grownBy W row) (k : W.grownBy W1 row') (hr : ∀ g, row' = some g → w.heap.size ≤ g) : w.grownBy W1 row :=
  ⟨k.os.trans h.os, k.tape.trans h.tape, k.output.trans h.output, Nat.le_trans h.size k.size, fun i hi hne => (k.block i (Nat.lt_of_lt_of_le hi h.size) (fun e => by have := hr i e.symm; omega)).trans (h.block i hi hne)⟩
theorem own_mono {w : World} {B C : Nat} {e : TypeId} {sz n : Nat} {v : Value} {xs : List Value} (h : w.ownsRow B e sz v n xs) (hC : C ≤ B) : w.ownsRow C e sz v n xs := by
  refine ⟨h.1, ?_⟩
  rcases h.2 with h | ⟨g, cap, cur, h1, h2, h3⟩
  · exact .inl h
  · exact .inr ⟨g, cap, cur, h1, Nat.le_trans hC h2, h3⟩
theorem attrInfo : (Tryz.prog.info? 35).map (fun i => (i.zero, i.size, i.bytes)) = some (some (.agg #[.string ⟨#[]⟩, .string ⟨#[]⟩]), 2, 32) := by kernel_rfl

/-- The cells of the tag's struct. -/
def tagCells (kind : Nat) (name : List UInt8) (av : Value) (sf : Bool) : Array Value := #[.int .u8 (kind : Int), .string ⟨name.toArray⟩, av, .bool sf, .string ⟨#[]⟩]
/-- On the way through a tag; w0: the world at its beginning. -/
structure Tg (w0 : World) (R : Nat) (s : ByteArray) (v : Value) (T kind : Nat) (name : List UInt8) (w : World) (p : Nat) (l : List UInt8) (av : Value) (acc : List Tk.At) (sf : Bool) : Prop where
  gr : w0.grownBy w (some R)
  rs : Rs w R s p l v
  blk : w.heap[T]? = some (.cells (tagCells kind name av sf) 33 (0, 0))
  hT : w0.heap.size ≤ T
  hR : R < w0.heap.size
  own : OwnA 35 w w0.heap.size av acc
section
variable {w0 : World} {R : Nat} {s : ByteArray} {v : Value} {T kind : Nat} {name : List UInt8} {w w1 : World} {p p' : Nat} {l l' : List UInt8} {av : Value} {acc : List Tk.At} {sf : Bool}
theorem Tg.below (h : Tg w0 R s v T kind name w p l av acc sf) (hb : Below w.heap.size w w1) : Tg w0 R s v T kind name w1 p l av acc sf :=
  ⟨gB h.gr hb, h.rs.grown hb, bB h.blk hb, h.hT, h.hR, own_below h.own hb⟩
theorem Tg.drews (h : Tg w0 R s v T kind name w p l av acc sf) (n : Nat) : Tg w0 R s v T kind name (w.drewN n) p l av acc sf := ⟨gD h.gr n, h.rs.drews n, h.blk, h.hT, h.hR, h.own⟩
theorem Tg.alloc (h : Tg w0 R s v T kind name w p l av acc sf) (o : Obj) : Tg w0 R s v T kind name (w.alloc o) p l av acc sf := h.below ((Below.refl _ _).alloc (Nat.le_refl _) _)
theorem Tg.grown (h : Tg w0 R s v T kind name w p l av acc sf) (hg : w.grownBy w1 (some R)) (hr : Rs w1 R s p' l' v) : Tg w0 R s v T kind name w1 p' l' av acc sf :=
  ⟨gT h.gr hg, hr, bG h.blk hg (fun e => by have := h.hT; have := h.hR; injection e with e; omega), h.hT, h.hR, own_far h.own hg h.rs.rd (by decide)⟩
theorem Tg.add (h : Tg w0 R s v T kind name w p l av acc sf) (q : Nat) (hq : q ≤ l.length) (x : Int) (hx : x = ((p + q : Nat) : Int)) : Tg w0 R s v T kind name (w.setCell ⟨R, 1, none⟩ (.int .i64 x)) (p + q) (l.drop q) av acc sf := by
  subst hx; exact h.grown (gS (gRefl w _) R 1 _ (.inl rfl)) (h.rs.set q hq)
theorem Tg.selfed (h : Tg w0 R s v T kind name w p l av acc sf) : Tg w0 R s v T kind name (w.setCell ⟨T, 3, none⟩ (.bool true)) p l av acc true :=
  ⟨gS h.gr T 3 _ (.inr h.hT), h.rs.other T 3 _ (by have := h.hT; have := h.hR; omega), bP h.blk 3 _ rfl, h.hT, h.hR, own_far h.own (gS (gRefl w (some T)) T 3 _ (.inl rfl)) h.blk (by decide)⟩
theorem Tg.appended (h : Tg w0 R s v T kind name w p l av acc sf) {a : Tk.At} {av' : Value} (hg : w.grownBy w1 av.ownBlock) (ho : w1.ownsRow w0.heap.size 35 2 av' (acc.length + 1) (attrCells acc ++ [str a.name, str a.value])) :
    Tg w0 R s v T kind name (w1.setCell ⟨T, 2, none⟩ av') p l av' (acc ++ [a]) sf := by
  have hne : some T ≠ av.ownBlock := fun e => own_ne h.own h.blk (by decide) e.symm
  have hneR : some R ≠ av.ownBlock := fun e => own_ne h.own h.rs.rd (by decide) e.symm
  have hb := bG h.blk hg hne
  have hr : Rd w1 R s p v := bG h.rs.rd hg hneR
  refine ⟨gS (gX h.gr hg (fun g e => (h.own.lt g e).1)) T 2 _ (.inr h.hT), Rs.other ⟨hr, h.rs.le, h.rs.dr⟩ T 2 _ (by have := h.hT; have := h.hR; omega), bP hb 2 _ rfl, h.hT, h.hR, ?_⟩
  have h2 : OwnA 35 w1 w0.heap.size av' (acc ++ [a]) := by
    unfold OwnA; rw [attrCells_snoc, List.length_append]; exact ho
  exact own_far h2 (gS (gRefl w1 (some T)) T 2 _ (.inl rfl)) hb (by decide)
theorem Tg.c1 (h : Tg w0 R s v T kind name w p l av acc sf) : w.cell? ⟨T, 1, none⟩ = some (.string ⟨name.toArray⟩) := blk_cell h.blk 1
theorem Tg.c0 (h : Tg w0 R s v T kind name w p l av acc sf) : w.cell? ⟨T, 0, none⟩ = some (.int .u8 (kind : Int)) := blk_cell h.blk 0
theorem Tg.c2 (h : Tg w0 R s v T kind name w p l av acc sf) : w.cell? ⟨T, 2, none⟩ = some av := blk_cell h.blk 2
theorem Tg.c3 (h : Tg w0 R s v T kind name w p l av acc sf) : w.cell? ⟨T, 3, none⟩ = some (.bool sf) := blk_cell h.blk 3
theorem Tg.c4 (h : Tg w0 R s v T kind name w p l av acc sf) : w.cell? ⟨T, 4, none⟩ = some (.string ⟨#[]⟩) := blk_cell h.blk 4
theorem Tg.free (h : Tg w0 R s v T kind name w p l av acc sf) (i : Nat) : w.frozen? ⟨T, i, none⟩ = false := blk_free h.blk i
/-- What the whole call has done so far. -/
theorem Tg.sta {B : Nat} {ts : List Tk.Tok} {w00 : World} {p0 : Nat} {l0 : List UInt8} (h : Tg w0 R s v T kind name w p l av acc sf) (h0 : Sta w00 B R s ts w0 p0 l0 v) : Sta w00 B R s ts w p l v := h0.grown h.gr h.rs
theorem Tg.start {B : Nat} {ts : List Tk.Tok} {w00 : World} {p0 : Nat} {l0 : List UInt8} (h0 : Sta w00 B R s ts w0 p0 l0 v) (hg : w0.grownBy w (some R)) (hr : Rs w R s p l v) (hb : w.heap[T]? = some (.cells (tagCells kind name (.slice none 0 0) false) 33 (0, 0))) (hT : w0.heap.size ≤ T) :
    Tg w0 R s v T kind name w p l (.slice none 0 0) [] false := ⟨hg, hr, hb, hT, blk_lt h0.rs.rd, World.ownsRow_nil _ _ _ _⟩
end
end Go.Proofs.YtaohdicilfabeaaGreatDoor

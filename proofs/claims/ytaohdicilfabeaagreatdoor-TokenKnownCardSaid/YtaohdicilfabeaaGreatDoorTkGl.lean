/- Facts on memory that are handed from call to call: what has grown, which blocks stand, the package's tables. -/
import Derived.Test.YtaohdicilfabeaaGreatDoorTkRead
namespace Go.Proofs.YtaohdicilfabeaaGreatDoor
open Go.RowKit

theorem gT {w W W1 : World} {row : Option Nat} (h : w.grownBy W row) (k : W.grownBy W1 row) : w.grownBy W1 row :=
  ⟨k.os.trans h.os, k.tape.trans h.tape, k.output.trans h.output, Nat.le_trans h.size k.size, fun i hi hne => (k.block i (Nat.lt_of_lt_of_le hi h.size) hne).trans (h.block i hi hne)⟩
theorem gRefl (w : World) (row : Option Nat) : w.grownBy w row := ⟨rfl, rfl, rfl, Nat.le_refl _, fun _ _ _ => rfl⟩
theorem gB {w W W1 : World} {row : Option Nat} (h : w.grownBy W row) (k : Below W.heap.size W W1) : w.grownBy W1 row := gT h ⟨k.os, k.tape, k.output, k.size, fun i hi _ => k.block i hi⟩
theorem gD {w W : World} {row : Option Nat} (h : w.grownBy W row) (n : Nat) : w.grownBy (W.drewN n) row := ⟨h.os, h.tape, h.output, h.size, h.block⟩
theorem gA {w W : World} {row : Option Nat} (h : w.grownBy W row) (o : Obj) : w.grownBy (W.alloc o) row := gB h ((Below.refl _ _).alloc (Nat.le_refl _) _)
/-- A store into a block that is new, or the one that may be written. -/
theorem gS {w W : World} {row : Option Nat} (h : w.grownBy W row) (g i : Nat) (u : Value) (hg : some g = row ∨ w.heap.size ≤ g) : w.grownBy (W.setCell ⟨g, i, none⟩ u) row :=
  ⟨h.os, h.tape, h.output, by simpa [World.setCell] using h.size, fun k hk hne => by
    rw [Below.heap_setCell W _ u k (fun (e : k = g) => by rcases hg with hg | hg; exact hne (by rw [e, hg]); omega)]; exact h.block k hk hne⟩
theorem bG {W W1 : World} {g : Nat} {o : Obj} {row : Option Nat} (h : W.heap[g]? = some o) (k : W.grownBy W1 row) (hne : some g ≠ row) : W1.heap[g]? = some o := (k.block g (blk_lt h) hne).trans h
theorem bB {W W1 : World} {g : Nat} {o : Obj} (h : W.heap[g]? = some o) (k : Below W.heap.size W W1) : W1.heap[g]? = some o := (k.block g (blk_lt h)).trans h
theorem bA {W : World} {g : Nat} {o : Obj} (h : W.heap[g]? = some o) (o' : Obj) : (W.alloc o').heap[g]? = some o := (Below.heap_alloc W o' g (blk_lt h)).trans h
theorem bN (W : World) (o : Obj) : (W.alloc o).heap[W.heap.size]? = some o := heap_alloc_new W o
theorem bS {W : World} {g : Nat} {o : Obj} (h : W.heap[g]? = some o) (p i : Nat) (u : Value) (hne : g ≠ p) : (W.setCell ⟨p, i, none⟩ u).heap[g]? = some o := (Below.heap_setCell W _ u g hne).trans h
theorem bP {w : World} {g : Nat} {t : TypeId} {cs cs' : Array Value} (h : w.heap[g]? = some (.cells cs t (0, 0))) (i : Nat) (u : Value) (e : cs.setIfInBounds i u = cs') : (w.setCell ⟨g, i, none⟩ u).heap[g]? = some (.cells cs' t (0, 0)) := e ▸ blk_set h i u

/-- The package's tables, as they lie in memory. -/
structure Gl (names : List (List UInt8 × Int × Bool)) (others : List Int) (w : World) : Prop where
  lt : 5 ≤ w.heap.size
  maxLen : ∃ m, w.cell? ⟨0, 0, none⟩ = some (.int .i64 m)
  name : ∀ (i : Nat) x, names[i]? = some x → w.cell? ⟨1, 3 * i, none⟩ = some (.string ⟨x.1.toArray⟩) ∧ w.cell? ⟨1, 3 * i + 1, none⟩ = some (.int .i32 x.2.1) ∧ w.cell? ⟨1, 3 * i + 2, none⟩ = some (.bool x.2.2)
  other : ∀ (i : Nat) x, others[i]? = some x → w.cell? ⟨2, i, none⟩ = some (.int .i32 x)
theorem Gl.keep {names : List (List UInt8 × Int × Bool)} {others : List Int} {w w' : World} (h : Gl names others w) (hs : w.heap.size ≤ w'.heap.size) (hb : ∀ k, k < 5 → w'.heap[k]? = w.heap[k]?) : Gl names others w' := by
  have hc : ∀ k o, k < 5 → w'.cell? ⟨k, o, none⟩ = w.cell? ⟨k, o, none⟩ := fun k o hk => World.cell?_of_block (hb k hk)
  have h0 : 0 < 5 := by decide
  have h1 : 1 < 5 := by decide
  have h2 : 2 < 5 := by decide
  refine ⟨Nat.le_trans h.lt hs, ?_, fun i x hx => ?_, fun i x hx => ?_⟩
  · obtain ⟨m, hm⟩ := h.maxLen; exact ⟨m, (hc _ _ h0).trans hm⟩
  · obtain ⟨a, b, c⟩ := h.name i x hx; exact ⟨(hc _ _ h1).trans a, (hc _ _ h1).trans b, (hc _ _ h1).trans c⟩
  · exact (hc _ _ h2).trans (h.other i x hx)
theorem Gl.grown {names : List (List UInt8 × Int × Bool)} {others : List Int} {w w' : World} {R : Nat} (h : Gl names others w) (hg : w.grownBy w' (some R)) (hR : 5 ≤ R) : Gl names others w' :=
  h.keep hg.size fun k hk => hg.block k (by have := h.lt; omega) (by simp; omega)
theorem Gl.below {names : List (List UInt8 × Int × Bool)} {others : List Int} {w w' : World} {B : Nat} (h : Gl names others w) (hg : Below B w w') (hB : 5 ≤ B) : Gl names others w' :=
  h.keep hg.size fun k hk => hg.block k (by omega)

/-- The reader's state: it stands at place p, behind which l is left. -/
structure Rs (w : World) (R : Nat) (s : ByteArray) (p : Nat) (l : List UInt8) (v : Value) : Prop where
  rd : Rd w R s p v
  le : p ≤ s.size
  dr : s.data.toList.drop p = l
theorem Rs.len {w : World} {R : Nat} {s : ByteArray} {p : Nat} {l : List UInt8} {v : Value} (h : Rs w R s p l v) : l.length = s.size - p := by
  rw [← h.dr, List.length_drop, ← Lib.size_eq]
theorem Rs.grown {w w' : World} {R : Nat} {s : ByteArray} {p : Nat} {l : List UInt8} {v : Value} (h : Rs w R s p l v) (hb : Below w.heap.size w w') : Rs w' R s p l v := ⟨h.rd.grown hb, h.le, h.dr⟩
theorem Rs.drews {w : World} {R : Nat} {s : ByteArray} {p : Nat} {l : List UInt8} {v : Value} (h : Rs w R s p l v) (n : Nat) : Rs (w.drewN n) R s p l v := ⟨h.rd, h.le, h.dr⟩
theorem Rs.alloc {w : World} {R : Nat} {s : ByteArray} {p : Nat} {l : List UInt8} {v : Value} (h : Rs w R s p l v) (o : Obj) : Rs (w.alloc o) R s p l v := h.grown ((Below.refl _ _).alloc (Nat.le_refl _) _)
theorem Rs.set {w : World} {R : Nat} {s : ByteArray} {p : Nat} {l : List UInt8} {v : Value} (h : Rs w R s p l v) (q : Nat) (hq : q ≤ l.length) : Rs (w.setCell ⟨R, 1, none⟩ (.int .i64 ((p + q : Nat) : Int))) R s (p + q) (l.drop q) v :=
  ⟨h.rd.set1 _, by have := h.len; have := h.le; omega, by rw [← h.dr, List.drop_drop]⟩
theorem Rs.other {w : World} {R : Nat} {s : ByteArray} {p : Nat} {l : List UInt8} {v : Value} (h : Rs w R s p l v) (g i : Nat) (u : Value) (hne : R ≠ g) : Rs (w.setCell ⟨g, i, none⟩ u) R s p l v := ⟨bS h.rd g i u hne, h.le, h.dr⟩
theorem dropWhile_drop_len (f : UInt8 → Bool) (L : List UInt8) (p : Nat) (hp : p ≤ L.length) : L.length - ((L.drop p).dropWhile f).length ≤ L.length ∧ L.drop (L.length - ((L.drop p).dropWhile f).length) = (L.drop p).dropWhile f := by
  refine ⟨by omega, ?_⟩
  have hs : (L.drop p).dropWhile f <:+ L := (List.dropWhile_suffix f).trans (List.drop_suffix p L)
  obtain ⟨t, ht⟩ := hs
  have hlen : L.length - ((L.drop p).dropWhile f).length = t.length := by
    have := congrArg List.length ht
    rw [List.length_append] at this; omega
  rw [hlen]
  conv => lhs; rw [← ht]
  exact List.drop_left

theorem rest_s (R : Nat) (s : ByteArray) (p : Nat) (l : List UInt8) (v : Value) (w : World) (h : Rs w R s p l v) (hs : s.size ≤ 1000000) :
    Calls Tryz.prog 16 #[.pointer (some ⟨R, 0, none⟩)] w fun e w' => e = .returned (.string ⟨l.toArray⟩) ∧ ∃ n, w' = w.drewN n :=
  (rest_any R s p v w h.rd h.le (by omega)).mono fun e w' ⟨he, hw⟩ => ⟨he.trans (ret_str (by rw [← h.dr, ← Lib.extract_to_end])), hw⟩
theorem has_s (R : Nat) (s : ByteArray) (p : Nat) (l : List UInt8) (v : Value) (t : ByteArray) (w : World) (h : Rs w R s p l v) (hs : s.size ≤ 1000000) :
    Calls Tryz.prog 57 #[.pointer (some ⟨R, 0, none⟩), .string t] w fun e w' => e = .returned (.bool (Lib.hasPrefix l t.data.toList)) ∧ ∃ n, w' = w.drewN n := by
  rw [← h.dr]; exact has_any R s p v t w h.rd h.le (by omega)
theorem skip_s (R : Nat) (s : ByteArray) (p : Nat) (l : List UInt8) (v : Value) (w : World) (h : Rs w R s p l v) (hs : s.size ≤ 1000000) :
    Calls Tryz.prog 56 #[.pointer (some ⟨R, 0, none⟩)] w fun e w' => e = .returned (.tuple #[]) ∧ w.grownBy w' (some R) ∧ ∃ p', Rs w' R s p' (Tk.skip l) v :=
  (skip_any R s p v w h.rd h.le (by omega)).mono fun e w' ⟨he, hg, hr⟩ => ⟨he, hg, _, hr, by have := skip_le s p; omega, by
    have := (dropWhile_drop_len (Tk.blanks.contains ·) s.data.toList p (by rw [← Lib.size_eq]; exact h.le)).2
    rw [← h.dr, Lib.size_eq]; exact this⟩
theorem upto_s (R : Nat) (s c : ByteArray) (p : Nat) (l : List UInt8) (v : Value) (w : World) (h : Rs w R s p l v) (hs : s.size ≤ 1000000) (hcs : c.size ≤ 1000000) (hc : ∀ (j : Nat) b, c.data.toList[j]? = some b → b.toNat < 128) :
    Calls Tryz.prog 40 #[.pointer (some ⟨R, 0, none⟩), .string c] w fun e w' => e = .returned (.string ⟨(Tk.upto c.data.toList l).toArray⟩) ∧ w.grownBy w' (some R) ∧ ∃ p', Rs w' R s p' (Tk.past c.data.toList l) v := by
  have hl := h.len
  have hle := h.le
  refine (upto_any R s c p v w h.rd h.le (by omega) (by omega) hc).mono ?_
  rw [h.dr]
  rintro e w' ⟨he, hg, hr⟩
  have h1 := upto_len c.data.toList l
  exact ⟨he, hg, _, hr, by omega, by rw [← List.drop_drop, h.dr]; exact (upto_take _ _).2⟩
theorem small_s (l : List UInt8) (w : World) (hs : l.length ≤ 1000000) :
    Calls Tryz.prog 39 #[.string ⟨l.toArray⟩] w fun e w' => e = .returned (.string ⟨(Tk.small l).toArray⟩) ∧ Below w.heap.size w w' :=
  small_any ⟨l.toArray⟩ w (by show l.toArray.size ≤ _; simp; omega)
end Go.Proofs.YtaohdicilfabeaaGreatDoor

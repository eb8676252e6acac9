/- The reader: its small methods, walked. -/
import Derived.Test.YtaohdicilfabeaaGreatDoorTkAnyAt
import Derived.Deep.RegionHeld3
import Derived.StillTailTactics
namespace Go.Proofs.YtaohdicilfabeaaGreatDoor
open Go.RowKit
set_option linter.unusedVariables false
set_option linter.unusedSimpArgs false

/-- The reader lies in block R: its text, its place, its tokens' slice. -/
def Rd (w : World) (R : Nat) (s : ByteArray) (p : Nat) (v : Value) : Prop := w.heap[R]? = some (.cells #[.string s, .int .i64 (p : Int), v] 43 (0, 0))

theorem blk_cell {w : World} {g : Nat} {t : TypeId} {cs : Array Value} (h : w.heap[g]? = some (.cells cs t (0, 0))) (i : Nat) : w.cell? ⟨g, i, none⟩ = cs[i]? := by simp [World.cell?, h]
theorem blk_free {w : World} {g : Nat} {t : TypeId} {cs : Array Value} (h : w.heap[g]? = some (.cells cs t (0, 0))) (i : Nat) : w.frozen? ⟨g, i, none⟩ = false := by simp [World.frozen?, h]
theorem blk_lt {w : World} {g : Nat} {o : Obj} (h : w.heap[g]? = some o) : g < w.heap.size := (Array.getElem?_eq_some_iff.1 h).1
theorem blk_set {w : World} {g : Nat} {t : TypeId} {cs : Array Value} (h : w.heap[g]? = some (.cells cs t (0, 0))) (i : Nat) (u : Value) : (w.setCell ⟨g, i, none⟩ u).heap[g]? = some (.cells (cs.setIfInBounds i u) t (0, 0)) := by
  simp [World.setCell, Array.getElem?_modify, h]
theorem Rd.c0 {w : World} {R : Nat} {s : ByteArray} {p : Nat} {v : Value} (h : Rd w R s p v) : w.cell? ⟨R, 0, none⟩ = some (.string s) := blk_cell h 0
theorem Rd.c1 {w : World} {R : Nat} {s : ByteArray} {p : Nat} {v : Value} (h : Rd w R s p v) : w.cell? ⟨R, 1, none⟩ = some (.int .i64 (p : Int)) := blk_cell h 1
theorem Rd.c2 {w : World} {R : Nat} {s : ByteArray} {p : Nat} {v : Value} (h : Rd w R s p v) : w.cell? ⟨R, 2, none⟩ = some v := blk_cell h 2
theorem Rd.free {w : World} {R : Nat} {s : ByteArray} {p : Nat} {v : Value} (h : Rd w R s p v) (i : Nat) : w.frozen? ⟨R, i, none⟩ = false := blk_free h i
theorem Rd.set1 {w : World} {R : Nat} {s : ByteArray} {p : Nat} {v : Value} (h : Rd w R s p v) (q : Nat) : Rd (w.setCell ⟨R, 1, none⟩ (.int .i64 (q : Int))) R s q v := blk_set h 1 _
theorem Rd.set2 {w : World} {R : Nat} {s : ByteArray} {p : Nat} {v : Value} (h : Rd w R s p v) (u : Value) : Rd (w.setCell ⟨R, 2, none⟩ u) R s p u := blk_set h 2 _

set_option maxHeartbeats 400000 in
theorem rest_any (R : Nat) (s : ByteArray) (p : Nat) (v : Value) (w : World) (h : Rd w R s p v) (hp : p ≤ s.size) (hs : s.size ≤ 140737488351232) :
    Calls Tryz.prog 16 #[.pointer (some ⟨R, 0, none⟩)] w fun e w' => e = .returned (.string (s.extract p s.size)) ∧ ∃ n, w' = w.drewN n := by
  have c0 := h.c0
  have c1 := h.c1
  clear h
  go_enter Tryz.func16, Tryz.ntmps16
  go_wp2
  go_quiet (fail)
  go_wp2
  go_ret
  exact ⟨rfl, _, rfl⟩

set_option maxHeartbeats 400000 in
theorem has_any (R : Nat) (s : ByteArray) (p : Nat) (v : Value) (t : ByteArray) (w : World) (h : Rd w R s p v) (hp : p ≤ s.size) (hs : s.size ≤ 140737488351232) :
    Calls Tryz.prog 57 #[.pointer (some ⟨R, 0, none⟩), .string t] w fun e w' => e = .returned (.bool (Lib.hasPrefix (s.data.toList.drop p) t.data.toList)) ∧ ∃ n, w' = w.drewN n := by
  have H := Lib.hid h
  clear h
  go_enter Tryz.func57, Tryz.ntmps57
  go_wp2_with (first
    | (go_at_call 16; refine (rest_any R s p v _ H.out hp hs).mono ?_; rintro e w' ⟨rfl, n, rfl⟩)
    | (go_at_call 21; refine (hasPrefix_any _ _ _).mono ?_; rintro e w' ⟨rfl, rfl⟩))
  go_ret
  exact ⟨ret_bool (by rw [List.take_of_length_le (by simp)]), _, rfl⟩
theorem Rd.grown {w w' : World} {R : Nat} {s : ByteArray} {p : Nat} {v : Value} (h : Rd w R s p v) (hb : Below w.heap.size w w') : Rd w' R s p v := (hb.block R (blk_lt h)).trans h

theorem grown_set {w w' : World} (hb : Below w.heap.size w w') (R i : Nat) (u : Value) : w.grownBy (w'.setCell ⟨R, i, none⟩ u) (some R) :=
  ⟨hb.os, hb.tape, hb.output, by have := hb.size; simpa [World.setCell] using this, fun k hk hne => by
    rw [Below.heap_setCell w' _ u k (fun e => hne (by rw [e]))]; exact hb.block k hk⟩
theorem skip_le (s : ByteArray) (p : Nat) : (Tk.skip (s.data.toList.drop p)).length ≤ s.size := by
  have h := (List.dropWhile_sublist (Tk.blanks.contains ·) (l := s.data.toList.drop p)).length_le
  simp only [List.length_drop, Array.length_toList] at h
  have : s.data.size = s.size := rfl
  unfold Tk.skip Lib.trimLeftS
  omega
set_option maxHeartbeats 400000 in
theorem skip_any (R : Nat) (s : ByteArray) (p : Nat) (v : Value) (w : World) (h : Rd w R s p v) (hp : p ≤ s.size) (hs : s.size ≤ 140737488351232) :
    Calls Tryz.prog 56 #[.pointer (some ⟨R, 0, none⟩)] w fun e w' => e = .returned (.tuple #[]) ∧ w.grownBy w' (some R) ∧ Rd w' R s (s.size - (Tk.skip (s.data.toList.drop p)).length) v := by
  have H := Lib.hid h
  have hlen := skip_le s p
  clear h
  go_enter Tryz.func56, Tryz.ntmps56
  go_wp2_with fail
  go_region_held3 (fun w' => w'.cell? ⟨R, 0, none⟩ = some (.string s))
    (first | exact H.out.c0 | exact hR'.c0 | exact (World.cell?_setCell_other _ _ _ _ (by simp)).trans hR'.c0)
    (first
    | (go_at_call 16; refine (rest_any R s p v _ (by exact H.out) hp hs).mono ?_; rintro e w' ⟨rfl, n, rfl⟩)
    | (go_at_call 83; refine (trimLeft_any _ _).mono ?_; rintro e w' ⟨rfl, hb⟩; have hR' := Rd.grown (s := s) (p := p) (v := v) (by exact H.out) hb; have d1 := hR'.c1; have f1 := hR'.free 1))
  go_end0
  have e : IntKind.i64.wrap ((s.size : Int) - ((Tk.skip (List.take (s.size - p) (List.drop p s.data.toList))).length : Int)) = ((s.size - (Tk.skip (s.data.toList.drop p)).length : Nat) : Int) := by
    rw [List.take_of_length_le (by simp), IntKind.wrap_i64]; omega
  rw [e]
  exact ⟨rfl, grown_set (w := w) ⟨hb.os, hb.tape, hb.output, hb.size, hb.block⟩ R 1 _, hR'.set1 _⟩

theorem Rd.keptBy {w w' : World} {R : Nat} {s : ByteArray} {p : Nat} {v : Value} (h : Rd w R s p v) {row : Option Nat} (hg : w.grownBy w' row) (hne : some R ≠ row) : Rd w' R s p v := (hg.block R (blk_lt h) hne).trans h
theorem drop_extract (s : ByteArray) (p n : Nat) (hn : n ≤ s.size - p) : (s.extract p (p + n)).data.toList = (s.data.toList.drop p).take n := by
  rw [Lib.extract_data]; congr 1; omega
theorem upto_len (c l : List UInt8) : (Tk.upto c l).length ≤ l.length := (List.takeWhile_sublist _).length_le
theorem upto_take (c l : List UInt8) : l.take (Tk.upto c l).length = Tk.upto c l ∧ l.drop (Tk.upto c l).length = Tk.past c l := by
  induction l with
  | nil => simp [Tk.upto, Tk.past]
  | cons x l ih =>
    unfold Tk.upto Tk.past at *
    rw [List.takeWhile_cons, List.dropWhile_cons]
    split
    · rw [List.length_cons, List.take_succ_cons, List.drop_succ_cons, ih.1, ih.2]; exact ⟨rfl, rfl⟩
    · exact ⟨rfl, rfl⟩
theorem anyAt_two (c l : List UInt8) : (Tk.anyAt c l = -1 ∧ (Tk.upto c l).length = l.length) ∨ Tk.anyAt c l = ((Tk.upto c l).length : Int) := by
  unfold Tk.anyAt
  split
  · rename_i e
    have := (upto_take c l).2
    rw [e] at this
    have h1 := upto_len c l
    have h2 : (l.drop (Tk.upto c l).length).length = 0 := by rw [this]; rfl
    simp at h2
    exact .inl ⟨rfl, by omega⟩
  · exact .inr rfl
theorem anyAt_of (t c : ByteArray) (l : List UInt8) (ht : t.data.toList = l) (w : World) (hs : t.size ≤ 140737488351232) (hcs : c.size ≤ 140737488351232) (hc : ∀ (j : Nat) b, c.data.toList[j]? = some b → b.toNat < 128) :
    Calls Tryz.prog 62 #[.string t, .string c] w fun e w' => e = .returned (.int .i64 (Tk.anyAt c.data.toList l)) ∧ Below w.heap.size w w' := by
  rw [← ht]; exact anyAt_any t c w hs hcs hc

set_option maxHeartbeats 400000 in
theorem upto_any (R : Nat) (s c : ByteArray) (p : Nat) (v : Value) (w : World) (h : Rd w R s p v) (hp : p ≤ s.size) (hs : s.size ≤ 140737488351232) (hcs : c.size ≤ 140737488351232) (hc : ∀ (j : Nat) b, c.data.toList[j]? = some b → b.toNat < 128) :
    Calls Tryz.prog 40 #[.pointer (some ⟨R, 0, none⟩), .string c] w fun e w' => e = .returned (.string ⟨(Tk.upto c.data.toList (s.data.toList.drop p)).toArray⟩) ∧ w.grownBy w' (some R) ∧ Rd w' R s (p + (Tk.upto c.data.toList (s.data.toList.drop p)).length) v := by
  have H := Lib.hid h
  have HC := Lib.hid hc
  have hsz : s.data.toList.length = s.size := (Lib.size_eq s).symm
  have h1 := anyAt_two c.data.toList (s.data.toList.drop p)
  have h2 := upto_len c.data.toList (s.data.toList.drop p)
  have h3 := (upto_take c.data.toList (s.data.toList.drop p)).1
  rw [List.length_drop, hsz] at h1 h2
  obtain ⟨n, hn⟩ : ∃ n, (Tk.upto c.data.toList (s.data.toList.drop p)).length = n := ⟨_, rfl⟩
  rw [hn] at h1 h2 h3
  have HN := Lib.hid hn
  have HT := Lib.hid h3
  clear h hc hn h3 hsz
  have HE : Hid ((s.extract p (p + n)) = ⟨(Tk.upto c.data.toList (s.data.toList.drop p)).toArray⟩) := by
    have e := drop_extract s p n h2
    rw [HT.out] at e
    rw [← e]; rfl
  rcases h1 with ⟨hq, hn1⟩ | hq
  · have HQ := Lib.hid hq
    subst hn1
    clear hq
    go_enter Tryz.func40, Tryz.ntmps40
    go_wp2_with fail
    refine (rest_any R s p v _ (by exact H.out) hp hs).mono ?_
    rintro e w' ⟨rfl, n, rfl⟩
    go_wp2_with fail
    refine (anyAt_of _ c _ (Lib.extract_to_end s p) _ (by simp; omega) hcs HC.out).mono ?_
    rintro e w1 ⟨rfl, hb⟩
    rw [HQ.out]
    have hR : Rd w1 R s p v := Rd.grown (s := s) (p := p) (v := v) (by exact H.out) hb
    have HR := Lib.hid hR
    clear hR
    go_wp2_with fail
    refine (rest_any R s p v _ (by exact HR.out) hp hs).mono ?_
    rintro e w' ⟨rfl, n', rfl⟩
    have d0 := HR.out.c0
    have d1 := HR.out.c1
    have df := HR.out.free 1
    go_wp2_with fail
    go_quiet (fail)
    go_wp2
    go_ret
    refine ⟨ret_str HE.out, grown_set (w := w) (w' := w1.drewN _) ⟨hb.os, hb.tape, hb.output, hb.size, hb.block⟩ R 1 _, ?_⟩
    rw [HN.out, ← Int.natCast_add]
    exact Rd.set1 (w := w1.drewN _) HR.out _
  · have HQ := Lib.hid hq
    clear hq
    have hn0 : ¬ (n : Int) < 0 := by omega
    go_enter Tryz.func40, Tryz.ntmps40
    go_wp2_with fail
    refine (rest_any R s p v _ (by exact H.out) hp hs).mono ?_
    rintro e w' ⟨rfl, n', rfl⟩
    go_wp2_with fail
    refine (anyAt_of _ c _ (Lib.extract_to_end s p) _ (by simp; omega) hcs HC.out).mono ?_
    rintro e w1 ⟨rfl, hb⟩
    rw [HQ.out]
    have hR : Rd w1 R s p v := Rd.grown (s := s) (p := p) (v := v) (by exact H.out) hb
    have d0 := hR.c0
    have d1 := hR.c1
    have df := hR.free 1
    have HR := Lib.hid hR
    clear hR
    go_wp2_with fail
    go_quiet (fail)
    go_wp2
    go_ret
    refine ⟨ret_str HE.out, grown_set (w := w) (w' := w1.drewN _) ⟨hb.os, hb.tape, hb.output, hb.size, hb.block⟩ R 1 _, ?_⟩
    rw [HN.out, ← Int.natCast_add]
    exact Rd.set1 (w := w1.drewN _) HR.out _
end Go.Proofs.YtaohdicilfabeaaGreatDoor

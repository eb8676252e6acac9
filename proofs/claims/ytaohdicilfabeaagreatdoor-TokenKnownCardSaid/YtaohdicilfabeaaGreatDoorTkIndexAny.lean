/- strings.IndexAny, at the five bytes that a bare value may not hold: walked over texts of any bytes. -/
import Derived.Test.YtaohdicilfabeaaGreatDoorTkIndexRune
import Derived.Lib.IndexAny
namespace Go.Proofs.YtaohdicilfabeaaGreatDoor
open Go.RowKit

def stops : List UInt8 := [34, 39, 60, 61, 96]
theorem bad_eq (l : List UInt8) : bad l = l.any (stops.contains ·) := rfl
theorem bad_free {l : List UInt8} {i : Nat} (h : Tk.Free l stops i) (hi : l.length ≤ i) : bad l = false := by
  rw [bad_eq, List.any_eq_false]
  intro x hx
  obtain ⟨j, hj⟩ := List.getElem?_of_mem hx
  have := h j x (by have := (List.getElem?_eq_some_iff.1 hj).1; omega) hj
  simp only [this]; decide
theorem bad_hit {l : List UInt8} {i : Nat} {b : UInt8} (hb : l[i]? = some b) (hc : stops.contains b = true) : bad l = true := by
  rw [bad_eq, List.any_eq_true]
  exact ⟨b, List.mem_of_getElem? hb, hc⟩
theorem bad_indexAny (l : List UInt8) : decide (0 ≤ Lib.indexAny l [34, 39, 60, 61, 96]) = bad l := by
  by_cases h : ∃ (i : Nat) (x : UInt8), l[i]? = some x ∧ stops.contains x = true
  · have hb : bad l = true := by obtain ⟨i, x, hx, hc⟩ := h; exact bad_hit hx hc
    rw [hb]
    have : ∀ n : Nat, (∃ (i : Nat) (x : UInt8), i < n ∧ l[i]? = some x ∧ stops.contains x = true) → 0 ≤ Lib.indexAny l [34, 39, 60, 61, 96] := by
      intro n
      induction n with
      | zero => rintro ⟨i, x, hi, _⟩; omega
      | succ n ih =>
        rintro ⟨i, x, hi, hx, hc⟩
        by_cases h2 : ∃ (i : Nat) (x : UInt8), i < n ∧ l[i]? = some x ∧ stops.contains x = true
        · exact ih h2
        · have hin : i = n := by
            rcases Nat.lt_or_ge i n with h3 | h3
            · exact absurd ⟨i, x, h3, hx, hc⟩ h2
            · omega
          subst hin
          have : Lib.indexAny l stops = i := Lib.indexAny_hit (fun j b hj hb => by
            rw [Bool.eq_false_iff]; intro h4; exact h2 ⟨j, b, hj, hb, h4⟩) hx hc
          show 0 ≤ Lib.indexAny l stops
          rw [this]; omega
    obtain ⟨i, x, hx, hc⟩ := h
    simpa using this (i + 1) ⟨i, x, by omega, hx, hc⟩
  · have hf : ∀ i, Tk.Free l stops i := fun i j x _ hx => by
      rw [Bool.eq_false_iff]; intro h4; exact h ⟨j, x, hx, h4⟩
    rw [bad_free (hf l.length) (Nat.le_refl _)]
    have : Lib.indexAny l stops = -1 := Lib.indexAny_none (fun j b hj hb => hf l.length j b hj hb)
    show decide (0 ≤ Lib.indexAny l stops) = false
    rw [this]; decide

set_option maxHeartbeats 400000 in
theorem shouldUse_any (n : Int) (w : World) :
    Calls Tryz.prog 101 #[.int .i64 n] w fun e w' => e = .returned (.bool (decide (8 < n))) ∧ w = w' := by
  go_enter Tryz.func101, Tryz.ntmps101
  go_wp2
  go_ret
  exact ⟨rfl, rfl⟩

set_option maxRecDepth 100000 in
set_option maxHeartbeats 4000000 in
theorem indexAny_short (s : ByteArray) (w : World) (h8 : s.size ≤ 8) :
    Calls Tryz.prog 84 #[.string s, .string five] w fun e w' => ∃ i : Int, e = .returned (.int .i64 i) ∧ decide (0 ≤ i) = bad s.data.toList ∧ Below w.heap.size w w' := by
  have h8z : decide ((8 : Int) < (s.size : Int)) = false := decide_eq_false (by omega)
  have hf5 : five.size = 5 := rfl
  have hfe : five.toList.isEmpty = false := by rw [Lib.toList_data]; rfl
  go_enter Tryz.func84, Tryz.ntmps84
  go_wp2_with (go_at_call 101; refine (shouldUse_any _ _).mono ?_; rintro e w' ⟨rfl, rfl⟩; rw [h8z])
  have hB0 : Below w.heap.size w (w.iter s 0) := (Below.refl _ _).alloc (Nat.le_refl _) _
  have hI0 : (w.iter s 0).heap[w.heap.size]? = some (.stringIter s 0) := World.iter_heap w s 0
  have HB0 := Lib.hid hB0
  have HI0 := Lib.hid hI0
  clear hB0 hI0 h8z
  generalize hg' : w.heap.size = K at *
  have HG := Lib.hid hg'
  clear hg'
  generalize w.iter s 0 = W0 at *
  go_loopg [9, 10] s.size (fun g _ _ wr => ∃ i : Nat, s.size ≤ i + g ∧ Hid (wr.heap[K]? = some (.stringIter s i)) ∧ Hid (Below K w wr) ∧ Hid (Tk.Free s.data.toList stops i))
  case atStart => exact ⟨0, by omega, HI0, HB0, free_zero _ _⟩
  case round =>
    clear HI0 HB0
    obtain ⟨i, hig, HI, HB, HF⟩ := hrel
    by_cases hi : i < s.size
    · cases gk with
      | zero => omega
      | succ g =>
        obtain ⟨r, n, hd⟩ : ∃ r n, Utf8.decode s i = (r, n) := ⟨_, _, rfl⟩
        have hdt := decode_two s i hi
        have hnx := fun ty => Lib.run_next_any_at (P := Tryz.prog) wr K s i ty HI.out hi
        rw [hd] at hdt hnx
        simp only at hdt hnx
        obtain ⟨b, hb⟩ : ∃ b : UInt8, s[i] = b := ⟨_, rfl⟩
        rw [hb] at hdt
        have hbl : s.data.toList[i]? = some b := by rw [← hb, List.getElem?_eq_getElem (by simpa using hi)]; rfl
        have HD := Lib.hid hdt
        have HBL := Lib.hid hbl
        have hI1 := Lib.hid (Lib.iterAt_heap wr K s i (i + n) HI.out)
        have hB1 := Lib.hid (Lib.below_iterAt HB.out (Nat.le_refl K) s (i + n))
        clear hdt hbl hd hb HI HB
        generalize wr.iterAt K s (i + n) = W1 at *
        have hn1 : 1 ≤ n := by
          rcases HD.out.1 with ⟨_, h7⟩ | ⟨_, _, h7⟩
          · cases h7; omega
          · exact h7
        have hc : ∀ (j : Nat) b, stops[j]? = some b → b.toNat < 128 := ascii_of_all (by decide)
        have HC := Lib.hid hc
        clear hc
        by_cases h128 : r < 128
        · have hrb : r = b.toNat := by
            rcases HD.out.1 with ⟨_, h7⟩ | ⟨_, h7, _⟩
            · cases h7; rfl
            · omega
          subst hrb
          have hback : ((b.toNat : Int)).toNat.toUInt8 = b := by simp
          have hcon := Lib.contains_iff_indexByte stops b
          go_wp2_with fail
          refine (indexRune_ascii five _ _ (by omega) (by omega)).mono ?_
          rintro e w2 ⟨he, rfl⟩
          rw [hback, show Lib.indexByte five.data.toList b = Lib.indexByte stops b from rfl] at he
          subst he
          clear hback
          generalize Lib.indexByte stops b = o at *
          by_cases ho : (0 : Int) ≤ o
          · have hct : Hid (stops.contains b = true) := hcon.trans (decide_eq_true ho)
            clear hcon hnx
            go_wp2
            go_ret
            exact ⟨i, rfl, by rw [bad_hit HBL.out hct.out]; simp, by rw [HG.out]; exact hB1.out⟩
          · have hct : Hid (stops.contains b = false) := hcon.trans (decide_eq_false ho)
            clear hcon hnx
            go_wp2
            go_roundg g
            case measure => omega
            case rel => exact ⟨i + n, by omega, hI1, hB1, free_more HF.out HBL.out hct.out HD.out.2 HC.out⟩
        · have hnc : Hid (stops.contains b = false) := by
            show _ = _
            rw [Bool.eq_false_iff]
            intro h3
            obtain ⟨q, hq⟩ := List.getElem?_of_mem (List.contains_iff_mem.1 h3)
            have h5 := HC.out q b hq
            rcases HD.out.1 with ⟨_, h7⟩ | ⟨h7, _⟩
            · cases h7; omega
            · omega
          have h128' : (128 : Int) ≤ (r : Int) := by omega
          go_wp2_with fail
          refine (indexRune_high (r : Int) _ h128').mono ?_
          rintro e w2 ⟨rfl, hb2⟩
          have hK : K < W1.heap.size := (Array.getElem?_eq_some_iff.1 hI1.out).1
          have hI2 := Lib.hid ((hb2.block K hK).trans hI1.out)
          have hB2 := Lib.hid (hB1.out.trans (hb2.mono (by omega)))
          clear hb2 hnx
          go_wp2
          go_roundg g
          case measure => omega
          case rel => exact ⟨i + n, by omega, hI2, hB2, free_more HF.out HBL.out hnc.out HD.out.2 HC.out⟩
    · have hnx := fun ty => Lib.run_next_end_at (P := Tryz.prog) wr K s i ty HI.out hi
      go_wp2
      go_ret
      exact ⟨-1, rfl, by rw [bad_free HF.out (by simp; omega)]; decide, by rw [HG.out]; exact HB.out⟩

theorem indexAny_said : IndexAnySaid := by
  intro l w hl
  by_cases h8 : 8 < l.length
  · refine (indexAny_long ⟨l.toArray⟩ w (by show 8 < l.toArray.size; simpa using h8) (by show l.toArray.size < _; simp; omega)).mono ?_
    rintro e w' ⟨he, hb⟩
    exact ⟨_, he, bad_indexAny l, hb⟩
  · exact indexAny_short ⟨l.toArray⟩ w (by show l.toArray.size ≤ _; simp; omega)
end Go.Proofs.YtaohdicilfabeaaGreatDoor

/- token.small: a word in small letters, walked. -/
import Derived.Test.YtaohdicilfabeaaGreatDoorTkLeaf
import Derived.Lib.ConvBytes
import Derived.Laws.Rows
import Derived.Laws.IdiomStrings
namespace Go.Proofs.YtaohdicilfabeaaGreatDoor
open Go.RowKit
set_option linter.unusedVariables false
set_option linter.unusedSimpArgs false

/-- A row of bytes in block g, each of which may be written. -/
structure BytesAt (w : World) (g : Nat) (l : List UInt8) : Prop where
  cell : ∀ j x, l[j]? = some x → w.cell? ⟨g, j, none⟩ = some (.int .u8 (x.toNat : Int))
  free : ∀ j, j < l.length → w.frozen? ⟨g, j, none⟩ = false

theorem frozen?_setCell (w : World) (a p : Addr) (u : Value) : (w.setCell a u).frozen? p = w.frozen? p := by
  by_cases h : a.block = p.block
  · simp only [World.frozen?, World.setCell, Array.getElem?_modify, h]
    cases hh : w.heap[p.block]? with
    | none => simp
    | some o => cases o <;> simp
  · simp only [World.frozen?]
    rw [Below.heap_setCell w a u p.block (fun e => h e.symm)]

theorem BytesAt.set {w : World} {g : Nat} {l : List UInt8} (h : BytesAt w g l) (i : Nat) (c : UInt8) : BytesAt (w.setCell ⟨g, i, none⟩ (.int .u8 (c.toNat : Int))) g (l.set i c) := by
  refine ⟨fun j x hx => ?_, fun j hj => ?_⟩
  · by_cases e : i = j
    · subst e
      have hlt : i < l.length := by have := (List.getElem?_eq_some_iff.1 hx).1; simpa using this
      rw [List.getElem?_set_self hlt] at hx
      cases hx
      exact World.cell?_setCell_same w _ _ (h.cell i _ (List.getElem?_eq_getElem hlt))
    · rw [List.getElem?_set_ne e] at hx
      rw [World.cell?_setCell_other w _ _ _ (fun e' => e (by cases e'; rfl))]
      exact h.cell j x hx
  · rw [frozen?_setCell]
    exact h.free j (by simpa using hj)

theorem bytesWorld_bytesAt (w : World) (e : TypeId) (s : ByteArray) : BytesAt (Lib.bytesWorld w e s) w.heap.size s.data.toList := by
  refine ⟨fun j x hx => ?_, fun j hj => ?_⟩
  · have hlt : j < s.size := by have := (List.getElem?_eq_some_iff.1 hx).1; simpa using this
    rw [Lib.bytesWorld_cell w e s j hlt]
    simp [List.getD, hx]
  · have hlt : j < s.size := by simpa using hj
    simp only [World.frozen?, Lib.bytesWorld_at_new]
    have : s.size ≤ (Lib.bytesCells w e s).size := by simp [Lib.bytesCells]
    simp; omega
theorem bytesWorld_below' (w : World) (e : TypeId) (s : ByteArray) : Below w.heap.size w (Lib.bytesWorld w e s) :=
  ⟨rfl, rfl, rfl, by rw [Lib.bytesWorld_size]; omega, fun j hj => Lib.bytesWorld_at_old w e s j hj⟩

/-- The row behind k rounds. -/
def half (l : List UInt8) (k : Nat) : List UInt8 := (l.take k).map Tk.low ++ l.drop k
theorem half_len (l : List UInt8) (k : Nat) : (half l k).length = l.length := by unfold half; simp; omega
theorem half_zero (l : List UInt8) : half l 0 = l := by simp [half]
theorem half_all (l : List UInt8) (k : Nat) (h : l.length ≤ k) : half l k = Tk.small l := by simp [half, Tk.small, List.take_of_length_le h, List.drop_of_length_le h]
theorem half_at (l : List UInt8) (k : Nat) (h : k < l.length) : (half l k)[k]? = some l[k] := by
  unfold half; rw [List.getElem?_append_right (by simp; omega)]; simp [Nat.min_eq_left (Nat.le_of_lt h), h]
theorem half_succ (l : List UInt8) (k : Nat) (h : k < l.length) : half l (k + 1) = (half l k).set k (Tk.low l[k]) := by
  apply List.ext_getElem?
  intro j
  unfold half
  rw [List.getElem?_set]
  by_cases hj : j < k
  · rw [if_neg (by omega), List.getElem?_append_left (by simp; omega), List.getElem?_append_left (by simp; omega)]
    simp [List.getElem?_take, hj, Nat.lt_succ_of_lt hj]
  · by_cases e : k = j
    · subst e
      rw [if_pos rfl, if_pos (by simp; omega), List.getElem?_append_left (by simp; omega)]
      simp [h]
    · rw [if_neg e, List.getElem?_append_right (by simp; omega), List.getElem?_append_right (by simp; omega)]
      simp only [List.length_map, List.length_take, List.getElem?_drop]
      congr 1; omega
theorem half_keep (l : List UInt8) (k : Nat) (h : k < l.length) (hb : Tk.low l[k] = l[k]) : half l (k + 1) = half l k := by
  rw [half_succ l k h, hb]
  apply List.ext_getElem?
  intro j
  rw [List.getElem?_set]
  split
  · rename_i e; subst e
    rw [if_pos (by rw [half_len]; exact h), half_at l k h]
  · rfl
theorem low_yes (c : UInt8) (h0 : 65 ≤ (c.toNat : Int)) (h1 : (c.toNat : Int) ≤ 90) : ((Tk.low c).toNat : Int) = (c.toNat : Int) + 32 := by
  unfold Tk.low
  have : (65 ≤ c && c ≤ 90) = true := by simp [UInt8.le_iff_toNat_le]; omega
  rw [if_pos this, UInt8.toNat_add]; simp; omega
theorem low_no (c : UInt8) (h : ¬ (65 ≤ (c.toNat : Int) ∧ (c.toNat : Int) ≤ 90)) : Tk.low c = c := by
  unfold Tk.low
  have : ¬ (65 ≤ c && c ≤ 90) = true := by simp [UInt8.le_iff_toNat_le]; omega
  rw [if_neg this]

set_option maxHeartbeats 1000000 in
theorem small_any (s : ByteArray) (w : World) (hs : s.size ≤ 140737488351232) :
    Calls Tryz.prog 39 #[.string s] w fun e w' => e = .returned (.string ⟨(Tk.small s.data.toList).toArray⟩) ∧ Below w.heap.size w w' := by
  have hconv := Lib.run_convert_string_bytes (P := Tryz.prog) w 9 39 5 s Tryz.underlying9 Tryz.underlying39 Tryz.underlying5
  have hB := Lib.hid (bytesWorld_below' w 5 s)
  have hR := Lib.hid (bytesWorld_bytesAt w 5 s)
  generalize hW : Lib.bytesWorld w 5 s = W at *
  generalize grownCap w s.size 0 5 = cp at *
  clear hW
  go_enter Tryz.func39, Tryz.ntmps39
  go_wp2
  clear hconv
  generalize hg' : w.heap.size = g at *
  have HG := Lib.hid hg'
  clear hg'
  go_loopw [4, 5, 10] (fun _ _ c wr => ∃ k : Nat, k ≤ s.size ∧ c = .int .i64 k ∧ Hid (Below g w wr) ∧ Hid (BytesAt wr g (half s.data.toList k))) (fun _ _ c _ => s.size - (intOf c).toNat)
  case atStart => exact ⟨0, Nat.zero_le _, rfl, hB, by rw [half_zero]; exact hR⟩
  case round =>
    clear hB hR
    obtain ⟨k, hk, rfl, hB, hR⟩ := hrel
    by_cases hlt : k < s.size
    · have hl : k < s.data.toList.length := by simpa using hlt
      obtain ⟨c, hcell, HS, HK⟩ : ∃ c : UInt8, wr.cell? ⟨g, k, none⟩ = some (.int .u8 (c.toNat : Int)) ∧ Hid (half s.data.toList (k + 1) = (half s.data.toList k).set k (Tk.low c)) ∧ Hid (Tk.low c = c → half s.data.toList (k + 1) = half s.data.toList k) :=
        ⟨s.data.toList[k], hR.out.cell k _ (half_at _ k hl), half_succ _ _ hl, half_keep _ _ hl⟩
      have hfree := hR.out.free k (by rw [half_len]; exact hl)
      have hg0 : 0 ≤ (c.toNat : Int) := by omega
      have hg1 : (c.toNat : Int) ≤ 255 := by have := UInt8.toNat_lt c; omega
      by_cases h0 : 65 ≤ (c.toNat : Int)
      · by_cases h1 : (c.toNat : Int) ≤ 90
        · go_wp2
          go_roundw
          case rel => 
            refine ⟨k + 1, by omega, by go_num, hB.out.setCell (p := ⟨g, k, none⟩) (Nat.le_refl _) _, ?_⟩
            rw [HS.out, ← low_yes _ h0 h1]
            exact hR.out.set k _
          case measure => simp [intOf]; omega
        · go_wp2
          go_roundw
          case rel => exact ⟨k + 1, by omega, by go_num, hB, by rw [HK.out (low_no _ (by omega))]; exact hR⟩
          case measure => simp [intOf]; omega
      · go_wp2
        go_roundw
        case rel => exact ⟨k + 1, by omega, by go_num, hB, by rw [HK.out (low_no _ (by omega))]; exact hR⟩
        case measure => simp [intOf]; omega
    · have hback := fun W : World => fun (hb : BytesAt W g (Tk.small s.data.toList)) => run_convert_bytes_back (P := Tryz.prog) W 39 9 5 ⟨g, 0, none⟩ cp (Tk.small s.data.toList) Tryz.underlying39 Tryz.underlying5 Tryz.underlying9 (fun j hj => by
        have e : (⟨g, 0, none⟩ : Addr).add j = ⟨g, j, none⟩ := by unfold Addr.add; split <;> simp_all
        rw [e]; exact hb.cell j _ (List.getElem?_eq_getElem hj))
      have hl : (Tk.small s.data.toList).length = s.size := by simp [Tk.small]
      rw [hl] at hback
      have hR' : BytesAt wr g (Tk.small s.data.toList) := by have := hR.out; rwa [half_all _ _ (by simp; omega)] at this
      have hb1 := hback wr hR'
      clear hback hl
      go_wp2
      go_ret
      exact ⟨rfl, by rw [HG.out]; exact hB.out⟩
end Go.Proofs.YtaohdicilfabeaaGreatDoor

/- The search by halves among the names, walked. -/
import Derived.Test.YtaohdicilfabeaaGreatDoorTkCrLeaf
import Derived.Test.YtaohdicilfabeaaGreatDoorTkAttr
namespace Go.Proofs.YtaohdicilfabeaaGreatDoor
open Go.RowKit

set_option maxHeartbeats 1000000 in
theorem cmp_any (a b : ByteArray) (r : Int) (x : Bool) (w : World) :
    Calls Tryz.prog 79 #[.agg #[.string a, .int .i32 r, .bool x], .string b] w fun e w' => e = .returned (.int .i64 (Lib.compareBytes a.data.toList b.data.toList)) ∧ Below w.heap.size w w' := by
  go_enter Tryz.func79, Tryz.ntmps79
  go_wp2_with fail
  refine (compare_any a b _).mono ?_
  rintro e w1 ⟨rfl, rfl⟩
  go_wp2
  go_ret
  exact ⟨rfl, (Below.refl _ _).alloc (Nat.le_refl _) _⟩

theorem ret_ib {a c : Int} {b d : Bool} (h : a = c) (k : b = d) : Ending.returned (.tuple #[.int .i64 a, .bool b]) = .returned (.tuple #[.int .i64 c, .bool d]) := by rw [h, k]
/-- A name's cells. -/
theorem Gl.cells {nm : List (List UInt8 × Int × Bool)} {ot : List Int} {w : World} (h : Gl nm ot w) (i : Nat) (hi : i < nm.length) :
    w.cell? ⟨1, i * 3, none⟩ = some (.string ⟨(Tk.nameAt nm i).1.toArray⟩) ∧ w.cell? ⟨1, i * 3 + 1, none⟩ = some (.int .i32 (Tk.nameAt nm i).2.1) ∧ w.cell? ⟨1, i * 3 + 2, none⟩ = some (.bool (Tk.nameAt nm i).2.2) := by
  have e : nm[i]? = some (Tk.nameAt nm i) := by
    unfold Tk.nameAt; rw [List.getD_eq_getElem?_getD, List.getElem?_eq_getElem hi]; rfl
  have := h.name i _ e
  rw [Nat.mul_comm 3 i] at this
  exact this

set_option maxRecDepth 100000 in
set_option maxHeartbeats 2000000 in
theorem bin_any {nm : List (List UInt8 × Int × Bool)} {ot : List Int} (hn : nm.length = 59) (word : List UInt8) (w : World) (hgl : Gl nm ot w) :
    Calls Tryz.prog 78 #[.slice (some ⟨1, 0, none⟩) 59 59, .string ⟨word.toArray⟩, .func (.func 79) #[] #[]] w
      fun e w' => e = .returned (.tuple #[.int .i64 (Tk.place nm word : Nat), .bool (Tk.found nm word)]) ∧ Below w.heap.size w w' := by
  have HN := Lib.hid hn
  have HGL := Lib.hid hgl
  have hpl : Hid (Tk.bs nm word 59 0 59 = Tk.place nm word) := by show _ = _; unfold Tk.place; rw [hn]
  have h5 := hgl.lt
  clear hn hgl
  go_enter Tryz.func78, Tryz.ntmps78
  go_wp2_with fail
  go_loopg [9, 10] 59 (fun f i j wr => ∃ a b : Nat, i = .int .i64 (a : Int) ∧ j = .int .i64 (b : Int) ∧ a ≤ b ∧ b ≤ 59 ∧ b ≤ a + f ∧ Hid (Below w.heap.size w wr) ∧ Hid (Tk.bs nm word f a b = Tk.place nm word))
  case atStart => exact ⟨0, 59, rfl, rfl, by omega, by omega, by omega, Below.refl _ _, hpl⟩
  case round =>
    obtain ⟨a, b, rfl, rfl, hab, hb, hbf, HB, HP⟩ := hrel
    by_cases hlt : a < b
    · obtain ⟨f, rfl⟩ : ∃ f, gk = f + 1 := ⟨gk - 1, by omega⟩
      have hlti : (a : Int) < (b : Int) := by omega
      obtain ⟨h, hh⟩ : ∃ h, (a + b) / 2 = h := ⟨_, rfl⟩
      have hhi : ((a : Int) + (b : Int)) / 2 = (h : Int) := by omega
      have h1 : a ≤ h := by omega
      have h2 : h < b := by omega
      have h59 : h < 59 := by omega
      have h59i : (h : Int) < 59 := by omega
      have hG := HGL.out.below HB.out h5
      obtain ⟨c0, c1, c2⟩ := hG.cells h (by rw [HN.out]; exact h59)
      have HP2 : Hid ((if Tk.cmpN nm h word < 0 then Tk.bs nm word f (h + 1) b else Tk.bs nm word f a h) = Tk.place nm word) := by
        have := HP.out
        unfold Tk.bs at this
        rw [if_pos hlt, hh] at this
        exact this
      clear HP hG hh
      generalize hnA : Tk.nameAt nm h = nA at *
      have HNA := Lib.hid hnA
      clear hnA
      go_wp2_with fail
      refine (cmp_any ⟨nA.1.toArray⟩ ⟨word.toArray⟩ nA.2.1 nA.2.2 _).mono ?_
      rintro e w2 ⟨he, hb2⟩
      have hce : Lib.compareBytes (⟨nA.1.toArray⟩ : ByteArray).data.toList (⟨word.toArray⟩ : ByteArray).data.toList = Tk.cmpN nm h word := by
        show Lib.compareBytes nA.1 word = _; unfold Tk.cmpN; rw [HNA.out]
      rw [hce] at he
      subst he
      have HB2 := Lib.hid (HB.out.trans (hb2.mono HB.out.size))
      clear hb2 hce c0 c1 c2
      by_cases hc : Tk.cmpN nm h word < 0
      · have HP3 := Lib.hid ((if_pos hc).symm.trans HP2.out)
        clear HP2
        go_wp2_with fail
        go_roundg f
        case measure => omega
        case rel => exact ⟨h + 1, b, by simp, rfl, by omega, hb, by omega, HB2, HP3⟩
      · have HP3 := Lib.hid ((if_neg hc).symm.trans HP2.out)
        clear HP2
        go_wp2_with fail
        go_roundg f
        case measure => omega
        case rel => exact ⟨a, h, rfl, rfl, h1, by omega, by omega, HB2, HP3⟩
    · have hlti : ¬ (a : Int) < (b : Int) := by omega
      have hba : Tk.bs nm word gk a b = a := by
        cases gk with
        | zero => rfl
        | succ g => unfold Tk.bs; rw [if_neg hlt]
      have hpa : a = Tk.place nm word := hba.symm.trans HP.out
      have HPA := Lib.hid hpa
      clear hba hpa HP
      by_cases h59 : a < 59
      · have h59i : (a : Int) < 59 := by omega
        have hG := HGL.out.below HB.out h5
        obtain ⟨c0, c1, c2⟩ := hG.cells a (by rw [HN.out]; exact h59)
        clear hG
        generalize hnA : Tk.nameAt nm a = nA at *
        have HNA := Lib.hid hnA
        clear hnA
        go_wp2_with fail
        refine (cmp_any ⟨nA.1.toArray⟩ ⟨word.toArray⟩ nA.2.1 nA.2.2 _).mono ?_
        rintro e w2 ⟨he, hb2⟩
        have hce : Lib.compareBytes (⟨nA.1.toArray⟩ : ByteArray).data.toList (⟨word.toArray⟩ : ByteArray).data.toList = Tk.cmpN nm a word := by
          show Lib.compareBytes nA.1 word = _; unfold Tk.cmpN; rw [HNA.out]
        rw [hce] at he
        subst he
        have HB2 := Lib.hid (HB.out.trans (hb2.mono HB.out.size))
        clear hb2 hce c0 c1 c2
        generalize hcc : Tk.cmpN nm a word = cc at *
        have HF : Hid (Tk.found nm word = (cc == 0)) := by
          show _ = _
          unfold Tk.found; rw [← HPA.out, HN.out, hcc, decide_eq_true h59, Bool.true_and, Bool.eq_iff_iff]; simp
        have HPI : Hid ((Tk.place nm word : Int) = (a : Int)) := by show _ = _; rw [← HPA.out]
        clear hcc
        go_wp2
        go_ret2
        exact ⟨ret_ib HPI.out.symm HF.out.symm, HB2.out⟩
      · have h59i : ¬ (a : Int) < 59 := by omega
        have HF : Hid (Tk.found nm word = false) := by
          show _ = _
          unfold Tk.found; rw [← HPA.out, HN.out, decide_eq_false h59]; rfl
        have HPI : Hid ((Tk.place nm word : Int) = (a : Int)) := by show _ = _; rw [← HPA.out]
        go_wp2
        go_ret2
        exact ⟨ret_ib HPI.out.symm HF.out.symm, HB.out⟩
end Go.Proofs.YtaohdicilfabeaaGreatDoor

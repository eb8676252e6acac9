/- The reference with which a text begins, walked. -/
import Derived.Test.YtaohdicilfabeaaGreatDoorTkNum
namespace Go.Proofs.YtaohdicilfabeaaGreatDoor
open Go.RowKit

theorem bin_b {nm : List (List UInt8 × Int × Bool)} {ot : List Int} (hn : nm.length = 59) (wd : ByteArray) (word : List UInt8) (hw : wd.data.toList = word) (w : World) (hgl : Gl nm ot w) :
    Calls Tryz.prog 78 #[.slice (some ⟨1, 0, none⟩) 59 59, .string wd, .func (.func 79) #[] #[]] w
      fun e w' => e = .returned (.tuple #[.int .i64 (Tk.place nm word : Nat), .bool (Tk.found nm word)]) ∧ Below w.heap.size w w' := by
  have e : wd = ⟨word.toArray⟩ := by subst hw; rfl
  rw [e]; exact bin_any hn word w hgl
theorem found_lt {nm : List (List UInt8 × Int × Bool)} {word : List UInt8} (h : Tk.found nm word = true) : Tk.place nm word < nm.length := by
  unfold Tk.found at h; simp at h; exact h.1
theorem findFrom_step (nm : List (List UInt8 × Int × Bool)) (attr : Bool) (s : List UInt8) (k : Nat) : Tk.findFrom nm attr s (k + 1) =
    if Tk.found nm ((s.drop 1).take (k + 1)) = false then Tk.findFrom nm attr s k
    else if s[k + 2]? = some 59 then some ((Tk.nameAt nm (Tk.place nm ((s.drop 1).take (k + 1)))).2.1, k + 3)
    else if (Tk.nameAt nm (Tk.place nm ((s.drop 1).take (k + 1)))).2.2 = false then Tk.findFrom nm attr s k
    else if attr = true ∧ (s[k + 2]?).any (fun c => c == 61 || Tk.alnum c) = true then none
    else some ((Tk.nameAt nm (Tk.place nm ((s.drop 1).take (k + 1)))).2.1, k + 2) := rfl
/-- How far the run of letters and digits has been read. -/
def Run (l : List UInt8) (k : Nat) : Prop := Tk.run1 l = k + ((l.drop (k + 1)).takeWhile Tk.alnum).length
theorem Run.zero (l : List UInt8) : Run l 0 := by unfold Run Tk.run1; simp
theorem Run.step {l : List UInt8} {k : Nat} (h : Run l k) {c : UInt8} (hc : l[k + 1]? = some c) (ha : Tk.alnum c = true) : Run l (k + 1) := by
  obtain ⟨hk, hc⟩ := List.getElem?_eq_some_iff.1 hc
  unfold Run at *
  rw [h, List.drop_eq_getElem_cons hk, hc, List.takeWhile_cons, if_pos ha]; simp; omega
theorem Run.stop {l : List UInt8} {k : Nat} (h : Run l k) (hs : l.length ≤ k + 1 ∨ ∃ c, l[k + 1]? = some c ∧ Tk.alnum c = false) : Tk.run1 l = k := by
  unfold Run at h
  rw [h]
  rcases hs with hs | ⟨c, hc, ha⟩
  · rw [List.drop_of_length_le hs]; simp
  · obtain ⟨hk, hc⟩ := List.getElem?_eq_some_iff.1 hc
    rw [List.drop_eq_getElem_cons hk, hc, List.takeWhile_cons, if_neg (by rw [ha]; decide)]; simp

set_option maxRecDepth 100000 in
set_option maxHeartbeats 4000000 in
theorem find_any {nm : List (List UInt8 × Int × Bool)} {ot : List Int} (hn : nm.length = 59) (hot : ot.length = 32) (hor : ∀ x ∈ ot, 0 ≤ x ∧ x ≤ 65535) (t : ByteArray) (l : List UInt8) (hl : t.data.toList = l) (attr : Bool) (w : World) (hgl : Gl nm ot w) (hs : t.size ≤ 1000000) :
    Calls Tryz.prog 52 #[.string t, .bool attr] w fun e w' => e = .returned (numRes (Tk.find nm ot attr l)) ∧ Below w.heap.size w w' := by
  have HN := Lib.hid hn
  have HOT := Lib.hid hot
  have HOR := Lib.hid hor
  have HGL := Lib.hid hgl
  have h5 := hgl.lt
  have HL := Lib.hid hl
  have hsz : t.size = l.length := by rw [← hl, ← Lib.size_eq]
  have HSZ := Lib.hid hsz
  clear hn hot hor hgl
  by_cases hamp : Lib.hasPrefix l [38] = false
  · have HF : Hid (Tk.find nm ot attr l = none) := if_pos hamp
    cases l with
    | nil =>
      have hte : t.toList.isEmpty = true := by rw [Lib.toList_data, hl]; rfl
      clear hamp hl hsz
      go_enter Tryz.func52, Tryz.ntmps52
      go_wp2
      go_ret3
      exact ⟨ret_num (by rw [HF.out]; rfl), Below.refl _ _⟩
    | cons b r =>
      have hte : t.toList.isEmpty = false := by rw [Lib.toList_data, hl]; rfl
      have ht0 : 0 < t.size := by rw [hsz]; simp
      have ht0i : (0 : Int) < (t.size : Int) := by omega
      have hb : t[0] = b := by
        have h1 : t.data.toList[0]? = some t[0] := Lib.data_getElem? t 0 ht0
        rw [hl] at h1; simpa using h1.symm
      have hbne : ((b.toNat : Int) != 38) = true := by
        rw [bne_iff_ne]; intro e
        have : b = 38 := UInt8.toNat_inj.1 (by simp; omega)
        subst this; exact absurd hamp (by unfold Lib.hasPrefix; simp [List.isPrefixOf])
      clear hamp hl hsz
      go_enter Tryz.func52, Tryz.ntmps52
      go_wp2
      go_ret3
      exact ⟨ret_num (by rw [HF.out]; rfl), Below.refl _ _⟩
  · have hamp' : Lib.hasPrefix l [38] = true := by simpa using hamp
    obtain ⟨r, hr⟩ := pre_one hamp'
    have hte : t.toList.isEmpty = false := by rw [Lib.toList_data, hl, hr]; rfl
    have ht0 : 0 < t.size := by rw [hsz, hr]; simp
    have ht0i : (0 : Int) < (t.size : Int) := by omega
    have hb : t[0] = 38 := by
      have h1 : t.data.toList[0]? = some t[0] := Lib.data_getElem? t 0 ht0
      rw [hl, hr] at h1; simpa using h1.symm
    have hb0 : ((t[0].toNat : Int) != 38) = false := by rw [hb]; rfl
    have HFI : Hid (Tk.find nm ot attr l = if Lib.hasPrefix l [38, 35] = true then (Tk.number ot (l.drop 2)).map (fun x => (x.1, x.2 + 2)) else Tk.findFrom nm attr l (Tk.run1 l)) := if_neg hamp
    have HR := Lib.hid hr
    clear hamp hamp' hl hsz hb hr
    have HP0 : Hid (Lib.hasPrefix t.data.toList (⟨#[38, 35]⟩ : ByteArray).data.toList = Lib.hasPrefix l [38, 35]) := by show _ = _; rw [HL.out]
    by_cases hh : Lib.hasPrefix l [38, 35] = true
    · have h2 := pre_len hh
      have h2i : (2 : Int) ≤ (t.size : Int) := by have := HSZ.out; simp at h2; omega
      have HF := Lib.hid (HFI.out.trans (if_pos hh))
      have hu : (t.extract 2 t.size).data.toList = l.drop 2 := by rw [Lib.extract_to_end, HL.out]
      have HU := Lib.hid hu
      have hus : (t.extract 2 t.size).size ≤ 1000000 := by simp; omega
      clear hu HFI h2
      go_enter Tryz.func52, Tryz.ntmps52
      go_wp2_with fail
      refine (hasPrefix_any t ⟨#[38, 35]⟩ _).mono ?_
      rintro e w1 ⟨he, rfl⟩
      rw [HP0.out, hh] at he
      subst he
      clear hh HP0
      go_wp2_with fail
      refine (number_any HOT.out HOR.out _ (l.drop 2) HU.out _ HGL.out hus).mono ?_
      rintro e w1 ⟨he, rfl⟩
      cases hnum : Tk.number ot (l.drop 2) with
      | none =>
        rw [hnum] at he HF
        subst he
        clear hnum
        simp only [numRes]
        go_wp2
        go_ret3
        exact ⟨ret_num (by rw [HF.out]; rfl), Below.refl _ _⟩
      | some x =>
        obtain ⟨r', n'⟩ := x
        have hnl := Tk.number_len hnum
        rw [List.length_drop] at hnl
        have hn6 : n' ≤ 1000000 := by have := HSZ.out; omega
        rw [hnum] at he HF
        subst he
        clear hnum hnl
        simp only [numRes]
        go_wp2
        go_ret3
        exact ⟨ret_num (by rw [HF.out]; rfl), Below.refl _ _⟩
    · have hh' : Lib.hasPrefix l [38, 35] = false := by simpa using hh
      have HF := Lib.hid (HFI.out.trans (if_neg hh))
      have hrun := Tk.run1_len (s := l) (by rw [HR.out]; simp)
      rw [← HSZ.out] at hrun
      clear HFI hh
      go_enter Tryz.func52, Tryz.ntmps52
      go_wp2_with fail
      refine (hasPrefix_any t ⟨#[38, 35]⟩ _).mono ?_
      rintro e w1 ⟨he, rfl⟩
      rw [HP0.out, hh'] at he
      subst he
      clear hh' HP0
      obtain ⟨K, hK⟩ : ∃ K, Tk.run1 l = K := ⟨_, rfl⟩
      rw [hK] at hrun
      have HK := Lib.hid hK
      clear hK
      go_upto_block 0 with (fail)
      go_cut [10] (fun e wx => wx = w ∧ e = .int .i64 ((K : Int) + 1))
      case first =>
        go_wp2_with fail
        go_loopg [10] t.size (fun g e wr => wr = w ∧ ∃ k : Nat, e = .int .i64 ((k : Int) + 1) ∧ k + g = t.size ∧ k ≤ K ∧ Hid (Run l k))
        case atStart => exact ⟨rfl, 0, rfl, by omega, by omega, Run.zero l⟩
        case round =>
          obtain ⟨rfl, k, rfl, hkg, hkK, HRun⟩ := hrel
          by_cases hk : k + 1 < t.size
          · obtain ⟨g, rfl⟩ : ∃ g, gk = g + 1 := ⟨gk - 1, by omega⟩
            have hki : (k : Int) + 1 < (t.size : Int) := by omega
            have hkn : ((k : Int) + 1).toNat = k + 1 := by omega
            have hk0 : (0 : Int) ≤ (k : Int) + 1 := by omega
            obtain ⟨c, hc⟩ : ∃ c : UInt8, t[k + 1] = c := ⟨_, rfl⟩
            have hcl : Hid (l[k + 1]? = some c) := by show _ = _; rw [← HL.out, ← hc]; exact Lib.data_getElem? t (k + 1) hk
            by_cases ha : Tk.alnum c = true
            · have HR2 := Lib.hid (HRun.out.step hcl.out ha)
              have hle : k + 1 ≤ K := by have := HR2.out; unfold Run at this; rw [HK.out] at this; omega
              clear HRun
              go_wp2_with (go_at_call 77; refine (alnum_any c _).mono ?_; rintro e w' ⟨rfl, rfl⟩; rw [ha])
              go_roundg g
              case measure => omega
              case rel => exact ⟨rfl, k + 1, by simp, by omega, hle, HR2⟩
            · have ha' : Tk.alnum c = false := by simpa using ha
              have hst := HRun.out.stop (.inr ⟨c, hcl.out, ha'⟩)
              rw [HK.out] at hst
              clear HRun ha
              go_wp2_with (go_at_call 77; refine (alnum_any c _).mono ?_; rintro e w' ⟨rfl, rfl⟩; rw [ha'])
              go_meet
              exact ⟨rfl, by rw [hst]⟩
          · have hki : ¬ (k : Int) + 1 < (t.size : Int) := by omega
            have hst := HRun.out.stop (.inl (by have := HSZ.out; omega))
            rw [HK.out] at hst
            clear HRun
            go_wp2_with fail
            go_meet
            exact ⟨rfl, by rw [hst]⟩
      case rest =>
        obtain ⟨rfl, rfl⟩ := hcut
        go_wp2_with fail
        go_loopg [10] (K + 1) (fun g e wr => ∃ k : Nat, e = .int .i64 ((k : Int) + 1) ∧ k < g ∧ k + 1 ≤ t.size ∧ Hid (Below wc.heap.size wc wr) ∧ Hid (Tk.findFrom nm attr l k = Tk.find nm ot attr l))
        case atStart => exact ⟨K, rfl, by omega, hrun, Below.refl _ _, by show _ = _; rw [HF.out, HK.out]⟩
        case round =>
          obtain ⟨k, rfl, hkg, hkt, HB, HFF⟩ := hrel
          obtain ⟨g, rfl⟩ : ∃ g, gk = g + 1 := ⟨gk - 1, by omega⟩
          cases k with
          | zero =>
            have HN0 : Hid (Tk.find nm ot attr l = none) := HFF.out.symm
            go_wp2
            go_ret3
            exact ⟨ret_num (by rw [HN0.out]; rfl), HB.out⟩
          | succ k =>
            have HST := Lib.hid ((findFrom_step nm attr l k).symm.trans HFF.out)
            have hgl := HGL.out.below HB.out h5
            have hki : (1 : Int) < ((k + 1 : Nat) : Int) + 1 := by omega
            have hkc : (((k + 1 : Nat) : Int) + 1) = ((k + 2 : Nat) : Int) := by omega
            have hwd : (t.extract 1 (k + 2)).data.toList = (l.drop 1).take (k + 1) := by
              rw [Lib.extract_data, HL.out]; congr 1
            obtain ⟨W, hW⟩ : ∃ W, (l.drop 1).take (k + 1) = W := ⟨_, rfl⟩
            rw [hW] at hwd HST
            have HWD := Lib.hid hwd
            clear HFF hwd hW
            rw [hkc]
            go_wp2_with fail
            refine (bin_b HN.out _ W HWD.out _ hgl).mono ?_
            rintro e w2 ⟨rfl, hb2⟩
            have HB2 := Lib.hid (HB.out.trans (hb2.mono HB.out.size))
            clear hb2 hgl hkc
            obtain ⟨P, hP⟩ : ∃ P, Tk.place nm W = P := ⟨_, rfl⟩
            rw [hP] at HST
            have HP := Lib.hid hP
            rw [hP]
            clear hP
            by_cases hf : Tk.found nm W = false
            · have HF2 := Lib.hid ((if_pos hf).symm.trans HST.out)
              clear HST
              rw [hf]
              clear hf
              go_wp2_with fail
              go_roundg g
              case measure => omega
              case rel => exact ⟨k, by simp; omega, by omega, by omega, HB2, HF2⟩
            have hf' : Tk.found nm W = true := by simpa using hf
            have hlt := found_lt hf'
            rw [HP.out, HN.out] at hlt
            rw [hf']
            have HST1 := Lib.hid ((if_neg hf).symm.trans HST.out)
            clear HST hf hf'
            obtain ⟨c0, c1, c2⟩ := (HGL.out.below HB2.out h5).cells P (by rw [HN.out]; exact hlt)
            generalize hnA : Tk.nameAt nm P = nA at *
            have HNA := Lib.hid hnA
            clear hnA
            have hlti : (P : Int) < 59 := by omega
            by_cases hk2 : k + 2 < t.size
            · have hk2i : (k : Int) + 2 < (t.size : Int) := by omega
              have hk2n : ((k : Int) + 2).toNat = k + 2 := by omega
              have hk20 : (0 : Int) ≤ (k : Int) + 2 := by omega
              obtain ⟨d, hd⟩ : ∃ d : UInt8, t[k + 2] = d := ⟨_, rfl⟩
              have hdl : l[k + 2]? = some d := by rw [← HL.out, ← hd]; exact Lib.data_getElem? t (k + 2) hk2
              have HDL := Lib.hid hdl
              clear hdl
              by_cases h59 : d = 59
              · have HR1 : Hid (Tk.find nm ot attr l = some (nA.2.1, k + 3)) := HST1.out.symm.trans (if_pos (by rw [HDL.out, h59]))
                have hdb : ((d.toNat : Int) == 59) = true := by rw [h59]; rfl
                clear HST1 h59
                go_wp2
                go_ret3
                exact ⟨ret_num (by rw [HR1.out]; exact num_eq (by omega)), HB2.out⟩
              · have HST2 := Lib.hid ((if_neg (by rw [HDL.out]; intro e; injection e with e; exact h59 e)).symm.trans HST1.out)
                have hdb : ((d.toNat : Int) == 59) = false := by
                  rw [beq_eq_false_iff_ne]; intro e; exact h59 (UInt8.toNat_inj.1 (by simp; omega))
                clear HST1 h59
                by_cases hal : nA.2.2 = false
                · have HF2 := Lib.hid ((if_pos hal).symm.trans HST2.out)
                  clear HST2
                  go_wp2_with fail
                  go_roundg g
                  case measure => omega
                  case rel => exact ⟨k, by simp; omega, by omega, by omega, HB2, HF2⟩
                · have hal' : nA.2.2 = true := by simpa using hal
                  have HST3 := Lib.hid ((if_neg hal).symm.trans HST2.out)
                  clear HST2 hal
                  cases attr with
                  | false =>
                    have HR1 : Hid (Tk.find nm ot false l = some (nA.2.1, k + 2)) := HST3.out.symm.trans (if_neg (fun h => by cases h.1))
                    clear HST3
                    go_wp2
                    go_ret3
                    exact ⟨ret_num (by rw [HR1.out]; exact num_eq (by omega)), HB2.out⟩
                  | true =>
                    by_cases h61 : d = 61
                    · have HR1 : Hid (Tk.find nm ot true l = none) := HST3.out.symm.trans (if_pos ⟨rfl, by rw [HDL.out, h61]; rfl⟩)
                      have hdb1 : ((d.toNat : Int) == 61) = true := by rw [h61]; rfl
                      clear HST3 h61
                      go_wp2
                      go_ret3
                      exact ⟨ret_num (by rw [HR1.out]; rfl), HB2.out⟩
                    · have hdb1 : ((d.toNat : Int) == 61) = false := by
                        rw [beq_eq_false_iff_ne]; intro e; exact h61 (UInt8.toNat_inj.1 (by simp; omega))
                      by_cases ha : Tk.alnum d = true
                      · have HR1 : Hid (Tk.find nm ot true l = none) := HST3.out.symm.trans (if_pos ⟨rfl, by rw [HDL.out]; show (d == 61 || Tk.alnum d) = true; rw [ha, Bool.or_true]⟩)
                        clear HST3 h61
                        go_wp2_with (go_at_call 77; refine (alnum_any d _).mono ?_; rintro e w' ⟨rfl, rfl⟩; rw [ha])
                        go_ret3
                        exact ⟨ret_num (by rw [HR1.out]; rfl), HB2.out⟩
                      · have ha' : Tk.alnum d = false := by simpa using ha
                        have HR1 : Hid (Tk.find nm ot true l = some (nA.2.1, k + 2)) := HST3.out.symm.trans (if_neg (fun h => by
                          have := h.2; rw [HDL.out] at this
                          have h2 : (d == 61 || Tk.alnum d) = true := this
                          rw [ha', Bool.or_false, beq_iff_eq] at h2; exact h61 h2))
                        clear HST3 h61 ha
                        go_wp2_with (go_at_call 77; refine (alnum_any d _).mono ?_; rintro e w' ⟨rfl, rfl⟩; rw [ha'])
                        go_ret3
                        exact ⟨ret_num (by rw [HR1.out]; exact num_eq (by omega)), HB2.out⟩
            · have hk2i : ¬ (k : Int) + 2 < (t.size : Int) := by omega
              have hdl : Hid (l[k + 2]? = none) := List.getElem?_eq_none (by have := HSZ.out; omega)
              have HST2 := Lib.hid ((if_neg (by rw [hdl.out]; exact fun e => by cases e)).symm.trans HST1.out)
              clear HST1
              by_cases hal : nA.2.2 = false
              · have HF2 := Lib.hid ((if_pos hal).symm.trans HST2.out)
                clear HST2
                go_wp2_with fail
                go_roundg g
                case measure => omega
                case rel => exact ⟨k, by simp; omega, by omega, by omega, HB2, HF2⟩
              · have hal' : nA.2.2 = true := by simpa using hal
                have HST3 := Lib.hid ((if_neg hal).symm.trans HST2.out)
                clear HST2 hal
                have HR1 : Hid (Tk.find nm ot attr l = some (nA.2.1, k + 2)) := HST3.out.symm.trans (if_neg (fun h => by have := h.2; rw [hdl.out] at this; cases this))
                clear HST3
                cases attr with
                | false =>
                  go_wp2
                  go_ret3
                  exact ⟨ret_num (by rw [HR1.out]; exact num_eq (by omega)), HB2.out⟩
                | true =>
                  go_wp2
                  go_ret3
                  exact ⟨ret_num (by rw [HR1.out]; exact num_eq (by omega)), HB2.out⟩
end Go.Proofs.YtaohdicilfabeaaGreatDoor

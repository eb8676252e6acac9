/- A reference by number, walked. -/
import Derived.Test.YtaohdicilfabeaaGreatDoorTkBin
import Derived.Deep.DeepCutAuto
import Derived.Deep.CutBlock
import Derived.Deep.LoopGhost
namespace Go.Proofs.YtaohdicilfabeaaGreatDoor
open Go.RowKit

def numRes (x : Option (Int × Nat)) : Value := match x with
  | none => .tuple #[.int .i32 0, .int .i64 0, .bool false]
  | some (r, n) => .tuple #[.int .i32 r, .int .i64 (n : Int), .bool true]
theorem ret_num {x : Option (Int × Nat)} {a b : Int} {c : Bool} (h : numRes x = .tuple #[.int .i32 a, .int .i64 b, .bool c]) : Ending.returned (.tuple #[.int .i32 a, .int .i64 b, .bool c]) = .returned (numRes x) := by rw [h]
theorem hex_x (b : UInt8) : (bits .or .u8 (b.toNat : Int) 32 == 120) = (b == 120 || b == 88) := by
  have h : ∀ n : Fin 256, (bits .or .u8 ((UInt8.ofNat n).toNat : Int) 32 == 120) = (UInt8.ofNat n == 120 || UInt8.ofNat n == 88) := by decide +kernel
  have h' := h ⟨b.toNat, b.toNat_lt⟩
  simpa only [UInt8.ofNat_toNat] using h'
theorem hexed_cons (b : UInt8) (r : List UInt8) : Tk.hexed (b :: r) = (b == 120 || b == 88) := by
  unfold Tk.hexed Lib.hasPrefix
  simp [List.isPrefixOf, Bool.beq_comm]
/-- How far the digits have been read. -/
def Dig (base : Int) (L : List UInt8) (k : Nat) (n : Int) : Prop := Tk.digits base L 0 = ((Tk.digits base (L.drop k) n).1 + k, (Tk.digits base (L.drop k) n).2)
theorem Dig.zero (base : Int) (L : List UInt8) : Dig base L 0 0 := by unfold Dig; simp
theorem num_eq {a : Nat} {x : Int} {c : Int} (h : (a : Int) = c) : Value.tuple #[.int .i32 x, .int .i64 (a : Int), .bool true] = .tuple #[.int .i32 x, .int .i64 c, .bool true] := by rw [h]
theorem num_ways (ot : List Int) (t : ByteArray) (l : List UInt8) (hl : t.data.toList = l) :
    (t.toList.isEmpty = true ∧ Tk.number ot l = Tk.numberAt ot l l 10) ∨
    (∃ (b : UInt8) (h0 : 0 < t.size), t[0] = b ∧ (bits .or .u8 (b.toNat : Int) 32 == 120) = false ∧ t.toList.isEmpty = false ∧ Tk.number ot l = Tk.numberAt ot l l 10) ∨
    (∃ (b : UInt8) (h0 : 0 < t.size), t[0] = b ∧ (bits .or .u8 (b.toNat : Int) 32 == 120) = true ∧ t.toList.isEmpty = false ∧ Tk.number ot l = Tk.numberAt ot l (l.drop 1) 16 ∧ 1 ≤ l.length) := by
  cases l with
  | nil => exact .inl ⟨by rw [Lib.toList_data, hl]; rfl, rfl⟩
  | cons b r =>
    have h0 : 0 < t.size := by rw [Lib.size_eq, hl]; simp
    have hb : t[0] = b := by
      have h1 : t.data.toList[0]? = some t[0] := Lib.data_getElem? t 0 h0
      rw [hl] at h1; simpa using h1.symm
    have he : t.toList.isEmpty = false := by rw [Lib.toList_data, hl]; rfl
    have hx := hexed_cons b r
    have hy := hex_x b
    cases hh : Tk.hexed (b :: r)
    · exact .inr (.inl ⟨b, h0, hb, by rw [hy, ← hx, hh], he, by unfold Tk.number; rw [hh]; rfl⟩)
    · exact .inr (.inr ⟨b, h0, hb, by rw [hy, ← hx, hh], he, by unfold Tk.number; rw [hh]; rfl, by simp⟩)
theorem Dig.step {base : Int} {L : List UInt8} {k : Nat} {n : Int} (h : Dig base L k n) {c : UInt8} (hk : k < L.length) (hc : L[k] = c) (hx : Tk.hex c < base) : Dig base L (k + 1) (min (n * base + Tk.hex c) 1114112) := by
  unfold Dig at *
  rw [h, List.drop_eq_getElem_cons hk, hc]
  conv => lhs; unfold Tk.digits
  rw [if_pos hx]
  simp only [Prod.mk.injEq]
  exact ⟨by omega, trivial⟩
theorem Dig.stop {base : Int} {L : List UInt8} {k : Nat} {n : Int} (h : Dig base L k n) (hs : L.length ≤ k ∨ ∃ (hk : k < L.length), ¬ Tk.hex L[k] < base) : Tk.digits base L 0 = (k, n) := by
  unfold Dig at h
  rw [h]
  rcases hs with hs | ⟨hk, hx⟩
  · rw [List.drop_of_length_le hs]; simp [Tk.digits]
  · rw [List.drop_eq_getElem_cons hk]
    unfold Tk.digits
    rw [if_neg hx]; simp

set_option maxRecDepth 100000 in
set_option maxHeartbeats 2000000 in
theorem number_any {nm : List (List UInt8 × Int × Bool)} {ot : List Int} (hot : ot.length = 32) (hor : ∀ x ∈ ot, 0 ≤ x ∧ x ≤ 65535) (t : ByteArray) (l : List UInt8) (hl : t.data.toList = l) (w : World) (hgl : Gl nm ot w) (hs : t.size ≤ 1000000) :
    Calls Tryz.prog 76 #[.string t] w fun e w' => e = .returned (numRes (Tk.number ot l)) ∧ w = w' := by
  have HOT := Lib.hid hot
  have HOR := Lib.hid hor
  have HGL := Lib.hid hgl
  have HL := Lib.hid hl
  have hsz : t.size = l.length := by rw [← hl, ← Lib.size_eq]
  have HSZ := Lib.hid hsz
  clear hot hor hgl hl hsz
  -- MARK: what follows is printed by wip/mknum.py
  rcases num_ways ot t l HL.out with ⟨hte, hnum⟩ | ⟨b, ht0, hb, hx, hte, hnum⟩ | ⟨b, ht0, hb, hx, hte, hnum, hl1⟩
  · have HRES := Lib.hid hnum
    have HU := HL
    have HLen := HSZ
    have HLl : Hid (l.length ≤ l.length) := Nat.le_refl _
    clear hnum
    go_enter Tryz.func76, Tryz.ntmps76
    go_upto_block 0 with (fail)
    go_cut [7, 8] (fun k n wx => wx = w ∧ ∃ (j : Nat) (m : Int), k = .int .i64 (j : Int) ∧ n = .int .i32 m ∧ j ≤ t.size ∧ 0 ≤ m ∧ m ≤ 1114112 ∧ Hid (Tk.digits 10 l 0 = (j, m)))
    case first =>
      go_wp2_with fail
      go_loopg [7, 8] t.size (fun g k n wr => wr = w ∧ ∃ (j : Nat) (m : Int), k = .int .i64 (j : Int) ∧ n = .int .i32 m ∧ j + g = t.size ∧ 0 ≤ m ∧ m ≤ 1114112 ∧ Hid (Dig 10 l j m))
      case atStart => exact ⟨rfl, 0, 0, rfl, rfl, by omega, by omega, by omega, Dig.zero _ _⟩
      case round =>
        obtain ⟨rfl, j, m, rfl, rfl, hjg, hm0, hm1, HD⟩ := hrel
        by_cases hj : j < t.size
        · obtain ⟨g, rfl⟩ : ∃ g, gk = g + 1 := ⟨gk - 1, by omega⟩
          have hji : (j : Int) < (t.size : Int) := by omega
          obtain ⟨c, hc⟩ : ∃ c : UInt8, t[j] = c := ⟨_, rfl⟩
          have hjL : j < l.length := by rw [← HLen.out]; exact hj
          have hcL : Hid (l[j] = c) := by
            show l[j] = c
            rw [← hc]
            have h1 : l[j]? = some t[j] := by rw [← HU.out]; exact Lib.data_getElem? t j hj
            rw [List.getElem?_eq_getElem hjL] at h1
            injection h1
          have hr := hex_range c
          obtain ⟨x, hx⟩ : ∃ x, Tk.hex c = x := ⟨_, rfl⟩
          have HX := Lib.hid hx
          rw [hx] at hr
          clear hx
          by_cases hlt : x < 10
          · have HD2 := Lib.hid (HD.out.step hjL hcL.out (by rw [HX.out]; exact hlt))
            rw [HX.out] at HD2
            have hmm : m * 10 + x ≤ 17825808 := by omega
            have hmm0 : 0 ≤ m * 10 + x := by omega
            clear HD
            go_wp2_with (go_at_call 95; refine (crdigit_any c _).mono ?_; rintro e w' ⟨rfl, rfl⟩; rw [HX.out])
            go_roundg g
            case measure => omega
            case rel => exact ⟨rfl, j + 1, min (m * 10 + x) 1114112, by simp, rfl, by omega, by omega, by omega, HD2⟩
          · have HD2 := Lib.hid (HD.out.stop (.inr ⟨hjL, by rw [hcL.out, HX.out]; exact hlt⟩))
            clear HD
            go_wp2_with (go_at_call 95; refine (crdigit_any c _).mono ?_; rintro e w' ⟨rfl, rfl⟩; rw [HX.out])
            go_meet
            exact ⟨rfl, j, m, rfl, rfl, by omega, hm0, hm1, HD2⟩
        · have hji : ¬ (j : Int) < (t.size : Int) := by omega
          have HD2 := Lib.hid (HD.out.stop (.inl (by rw [← HLen.out]; omega)))
          clear HD
          go_wp2_with fail
          go_meet
          exact ⟨rfl, j, m, rfl, rfl, by omega, hm0, hm1, HD2⟩
    case rest =>
      obtain ⟨rfl, j, m, rfl, rfl, hj, hm0, hm1, HD⟩ := hcut
      by_cases h0 : j = 0
      · subst h0
        have hres : Hid (Tk.number ot l = none) := HRES.out.trans (by unfold Tk.numberAt; rw [HD.out]; rfl)
        go_wp2
        go_ret3
        exact ⟨ret_num (by rw [hres.out]; rfl), rfl⟩
      · have h0b : ((j : Int) == 0) = false := by simpa using h0
        have hji : (j : Int) ≤ (t.size : Int) := by omega
        have hres : Hid (Tk.number ot l = some (Tk.fixed ot m, l.length - (Lib.trimPrefix (l.drop j) [59]).length)) := by
          refine HRES.out.trans ?_
          unfold Tk.numberAt; rw [HD.out]; exact if_neg h0
        clear h0
        go_wp2_with fail
        refine (cutPrefix_any (t.extract j t.size) ⟨#[59]⟩ _).mono ?_
        rintro e w' ⟨he, rfl⟩
        have hex : (t.extract j t.size).data.toList = l.drop j := by rw [Lib.extract_to_end, HU.out]
        rw [hex] at he
        subst he
        obtain ⟨P, hP⟩ : ∃ P, Lib.trimPrefix (l.drop j) ([59] : List UInt8) = P := ⟨_, rfl⟩
        have hPl : P.length ≤ l.length := by
          have h1 := Tk.trimPrefix_len (l.drop j) [59]
          rw [hP, List.length_drop] at h1
          have := HLl.out; omega
        rw [hP] at hres
        have hP2 : Lib.trimPrefix (l.drop j) (⟨#[59]⟩ : ByteArray).data.toList = P := hP
        rw [hP2]
        clear hP hP2 hex
        have hszl := HSZ.out
        have hPt : P.length ≤ t.size := by omega
        by_cases hm : m = 0
        · subst hm
          have hfix : Hid (Tk.fixed ot 0 = 65533) := if_pos (.inl rfl)
          rw [hfix.out] at hres
          clear hszl
          go_wp2
          go_ret3
          exact ⟨ret_num (by rw [hres.out]; exact num_eq (by have := HSZ.out; omega)), rfl⟩
        · have hmb : (m == 0) = false := by simpa using hm
          by_cases hv : Lib.validRune m = true
          · by_cases hr : 128 ≤ m ∧ m ≤ 159
            · obtain ⟨h128, h159⟩ := hr
              obtain ⟨q, hq⟩ : ∃ q : Nat, m = 128 + (q : Int) := ⟨(m - 128).toNat, by omega⟩
              have hq32 : q < 32 := by omega
              subst hq
              obtain ⟨o, ho⟩ : ∃ o, ot.getD q 0 = o := ⟨_, rfl⟩
              have hoc : wc.cell? ⟨2, q, none⟩ = some (.int .i32 o) := HGL.out.other q o (by rw [← ho, List.getD_eq_getElem?_getD, List.getElem?_eq_getElem (by rw [HOT.out]; exact hq32)]; rfl)
              have hqq : (128 + (q : Int) - 128).toNat = q := by omega
              have hgd : ot.getD (128 + (q : Int) - 128).toNat 0 = o := by rw [hqq]; exact ho
              clear hqq
              by_cases ho0 : o = 0
              · have hob : (o != 0) = false := by simp [ho0]
                have hfix : Hid (Tk.fixed ot (128 + (q : Int)) = 128 + (q : Int)) := by
                  show _ = _; unfold Tk.fixed; rw [if_neg (by rintro (h | h); exact hm h; rw [hv] at h; cases h), if_neg (by rw [hgd]; exact fun h => h.2.2 ho0)]
                rw [hfix.out] at hres
                clear ho ho0 hgd hszl
                go_wp2_with fail
                refine (validRune_any _ _).mono ?_
                rintro e w' ⟨rfl, rfl⟩
                rw [hv]
                clear hv
                go_wp2
                go_ret3
                exact ⟨ret_num (by rw [hres.out]; exact num_eq (by have := HSZ.out; omega)), rfl⟩
              · have hob : (o != 0) = true := by simp [ho0]
                have hfix : Hid (Tk.fixed ot (128 + (q : Int)) = o) := by
                  show _ = _; unfold Tk.fixed; rw [if_neg (by rintro (h | h); exact hm h; rw [hv] at h; cases h), if_pos (by rw [hgd]; exact ⟨h128, h159, ho0⟩), hgd]
                rw [hfix.out] at hres
                clear ho ho0 hgd hszl
                go_wp2_with fail
                refine (validRune_any _ _).mono ?_
                rintro e w' ⟨rfl, rfl⟩
                rw [hv]
                clear hv
                go_wp2
                go_ret3
                exact ⟨ret_num (by rw [hres.out]; exact num_eq (by have := HSZ.out; omega)), rfl⟩
            · have hfix : Hid (Tk.fixed ot m = m) := by
                show _ = _; unfold Tk.fixed; rw [if_neg (by rintro (h | h); exact hm h; rw [hv] at h; cases h), if_neg (fun h => hr ⟨h.1, h.2.1⟩)]
              rw [hfix.out] at hres
              have hr2 : m < 128 ∨ 159 < m := by omega
              clear hr hszl
              go_wp2_with fail
              refine (validRune_any _ _).mono ?_
              rintro e w' ⟨rfl, rfl⟩
              rw [hv]
              clear hv
              rcases hr2 with hr2 | hr2
              all_goals (go_wp2; go_ret3)
              all_goals exact ⟨ret_num (by rw [hres.out]; exact num_eq (by have := HSZ.out; omega)), rfl⟩
          · have hv' : Lib.validRune m = false := by simpa using hv
            have hfix : Hid (Tk.fixed ot m = 65533) := if_pos (.inr hv')
            rw [hfix.out] at hres
            clear hv hszl
            go_wp2_with fail
            refine (validRune_any _ _).mono ?_
            rintro e w' ⟨rfl, rfl⟩
            rw [hv']
            clear hv'
            go_wp2
            go_ret3
            exact ⟨ret_num (by rw [hres.out]; exact num_eq (by have := HSZ.out; omega)), rfl⟩
  · have HRES := Lib.hid hnum
    have HU := HL
    have HLen := HSZ
    have HLl : Hid (l.length ≤ l.length) := Nat.le_refl _
    have ht0i : (0 : Int) < (t.size : Int) := by omega
    clear hnum
    go_enter Tryz.func76, Tryz.ntmps76
    go_upto_block 0 with (fail)
    go_cut [7, 8] (fun k n wx => wx = w ∧ ∃ (j : Nat) (m : Int), k = .int .i64 (j : Int) ∧ n = .int .i32 m ∧ j ≤ t.size ∧ 0 ≤ m ∧ m ≤ 1114112 ∧ Hid (Tk.digits 10 l 0 = (j, m)))
    case first =>
      go_wp2_with fail
      go_loopg [7, 8] t.size (fun g k n wr => wr = w ∧ ∃ (j : Nat) (m : Int), k = .int .i64 (j : Int) ∧ n = .int .i32 m ∧ j + g = t.size ∧ 0 ≤ m ∧ m ≤ 1114112 ∧ Hid (Dig 10 l j m))
      case atStart => exact ⟨rfl, 0, 0, rfl, rfl, by omega, by omega, by omega, Dig.zero _ _⟩
      case round =>
        obtain ⟨rfl, j, m, rfl, rfl, hjg, hm0, hm1, HD⟩ := hrel
        by_cases hj : j < t.size
        · obtain ⟨g, rfl⟩ : ∃ g, gk = g + 1 := ⟨gk - 1, by omega⟩
          have hji : (j : Int) < (t.size : Int) := by omega
          obtain ⟨c, hc⟩ : ∃ c : UInt8, t[j] = c := ⟨_, rfl⟩
          have hjL : j < l.length := by rw [← HLen.out]; exact hj
          have hcL : Hid (l[j] = c) := by
            show l[j] = c
            rw [← hc]
            have h1 : l[j]? = some t[j] := by rw [← HU.out]; exact Lib.data_getElem? t j hj
            rw [List.getElem?_eq_getElem hjL] at h1
            injection h1
          have hr := hex_range c
          obtain ⟨x, hx⟩ : ∃ x, Tk.hex c = x := ⟨_, rfl⟩
          have HX := Lib.hid hx
          rw [hx] at hr
          clear hx
          by_cases hlt : x < 10
          · have HD2 := Lib.hid (HD.out.step hjL hcL.out (by rw [HX.out]; exact hlt))
            rw [HX.out] at HD2
            have hmm : m * 10 + x ≤ 17825808 := by omega
            have hmm0 : 0 ≤ m * 10 + x := by omega
            clear HD
            go_wp2_with (go_at_call 95; refine (crdigit_any c _).mono ?_; rintro e w' ⟨rfl, rfl⟩; rw [HX.out])
            go_roundg g
            case measure => omega
            case rel => exact ⟨rfl, j + 1, min (m * 10 + x) 1114112, by simp, rfl, by omega, by omega, by omega, HD2⟩
          · have HD2 := Lib.hid (HD.out.stop (.inr ⟨hjL, by rw [hcL.out, HX.out]; exact hlt⟩))
            clear HD
            go_wp2_with (go_at_call 95; refine (crdigit_any c _).mono ?_; rintro e w' ⟨rfl, rfl⟩; rw [HX.out])
            go_meet
            exact ⟨rfl, j, m, rfl, rfl, by omega, hm0, hm1, HD2⟩
        · have hji : ¬ (j : Int) < (t.size : Int) := by omega
          have HD2 := Lib.hid (HD.out.stop (.inl (by rw [← HLen.out]; omega)))
          clear HD
          go_wp2_with fail
          go_meet
          exact ⟨rfl, j, m, rfl, rfl, by omega, hm0, hm1, HD2⟩
    case rest =>
      obtain ⟨rfl, j, m, rfl, rfl, hj, hm0, hm1, HD⟩ := hcut
      by_cases h0 : j = 0
      · subst h0
        have hres : Hid (Tk.number ot l = none) := HRES.out.trans (by unfold Tk.numberAt; rw [HD.out]; rfl)
        go_wp2
        go_ret3
        exact ⟨ret_num (by rw [hres.out]; rfl), rfl⟩
      · have h0b : ((j : Int) == 0) = false := by simpa using h0
        have hji : (j : Int) ≤ (t.size : Int) := by omega
        have hres : Hid (Tk.number ot l = some (Tk.fixed ot m, l.length - (Lib.trimPrefix (l.drop j) [59]).length)) := by
          refine HRES.out.trans ?_
          unfold Tk.numberAt; rw [HD.out]; exact if_neg h0
        clear h0
        go_wp2_with fail
        refine (cutPrefix_any (t.extract j t.size) ⟨#[59]⟩ _).mono ?_
        rintro e w' ⟨he, rfl⟩
        have hex : (t.extract j t.size).data.toList = l.drop j := by rw [Lib.extract_to_end, HU.out]
        rw [hex] at he
        subst he
        obtain ⟨P, hP⟩ : ∃ P, Lib.trimPrefix (l.drop j) ([59] : List UInt8) = P := ⟨_, rfl⟩
        have hPl : P.length ≤ l.length := by
          have h1 := Tk.trimPrefix_len (l.drop j) [59]
          rw [hP, List.length_drop] at h1
          have := HLl.out; omega
        rw [hP] at hres
        have hP2 : Lib.trimPrefix (l.drop j) (⟨#[59]⟩ : ByteArray).data.toList = P := hP
        rw [hP2]
        clear hP hP2 hex
        have hszl := HSZ.out
        have hPt : P.length ≤ t.size := by omega
        by_cases hm : m = 0
        · subst hm
          have hfix : Hid (Tk.fixed ot 0 = 65533) := if_pos (.inl rfl)
          rw [hfix.out] at hres
          clear hszl
          go_wp2
          go_ret3
          exact ⟨ret_num (by rw [hres.out]; exact num_eq (by have := HSZ.out; omega)), rfl⟩
        · have hmb : (m == 0) = false := by simpa using hm
          by_cases hv : Lib.validRune m = true
          · by_cases hr : 128 ≤ m ∧ m ≤ 159
            · obtain ⟨h128, h159⟩ := hr
              obtain ⟨q, hq⟩ : ∃ q : Nat, m = 128 + (q : Int) := ⟨(m - 128).toNat, by omega⟩
              have hq32 : q < 32 := by omega
              subst hq
              obtain ⟨o, ho⟩ : ∃ o, ot.getD q 0 = o := ⟨_, rfl⟩
              have hoc : wc.cell? ⟨2, q, none⟩ = some (.int .i32 o) := HGL.out.other q o (by rw [← ho, List.getD_eq_getElem?_getD, List.getElem?_eq_getElem (by rw [HOT.out]; exact hq32)]; rfl)
              have hqq : (128 + (q : Int) - 128).toNat = q := by omega
              have hgd : ot.getD (128 + (q : Int) - 128).toNat 0 = o := by rw [hqq]; exact ho
              clear hqq
              by_cases ho0 : o = 0
              · have hob : (o != 0) = false := by simp [ho0]
                have hfix : Hid (Tk.fixed ot (128 + (q : Int)) = 128 + (q : Int)) := by
                  show _ = _; unfold Tk.fixed; rw [if_neg (by rintro (h | h); exact hm h; rw [hv] at h; cases h), if_neg (by rw [hgd]; exact fun h => h.2.2 ho0)]
                rw [hfix.out] at hres
                clear ho ho0 hgd hszl
                go_wp2_with fail
                refine (validRune_any _ _).mono ?_
                rintro e w' ⟨rfl, rfl⟩
                rw [hv]
                clear hv
                go_wp2
                go_ret3
                exact ⟨ret_num (by rw [hres.out]; exact num_eq (by have := HSZ.out; omega)), rfl⟩
              · have hob : (o != 0) = true := by simp [ho0]
                have hfix : Hid (Tk.fixed ot (128 + (q : Int)) = o) := by
                  show _ = _; unfold Tk.fixed; rw [if_neg (by rintro (h | h); exact hm h; rw [hv] at h; cases h), if_pos (by rw [hgd]; exact ⟨h128, h159, ho0⟩), hgd]
                rw [hfix.out] at hres
                clear ho ho0 hgd hszl
                go_wp2_with fail
                refine (validRune_any _ _).mono ?_
                rintro e w' ⟨rfl, rfl⟩
                rw [hv]
                clear hv
                go_wp2
                go_ret3
                exact ⟨ret_num (by rw [hres.out]; exact num_eq (by have := HSZ.out; omega)), rfl⟩
            · have hfix : Hid (Tk.fixed ot m = m) := by
                show _ = _; unfold Tk.fixed; rw [if_neg (by rintro (h | h); exact hm h; rw [hv] at h; cases h), if_neg (fun h => hr ⟨h.1, h.2.1⟩)]
              rw [hfix.out] at hres
              have hr2 : m < 128 ∨ 159 < m := by omega
              clear hr hszl
              go_wp2_with fail
              refine (validRune_any _ _).mono ?_
              rintro e w' ⟨rfl, rfl⟩
              rw [hv]
              clear hv
              rcases hr2 with hr2 | hr2
              all_goals (go_wp2; go_ret3)
              all_goals exact ⟨ret_num (by rw [hres.out]; exact num_eq (by have := HSZ.out; omega)), rfl⟩
          · have hv' : Lib.validRune m = false := by simpa using hv
            have hfix : Hid (Tk.fixed ot m = 65533) := if_pos (.inr hv')
            rw [hfix.out] at hres
            clear hv hszl
            go_wp2_with fail
            refine (validRune_any _ _).mono ?_
            rintro e w' ⟨rfl, rfl⟩
            rw [hv']
            clear hv'
            go_wp2
            go_ret3
            exact ⟨ret_num (by rw [hres.out]; exact num_eq (by have := HSZ.out; omega)), rfl⟩
  · have HRES := Lib.hid hnum
    obtain ⟨u, hu⟩ : ∃ u, t.extract 1 t.size = u := ⟨_, rfl⟩
    obtain ⟨L, hL⟩ : ∃ L, l.drop 1 = L := ⟨_, rfl⟩
    have HU : Hid (u.data.toList = L) := by show _ = _; rw [← hu, Lib.extract_to_end, HL.out, hL]
    have HLen : Hid (u.size = L.length) := by show _ = _; rw [← HU.out, ← Lib.size_eq]
    have HLl : Hid (L.length ≤ l.length) := by show _ ≤ _; rw [← hL, List.length_drop]; omega
    have hus : u.size ≤ 1000000 := by have := HLen.out; have := HLl.out; have := HSZ.out; omega
    have ht0i : (0 : Int) < (t.size : Int) := by omega
    have ht1i : (1 : Int) ≤ (t.size : Int) := by omega
    rw [hL] at HRES
    clear hnum hL hl1
    go_enter Tryz.func76, Tryz.ntmps76
    go_upto_block 0 with (fail)
    clear hu
    go_cut [7, 8] (fun k n wx => wx = w ∧ ∃ (j : Nat) (m : Int), k = .int .i64 (j : Int) ∧ n = .int .i32 m ∧ j ≤ u.size ∧ 0 ≤ m ∧ m ≤ 1114112 ∧ Hid (Tk.digits 16 L 0 = (j, m)))
    case first =>
      go_wp2_with fail
      go_loopg [7, 8] u.size (fun g k n wr => wr = w ∧ ∃ (j : Nat) (m : Int), k = .int .i64 (j : Int) ∧ n = .int .i32 m ∧ j + g = u.size ∧ 0 ≤ m ∧ m ≤ 1114112 ∧ Hid (Dig 16 L j m))
      case atStart => exact ⟨rfl, 0, 0, rfl, rfl, by omega, by omega, by omega, Dig.zero _ _⟩
      case round =>
        obtain ⟨rfl, j, m, rfl, rfl, hjg, hm0, hm1, HD⟩ := hrel
        by_cases hj : j < u.size
        · obtain ⟨g, rfl⟩ : ∃ g, gk = g + 1 := ⟨gk - 1, by omega⟩
          have hji : (j : Int) < (u.size : Int) := by omega
          obtain ⟨c, hc⟩ : ∃ c : UInt8, u[j] = c := ⟨_, rfl⟩
          have hjL : j < L.length := by rw [← HLen.out]; exact hj
          have hcL : Hid (L[j] = c) := by
            show L[j] = c
            rw [← hc]
            have h1 : L[j]? = some u[j] := by rw [← HU.out]; exact Lib.data_getElem? u j hj
            rw [List.getElem?_eq_getElem hjL] at h1
            injection h1
          have hr := hex_range c
          obtain ⟨x, hx⟩ : ∃ x, Tk.hex c = x := ⟨_, rfl⟩
          have HX := Lib.hid hx
          rw [hx] at hr
          clear hx
          by_cases hlt : x < 16
          · have HD2 := Lib.hid (HD.out.step hjL hcL.out (by rw [HX.out]; exact hlt))
            rw [HX.out] at HD2
            have hmm : m * 16 + x ≤ 17825808 := by omega
            have hmm0 : 0 ≤ m * 16 + x := by omega
            clear HD
            go_wp2_with (go_at_call 95; refine (crdigit_any c _).mono ?_; rintro e w' ⟨rfl, rfl⟩; rw [HX.out])
            go_roundg g
            case measure => omega
            case rel => exact ⟨rfl, j + 1, min (m * 16 + x) 1114112, by simp, rfl, by omega, by omega, by omega, HD2⟩
          · have HD2 := Lib.hid (HD.out.stop (.inr ⟨hjL, by rw [hcL.out, HX.out]; exact hlt⟩))
            clear HD
            go_wp2_with (go_at_call 95; refine (crdigit_any c _).mono ?_; rintro e w' ⟨rfl, rfl⟩; rw [HX.out])
            go_meet
            exact ⟨rfl, j, m, rfl, rfl, by omega, hm0, hm1, HD2⟩
        · have hji : ¬ (j : Int) < (u.size : Int) := by omega
          have HD2 := Lib.hid (HD.out.stop (.inl (by rw [← HLen.out]; omega)))
          clear HD
          go_wp2_with fail
          go_meet
          exact ⟨rfl, j, m, rfl, rfl, by omega, hm0, hm1, HD2⟩
    case rest =>
      obtain ⟨rfl, j, m, rfl, rfl, hj, hm0, hm1, HD⟩ := hcut
      by_cases h0 : j = 0
      · subst h0
        have hres : Hid (Tk.number ot l = none) := HRES.out.trans (by unfold Tk.numberAt; rw [HD.out]; rfl)
        go_wp2
        go_ret3
        exact ⟨ret_num (by rw [hres.out]; rfl), rfl⟩
      · have h0b : ((j : Int) == 0) = false := by simpa using h0
        have hji : (j : Int) ≤ (u.size : Int) := by omega
        have hres : Hid (Tk.number ot l = some (Tk.fixed ot m, l.length - (Lib.trimPrefix (L.drop j) [59]).length)) := by
          refine HRES.out.trans ?_
          unfold Tk.numberAt; rw [HD.out]; exact if_neg h0
        clear h0
        go_wp2_with fail
        refine (cutPrefix_any (u.extract j u.size) ⟨#[59]⟩ _).mono ?_
        rintro e w' ⟨he, rfl⟩
        have hex : (u.extract j u.size).data.toList = L.drop j := by rw [Lib.extract_to_end, HU.out]
        rw [hex] at he
        subst he
        obtain ⟨P, hP⟩ : ∃ P, Lib.trimPrefix (L.drop j) ([59] : List UInt8) = P := ⟨_, rfl⟩
        have hPl : P.length ≤ l.length := by
          have h1 := Tk.trimPrefix_len (L.drop j) [59]
          rw [hP, List.length_drop] at h1
          have := HLl.out; omega
        rw [hP] at hres
        have hP2 : Lib.trimPrefix (L.drop j) (⟨#[59]⟩ : ByteArray).data.toList = P := hP
        rw [hP2]
        clear hP hP2 hex
        have hszl := HSZ.out
        have hPt : P.length ≤ t.size := by omega
        by_cases hm : m = 0
        · subst hm
          have hfix : Hid (Tk.fixed ot 0 = 65533) := if_pos (.inl rfl)
          rw [hfix.out] at hres
          clear hszl
          go_wp2
          go_ret3
          exact ⟨ret_num (by rw [hres.out]; exact num_eq (by have := HSZ.out; omega)), rfl⟩
        · have hmb : (m == 0) = false := by simpa using hm
          by_cases hv : Lib.validRune m = true
          · by_cases hr : 128 ≤ m ∧ m ≤ 159
            · obtain ⟨h128, h159⟩ := hr
              obtain ⟨q, hq⟩ : ∃ q : Nat, m = 128 + (q : Int) := ⟨(m - 128).toNat, by omega⟩
              have hq32 : q < 32 := by omega
              subst hq
              obtain ⟨o, ho⟩ : ∃ o, ot.getD q 0 = o := ⟨_, rfl⟩
              have hoc : wc.cell? ⟨2, q, none⟩ = some (.int .i32 o) := HGL.out.other q o (by rw [← ho, List.getD_eq_getElem?_getD, List.getElem?_eq_getElem (by rw [HOT.out]; exact hq32)]; rfl)
              have hqq : (128 + (q : Int) - 128).toNat = q := by omega
              have hgd : ot.getD (128 + (q : Int) - 128).toNat 0 = o := by rw [hqq]; exact ho
              clear hqq
              by_cases ho0 : o = 0
              · have hob : (o != 0) = false := by simp [ho0]
                have hfix : Hid (Tk.fixed ot (128 + (q : Int)) = 128 + (q : Int)) := by
                  show _ = _; unfold Tk.fixed; rw [if_neg (by rintro (h | h); exact hm h; rw [hv] at h; cases h), if_neg (by rw [hgd]; exact fun h => h.2.2 ho0)]
                rw [hfix.out] at hres
                clear ho ho0 hgd hszl
                go_wp2_with fail
                refine (validRune_any _ _).mono ?_
                rintro e w' ⟨rfl, rfl⟩
                rw [hv]
                clear hv
                go_wp2
                go_ret3
                exact ⟨ret_num (by rw [hres.out]; exact num_eq (by have := HSZ.out; omega)), rfl⟩
              · have hob : (o != 0) = true := by simp [ho0]
                have hfix : Hid (Tk.fixed ot (128 + (q : Int)) = o) := by
                  show _ = _; unfold Tk.fixed; rw [if_neg (by rintro (h | h); exact hm h; rw [hv] at h; cases h), if_pos (by rw [hgd]; exact ⟨h128, h159, ho0⟩), hgd]
                rw [hfix.out] at hres
                clear ho ho0 hgd hszl
                go_wp2_with fail
                refine (validRune_any _ _).mono ?_
                rintro e w' ⟨rfl, rfl⟩
                rw [hv]
                clear hv
                go_wp2
                go_ret3
                exact ⟨ret_num (by rw [hres.out]; exact num_eq (by have := HSZ.out; omega)), rfl⟩
            · have hfix : Hid (Tk.fixed ot m = m) := by
                show _ = _; unfold Tk.fixed; rw [if_neg (by rintro (h | h); exact hm h; rw [hv] at h; cases h), if_neg (fun h => hr ⟨h.1, h.2.1⟩)]
              rw [hfix.out] at hres
              have hr2 : m < 128 ∨ 159 < m := by omega
              clear hr hszl
              go_wp2_with fail
              refine (validRune_any _ _).mono ?_
              rintro e w' ⟨rfl, rfl⟩
              rw [hv]
              clear hv
              rcases hr2 with hr2 | hr2
              all_goals (go_wp2; go_ret3)
              all_goals exact ⟨ret_num (by rw [hres.out]; exact num_eq (by have := HSZ.out; omega)), rfl⟩
          · have hv' : Lib.validRune m = false := by simpa using hv
            have hfix : Hid (Tk.fixed ot m = 65533) := if_pos (.inr hv')
            rw [hfix.out] at hres
            clear hv hszl
            go_wp2_with fail
            refine (validRune_any _ _).mono ?_
            rintro e w' ⟨rfl, rfl⟩
            rw [hv']
            clear hv'
            go_wp2
            go_ret3
            exact ⟨ret_num (by rw [hres.out]; exact num_eq (by have := HSZ.out; omega)), rfl⟩
end Go.Proofs.YtaohdicilfabeaaGreatDoor

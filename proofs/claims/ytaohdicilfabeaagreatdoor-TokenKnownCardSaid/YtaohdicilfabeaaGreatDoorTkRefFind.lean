/- The answer's Find (selvedgeref03), walked: it finds what the program finds. -/
import Derived.Test.YtaohdicilfabeaaGreatDoorTkRefNum
namespace Go.Proofs.YtaohdicilfabeaaGreatDoor
open Go.RowKit
set_option linter.unusedVariables false
set_option linter.unusedSimpArgs false

theorem nm2_len : nm2T.length = 59 := by decide +kernel
theorem nm2_short : ∀ x ∈ nm2T, x.1.length ≤ 100 := by decide +kernel
theorem nm2Cells_at (k : Nat) (x : List UInt8 × Int × Bool) (h : nm2T[k]? = some x) : nm2Cells[k * 3]? = some (.string ⟨x.1.toArray⟩) ∧ nm2Cells[k * 3 + 1]? = some (.int .i32 x.2.1) ∧ nm2Cells[k * 3 + 2]? = some (.bool x.2.2) := by
  have gen : ∀ (l : List (List UInt8 × Int × Bool)) (k : Nat), l[k]? = some x → (l.flatMap fun x => [Value.string ⟨x.1.toArray⟩, .int .i32 x.2.1, .bool x.2.2])[k * 3]? = some (.string ⟨x.1.toArray⟩) ∧ (l.flatMap fun x => [Value.string ⟨x.1.toArray⟩, .int .i32 x.2.1, .bool x.2.2])[k * 3 + 1]? = some (.int .i32 x.2.1) ∧ (l.flatMap fun x => [Value.string ⟨x.1.toArray⟩, .int .i32 x.2.1, .bool x.2.2])[k * 3 + 2]? = some (.bool x.2.2) := by
    intro l
    induction l with
    | nil => intro k h; simp at h
    | cons a l ih =>
      intro k h
      cases k with
      | zero => simp at h; subst h; exact ⟨rfl, rfl, rfl⟩
      | succ k =>
        have := ih k (by simpa using h)
        have e1 : (k + 1) * 3 = k * 3 + 1 + 1 + 1 := by omega
        rw [e1, List.flatMap_cons]
        exact ⟨by simpa using this.1, by simpa using this.2.1, by simpa using this.2.2⟩
  exact gen nm2T k h
theorem fold_step {l : List UInt8} {k : Nat} {x : List UInt8 × Int × Bool} {st : List UInt8 × Int} (h : (nm2T.take k).foldl (Tk.longer l) ([], 0) = st) (hx : nm2T[k]? = some x) : (nm2T.take (k + 1)).foldl (Tk.longer l) ([], 0) = Tk.longer l st x := by
  obtain ⟨h1, h2⟩ := List.getElem?_eq_some_iff.1 hx
  rw [List.take_succ_eq_append_getElem h1, h2, List.foldl_append, h]; rfl
theorem longer_none {l : List UInt8} {st : List UInt8 × Int} {x : List UInt8 × Int × Bool} (h : Lib.hasPrefix l (38 :: x.1) = false) : Tk.longer l st x = st := by
  unfold Tk.longer Tk.candOf; rw [if_pos h]
theorem longer_semi {l : List UInt8} {st : List UInt8 × Int} {x : List UInt8 × Int × Bool} (h : Lib.hasPrefix l (38 :: x.1) = true) (h2 : Lib.hasPrefix l (38 :: x.1 ++ [59]) = true) : Tk.longer l st x = if st.1.length < x.1.length + 2 then (38 :: x.1 ++ [59], x.2.1) else st := by
  unfold Tk.longer Tk.candOf; rw [if_neg (by simp [h]), if_pos h2]; simp
theorem longer_bare {l : List UInt8} {st : List UInt8 × Int} {x : List UInt8 × Int × Bool} (h : Lib.hasPrefix l (38 :: x.1) = true) (h2 : Lib.hasPrefix l (38 :: x.1 ++ [59]) = false) (h3 : x.2.2 = false) : Tk.longer l st x = st := by
  unfold Tk.longer Tk.candOf; rw [if_neg (by simp [h]), if_neg (by rw [h2]; decide), if_pos h3]
theorem longer_alone {l : List UInt8} {st : List UInt8 × Int} {x : List UInt8 × Int × Bool} (h : Lib.hasPrefix l (38 :: x.1) = true) (h2 : Lib.hasPrefix l (38 :: x.1 ++ [59]) = false) (h3 : x.2.2 = true) : Tk.longer l st x = if st.1.length < x.1.length + 1 then (38 :: x.1, x.2.1) else st := by
  unfold Tk.longer Tk.candOf; rw [if_neg (by simp [h]), if_neg (by rw [h2]; decide), if_neg (by simp [h3])]; simp

set_option maxRecDepth 100000 in
set_option maxHeartbeats 8000000 in
theorem refFindRef_any (s : ByteArray) (l : List UInt8) (hl : s.data.toList = l) (attr : Bool) (w : World) (hs : s.size ≤ 1000000) :
    Calls Tryz.prog 48 #[.string s, .bool attr] w fun e w' => e = .returned (numRes (Tk.find nmT otT attr l)) ∧ Below w.heap.size w w' := by
  have HL := Lib.hid hl
  have HSZ : Hid (l.length = s.size) := by show _ = _; rw [← hl, ← Lib.size_eq]
  have hp1 := refBegins3_any s ⟨#[38]⟩ w
  have hp2 := refBegins3_any s ⟨#[38, 35]⟩ w
  rw [hl] at hp1 hp2
  obtain ⟨q1, hq1⟩ : ∃ q, Lib.hasPrefix l ([38] : List UInt8) = q := ⟨_, rfl⟩
  obtain ⟨q2, hq2⟩ : ∃ q, Lib.hasPrefix l ([38, 35] : List UInt8) = q := ⟨_, rfl⟩
  have e1 : Lib.hasPrefix l (⟨#[38]⟩ : ByteArray).data.toList = q1 := hq1
  have e2 : Lib.hasPrefix l (⟨#[38, 35]⟩ : ByteArray).data.toList = q2 := hq2
  rw [e1] at hp1
  rw [e2] at hp2
  have HQ1 := Lib.hid hq1
  have HQ2 := Lib.hid hq2
  clear e1 e2 hq1 hq2 hl
  cases q1
  · have HF : Hid (Tk.find nmT otT attr l = none) := if_pos HQ1.out
    go_enter Tryz.func48, Tryz.ntmps48
    go_wp2_with fail
    refine hp1.mono ?_
    rintro e w' ⟨rfl, rfl⟩
    clear hp1 hp2
    go_wp2
    go_ret3
    exact ⟨ret_num (by rw [HF.out]; rfl), Below.refl _ _⟩
  cases q2
  rotate_left
  · have HF : Hid (Tk.find nmT otT attr l = (Tk.number otT (l.drop 2)).map fun x => (x.1, x.2 + 2)) := by
      show _ = _; unfold Tk.find; rw [if_neg (by rw [HQ1.out]; decide), if_pos HQ2.out]
    have h2 : 2 ≤ s.size := by
      have h : 2 ≤ l.length := (List.isPrefixOf_iff_prefix.1 HQ2.out).length_le
      have := HSZ.out; omega
    have h2i : (2 : Int) ≤ (s.size : Int) := by omega
    have HD : Hid ((s.extract 2 s.size).data.toList = l.drop 2) := by show _ = _; rw [Lib.extract_to_end, HL.out]
    have hds : (s.extract 2 s.size).size ≤ 1000000 := by
      rw [Lib.size_eq, HD.out, List.length_drop]; have := HSZ.out; omega
    have hnum := fun W : World => refNumber_any (s.extract 2 s.size) (l.drop 2) HD.out W hds
    have HLEN : Hid (∀ r n, Tk.number otT (l.drop 2) = some (r, n) → n ≤ 1000000) := by
      intro r n h
      have := Tk.number_len h
      rw [List.length_drop] at this; have := HSZ.out; omega
    obtain ⟨x, hx⟩ : ∃ x, Tk.number otT (l.drop 2) = x := ⟨_, rfl⟩
    rw [hx] at hnum HF HLEN
    clear hx hds
    go_enter Tryz.func48, Tryz.ntmps48
    go_wp2_with fail
    refine hp1.mono ?_
    rintro e w' ⟨rfl, rfl⟩
    clear hp1
    go_wp2_with fail
    refine hp2.mono ?_
    rintro e w' ⟨rfl, rfl⟩
    clear hp2
    go_wp2_with fail
    refine (hnum _).mono ?_
    rintro e w1 ⟨rfl, hb1⟩
    have HB1 := Lib.hid hb1
    clear hb1 hnum
    cases x with
    | none =>
      unfold numRes
      go_wp2
      go_ret3
      exact ⟨ret_num (by rw [HF.out]; rfl), HB1.out⟩
    | some x =>
      obtain ⟨r, n⟩ := x
      have hn := HLEN.out r n rfl
      unfold numRes
      go_wp2
      go_ret3
      exact ⟨ret_num (by rw [HF.out]; rfl), HB1.out⟩
  have HF : Hid (Tk.find nmT otT attr l = Tk.lastly attr l (Tk.longest l nm2T)) := by
    show _ = _; unfold Tk.find; rw [if_neg (by rw [HQ1.out]; decide), if_neg (by rw [HQ2.out]; decide), Tk.longest_find nmT_good nm_in nm_out attr HQ1.out]
  go_enter Tryz.func48, Tryz.ntmps48
  go_wp2_with fail
  refine hp1.mono ?_
  rintro e w' ⟨rfl, rfl⟩
  clear hp1
  go_wp2_with fail
  refine hp2.mono ?_
  rintro e w' ⟨rfl, rfl⟩
  clear hp2
  go_wp2_with fail
  refine (refNames_any _).mono ?_
  rintro e w2 ⟨rfl, hw2⟩
  have HB2 : Hid (Below w.heap.size w w2) := by show Below _ _ _; rw [hw2]; exact (Below.refl _ _).alloc (Nat.le_refl _) _
  have HC2 : Hid (∀ (j : Nat) x, nm2T[j]? = some x → w2.cell? ⟨w.heap.size, j * 3, none⟩ = some (.string ⟨x.1.toArray⟩) ∧ w2.cell? ⟨w.heap.size, j * 3 + 1, none⟩ = some (.int .i32 x.2.1) ∧ w2.cell? ⟨w.heap.size, j * 3 + 2, none⟩ = some (.bool x.2.2)) := by
    intro j x hx
    have h := nm2Cells_at j x hx
    have hn : w2.heap[w.heap.size]? = some (.cells nm2Cells.toArray 92 (0, 0)) := by rw [hw2]; exact bN _ _
    exact ⟨by rw [blk_cell hn, List.getElem?_toArray]; exact h.1, by rw [blk_cell hn, List.getElem?_toArray]; exact h.2.1, by rw [blk_cell hn, List.getElem?_toArray]; exact h.2.2⟩
  clear hw2
  generalize hG : w.heap.size = G at *
  have HG := Lib.hid hG
  clear hG
  go_wp2_with fail
  go_loopg [11, 12, 13] 59 (fun g lo r i wr => ∃ (k : Nat) (LO : ByteArray) (R : Int), i = .int .i64 (k : Int) ∧ lo = .string LO ∧ r = .int .i32 R ∧ k + g = 59 ∧ wr = w2 ∧ LO.size ≤ 1000 ∧ Hid ((nm2T.take k).foldl (Tk.longer l) ([], 0) = (LO.data.toList, R)))
  case atStart => exact ⟨0, ⟨#[]⟩, 0, rfl, rfl, rfl, rfl, rfl, by decide, rfl⟩
  case round =>
    obtain ⟨k, LO, R, rfl, rfl, rfl, hkg, rfl, hLO, HS⟩ := hrel
    by_cases hk : k < 59
    · obtain ⟨g, rfl⟩ : ∃ g, gk = g + 1 := ⟨gk - 1, by omega⟩
      have hki : (k : Int) < 59 := by omega
      obtain ⟨x, hx⟩ : ∃ x, nm2T[k]? = some x := ⟨_, List.getElem?_eq_getElem (by rw [nm2_len]; exact hk)⟩
      obtain ⟨d0, d1, d2⟩ := HC2.out k x hx
      have hx8 := nm2_short x (List.mem_of_getElem? hx)
      have HST := Lib.hid (fold_step HS.out hx)
      clear hx HS
      obtain ⟨X, hX⟩ : ∃ X : ByteArray, (⟨x.1.toArray⟩ : ByteArray) = X := ⟨_, rfl⟩
      have HXD : Hid (X.data.toList = x.1) := by show _ = _; rw [← hX]
      have hXs : X.size ≤ 100 := by rw [Lib.size_eq, HXD.out]; exact hx8
      rw [hX] at d0
      clear hX hx8
      obtain ⟨T1, hT1⟩ : ∃ T1 : ByteArray, (⟨#[38]⟩ : ByteArray) ++ X = T1 := ⟨_, rfl⟩
      have HT1 : Hid (T1.data.toList = 38 :: x.1) := by show _ = _; rw [← hT1, ← HXD.out]; simp
      have hT1s : T1.size ≤ 101 := by rw [Lib.size_eq, HT1.out, ← HXD.out, List.length_cons, ← Lib.size_eq]; omega
      obtain ⟨T2, hT2⟩ : ∃ T2 : ByteArray, T1 ++ (⟨#[59]⟩ : ByteArray) = T2 := ⟨_, rfl⟩
      have HT2 : Hid (T2.data.toList = 38 :: x.1 ++ [59]) := by show _ = _; rw [← hT2, ← HT1.out]; simp
      have hT2s : T2.size ≤ 102 := by
        have h1 : T2.size = T1.size + 1 := by rw [Lib.size_eq, Lib.size_eq, HT2.out, HT1.out]; simp
        omega
      have b1 := refBegins3_any s T1 wr
      have b2 := refBegins3_any s T2 wr
      rw [HL.out, HT1.out] at b1
      rw [HL.out, HT2.out] at b2
      have HL1 : Hid (T1.size = x.1.length + 1) := by show _ = _; rw [Lib.size_eq, HT1.out]; simp
      have HL2 : Hid (T2.size = x.1.length + 2) := by show _ = _; rw [Lib.size_eq, HT2.out]; simp
      have HLO : Hid (LO.data.toList.length = LO.size) := (Lib.size_eq LO).symm
      cases p1 : Lib.hasPrefix l (38 :: x.1) with
      | false =>
        rw [p1] at b1
        have HN := Lib.hid (HST.out.trans (longer_none p1))
        clear p1 b2
        go_wp2_with fail
        refine b1.mono ?_
        rintro e w' ⟨rfl, rfl⟩
        clear b1
        go_wp2_with fail
        go_roundg g
        case measure => omega
        case rel => exact ⟨k + 1, LO, R, by simp, rfl, rfl, by omega, rfl, hLO, HN⟩
      | true =>
        rw [p1] at b1
        cases p2 : Lib.hasPrefix l (38 :: x.1 ++ [59]) with
        | true =>
          rw [p2] at b2
          have HN := Lib.hid (HST.out.trans (longer_semi p1 p2))
          clear p1 p2
          by_cases hlt : LO.size < T2.size
          · have hlti : (LO.size : Int) < (T2.size : Int) := by omega
            have HM : Hid ((nm2T.take (k + 1)).foldl (Tk.longer l) ([], 0) = (T2.data.toList, x.2.1)) := by
              show _ = _
              rw [HN.out, if_pos (by show LO.data.toList.length < _; rw [HLO.out]; have := HL2.out; omega), HT2.out]
            clear HN
            go_wp2_with fail
            refine b1.mono ?_
            rintro e w' ⟨rfl, rfl⟩
            clear b1
            go_wp2_with fail
            refine b2.mono ?_
            rintro e w' ⟨rfl, rfl⟩
            clear b2
            go_wp2_with fail
            go_roundg g
            case measure => omega
            case rel => exact ⟨k + 1, T2, x.2.1, by simp, rfl, rfl, by omega, rfl, by omega, HM⟩
          · have hlti : ¬ (LO.size : Int) < (T2.size : Int) := by omega
            have HM : Hid ((nm2T.take (k + 1)).foldl (Tk.longer l) ([], 0) = (LO.data.toList, R)) := by
              show _ = _
              rw [HN.out, if_neg (by show ¬ LO.data.toList.length < _; rw [HLO.out]; have := HL2.out; omega)]
            clear HN
            go_wp2_with fail
            refine b1.mono ?_
            rintro e w' ⟨rfl, rfl⟩
            clear b1
            go_wp2_with fail
            refine b2.mono ?_
            rintro e w' ⟨rfl, rfl⟩
            clear b2
            go_wp2_with fail
            go_roundg g
            case measure => omega
            case rel => exact ⟨k + 1, LO, R, by simp, rfl, rfl, by omega, rfl, hLO, HM⟩
        | false =>
          rw [p2] at b2
          obtain ⟨al, hal⟩ : ∃ al, x.2.2 = al := ⟨_, rfl⟩
          rw [hal] at d2
          cases al
          · have HN := Lib.hid (HST.out.trans (longer_bare p1 p2 hal))
            clear p1 p2 hal
            go_wp2_with fail
            refine b1.mono ?_
            rintro e w' ⟨rfl, rfl⟩
            clear b1
            go_wp2_with fail
            refine b2.mono ?_
            rintro e w' ⟨rfl, rfl⟩
            clear b2
            go_wp2_with fail
            go_roundg g
            case measure => omega
            case rel => exact ⟨k + 1, LO, R, by simp, rfl, rfl, by omega, rfl, hLO, HN⟩
          · have HN := Lib.hid (HST.out.trans (longer_alone p1 p2 hal))
            clear p1 p2 hal
            by_cases hlt : LO.size < T1.size
            · have hlti : (LO.size : Int) < (T1.size : Int) := by omega
              have HM : Hid ((nm2T.take (k + 1)).foldl (Tk.longer l) ([], 0) = (T1.data.toList, x.2.1)) := by
                show _ = _
                rw [HN.out, if_pos (by show LO.data.toList.length < _; rw [HLO.out]; have := HL1.out; omega), HT1.out]
              clear HN
              go_wp2_with fail
              refine b1.mono ?_
              rintro e w' ⟨rfl, rfl⟩
              clear b1
              go_wp2_with fail
              refine b2.mono ?_
              rintro e w' ⟨rfl, rfl⟩
              clear b2
              go_wp2_with fail
              go_roundg g
              case measure => omega
              case rel => exact ⟨k + 1, T1, x.2.1, by simp, rfl, rfl, by omega, rfl, by omega, HM⟩
            · have hlti : ¬ (LO.size : Int) < (T1.size : Int) := by omega
              have HM : Hid ((nm2T.take (k + 1)).foldl (Tk.longer l) ([], 0) = (LO.data.toList, R)) := by
                show _ = _
                rw [HN.out, if_neg (by show ¬ LO.data.toList.length < _; rw [HLO.out]; have := HL1.out; omega)]
              clear HN
              go_wp2_with fail
              refine b1.mono ?_
              rintro e w' ⟨rfl, rfl⟩
              clear b1
              go_wp2_with fail
              refine b2.mono ?_
              rintro e w' ⟨rfl, rfl⟩
              clear b2
              go_wp2_with fail
              go_roundg g
              case measure => omega
              case rel => exact ⟨k + 1, LO, R, by simp, rfl, rfl, by omega, rfl, hLO, HM⟩
    · have hki : ¬ (k : Int) < 59 := by omega
      have HRES : Hid (Tk.find nmT otT attr l = if LO.size = 0 ∨ (attr = true ∧ LO.data.toList[LO.size - 1]? ≠ some 59 ∧ (l[LO.size]?).any (fun c => c == 61 || Tk.alnum c) = true) then none else some (R, LO.size)) := by
        show _ = _
        rw [HF.out]
        have h := HS.out
        rw [List.take_of_length_le (by rw [nm2_len]; omega)] at h
        unfold Tk.longest
        rw [h]; unfold Tk.lastly
        rw [← Lib.size_eq]
      clear HF HS
      by_cases hz : LO.size = 0
      · have hzb : ((LO.size : Int) == 0) = true := by rw [hz]; rfl
        have HR2 := Lib.hid (HRES.out.trans (if_pos (.inl hz)))
        clear hz
        go_wp2
        go_ret3
        exact ⟨ret_num (by rw [HR2.out]; rfl), by rw [HG.out]; exact HB2.out⟩
      have hzb : ((LO.size : Int) == 0) = false := by rw [beq_eq_false_iff_ne]; omega
      cases attr
      · have HR2 : Hid (Tk.find nmT otT false l = some (R, LO.size)) := HRES.out.trans (if_neg (by rintro (h | ⟨h, _⟩); exact hz h; cases h))
        clear hz
        go_wp2
        go_ret3
        exact ⟨ret_num (by rw [HR2.out]; rfl), by rw [HG.out]; exact HB2.out⟩
      have hsub : IntKind.i64.wrap ((LO.size : Int) - 1) = ((LO.size - 1 : Nat) : Int) := by rw [IntKind.wrap_i64]; omega
      have hl1 : LO.size - 1 < LO.size := by omega
      have hl1i : ((LO.size - 1 : Nat) : Int) < (LO.size : Int) := by omega
      obtain ⟨b, hb⟩ : ∃ b : UInt8, LO[LO.size - 1] = b := ⟨_, rfl⟩
      have HBL : Hid (LO.data.toList[LO.size - 1]? = some b) := by show _ = _; rw [← hb]; exact Lib.data_getElem? LO _ hl1
      cases h59 : ((b.toNat : Int) == 59) with
      | true =>
        have hb59 : b = 59 := by apply UInt8.toNat_inj.1; rw [beq_iff_eq] at h59; show b.toNat = 59; omega
        have HR2 : Hid (Tk.find nmT otT true l = some (R, LO.size)) := HRES.out.trans (if_neg (by
          rintro (h | ⟨_, h, _⟩)
          · exact hz h
          · exact h (by rw [HBL.out, hb59])))
        have hne : ((b.toNat : Int) != 59) = false := by rw [bne, h59]; rfl
        clear hz hb59
        go_wp2
        go_ret3
        exact ⟨ret_num (by rw [HR2.out]; rfl), by rw [HG.out]; exact HB2.out⟩
      | false =>
        have hb59 : b ≠ 59 := by intro e; rw [e] at h59; exact absurd h59 (by decide)
        have hne : ((b.toNat : Int) != 59) = true := by rw [bne, h59]; rfl
        by_cases hlt : LO.size < s.size
        · have hlti : (LO.size : Int) < (s.size : Int) := by omega
          obtain ⟨c, hc⟩ : ∃ c : UInt8, s[LO.size] = c := ⟨_, rfl⟩
          have HCL : Hid (l[LO.size]? = some c) := by show _ = _; rw [← hc, ← HL.out]; exact Lib.data_getElem? s _ hlt
          have h61 := u8_beq c 61 (by decide)
          cases hc61 : ((c.toNat : Int) == 61) with
          | true =>
            have HR2 : Hid (Tk.find nmT otT true l = none) := HRES.out.trans (if_pos (.inr ⟨rfl, by rw [HBL.out]; simpa using hb59, by
              rw [HCL.out]
              have : (c == 61) = true := h61.trans hc61
              simp only [Option.any_some, this, Bool.true_or]⟩))
            clear hz hb59 h61
            go_wp2
            go_ret3
            exact ⟨ret_num (by rw [HR2.out]; rfl), by rw [HG.out]; exact HB2.out⟩
          | false =>
            have hal := refAlnum_any c wr
            obtain ⟨q, hq⟩ : ∃ q, Tk.alnum c = q := ⟨_, rfl⟩
            rw [hq] at hal
            have hc' : (c == 61) = false := h61.trans hc61
            cases q
            · have HR2 : Hid (Tk.find nmT otT true l = some (R, LO.size)) := HRES.out.trans (if_neg (by
                rintro (h | ⟨_, _, h⟩)
                · exact hz h
                · rw [HCL.out] at h
                  simp only [Option.any_some, hc', hq, Bool.or_self] at h
                  cases h))
              clear hz hb59 h61 hq hc'
              go_wp2_with fail
              refine hal.mono ?_
              rintro e w' ⟨rfl, rfl⟩
              clear hal
              go_wp2
              go_ret3
              exact ⟨ret_num (by rw [HR2.out]; rfl), by rw [HG.out]; exact HB2.out⟩
            · have HR2 : Hid (Tk.find nmT otT true l = none) := HRES.out.trans (if_pos (.inr ⟨rfl, by rw [HBL.out]; simpa using hb59, by
                rw [HCL.out]
                simp only [Option.any_some, hq, Bool.or_true]⟩))
              clear hz hb59 h61 hq hc'
              go_wp2_with fail
              refine hal.mono ?_
              rintro e w' ⟨rfl, rfl⟩
              clear hal
              go_wp2
              go_ret3
              exact ⟨ret_num (by rw [HR2.out]; rfl), by rw [HG.out]; exact HB2.out⟩
        · have hlti : ¬ (LO.size : Int) < (s.size : Int) := by omega
          have HR2 : Hid (Tk.find nmT otT true l = some (R, LO.size)) := HRES.out.trans (if_neg (by
            rintro (h | ⟨_, _, h⟩)
            · exact hz h
            · rw [List.getElem?_eq_none (by have := HSZ.out; omega)] at h
              cases h))
          clear hz hb59
          go_wp2
          go_ret3
          exact ⟨ret_num (by rw [HR2.out]; rfl), by rw [HG.out]; exact HB2.out⟩
end Go.Proofs.YtaohdicilfabeaaGreatDoor

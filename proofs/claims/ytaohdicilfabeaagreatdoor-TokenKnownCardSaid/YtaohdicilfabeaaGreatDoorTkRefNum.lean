/- The answer's number (selvedgeref03), walked. -/
import Derived.Test.YtaohdicilfabeaaGreatDoorTkRefB
namespace Go.Proofs.YtaohdicilfabeaaGreatDoor
open Go.RowKit
set_option linter.unusedVariables false
set_option linter.unusedSimpArgs false

/-- A number that may not be is another one. -/
def fix0 (m : Int) : Int := if m = 0 ∨ Lib.validRune m = false then 65533 else m
theorem rep_len : repT.length = 27 := by decide +kernel
theorem rep_range : ∀ x ∈ repT, 128 ≤ x.1 ∧ x.1 ≤ 159 := by decide +kernel
theorem fix_mid : ∀ q : Fin 32, Tk.fixed otT (128 + (q.val : Int)) = (match repT.find? (fun x => x.1 = (128 + (q.val : Int))) with | some x => x.2 | none => 128 + (q.val : Int)) := by decide +kernel
theorem fix_mid0 : ∀ q : Fin 32, fix0 (128 + (q.val : Int)) = 128 + (q.val : Int) := by decide +kernel
theorem find_out {n : Int} (h : ¬ (128 ≤ n ∧ n ≤ 159)) : repT.find? (fun x => x.1 = n) = none := by
  rw [List.find?_eq_none]
  intro x hx
  have := rep_range x hx
  simp; omega
theorem fixed_rep (m : Int) : Tk.fixed otT m = (match repT.find? (fun x => x.1 = fix0 m) with | some x => x.2 | none => fix0 m) := by
  by_cases hb : m = 0 ∨ Lib.validRune m = false
  · have h1 : Tk.fixed otT m = 65533 := if_pos hb
    have h2 : fix0 m = 65533 := if_pos hb
    rw [h1, h2, find_out (by decide)]
  · by_cases hr : 128 ≤ m ∧ m ≤ 159
    · obtain ⟨q, hq⟩ : ∃ q : Fin 32, m = 128 + (q.val : Int) := ⟨⟨(m - 128).toNat, by omega⟩, by simp; omega⟩
      subst hq
      rw [fix_mid0, fix_mid]
    · have h2 : fix0 m = m := if_neg hb
      have h1 : Tk.fixed otT m = m := by
        unfold Tk.fixed
        rw [if_neg hb, if_neg (fun h => hr ⟨h.1, h.2.1⟩)]
      rw [h1, h2, find_out hr]
theorem repCells_at (k : Nat) (x : Int × Int) (h : repT[k]? = some x) : repCells[k * 2]? = some (.int .i32 x.1) ∧ repCells[k * 2 + 1]? = some (.int .i32 x.2) := by
  have gen : ∀ (l : List (Int × Int)) (k : Nat), l[k]? = some x → (l.flatMap fun x => [Value.int .i32 x.1, .int .i32 x.2])[k * 2]? = some (.int .i32 x.1) ∧ (l.flatMap fun x => [Value.int .i32 x.1, .int .i32 x.2])[k * 2 + 1]? = some (.int .i32 x.2) := by
    intro l
    induction l with
    | nil => intro k h; simp at h
    | cons a l ih =>
      intro k h
      cases k with
      | zero => simp at h; subst h; exact ⟨rfl, rfl⟩
      | succ k =>
        have := ih k (by simpa using h)
        have e1 : (k + 1) * 2 = k * 2 + 1 + 1 := by omega
        rw [e1, List.flatMap_cons]
        exact ⟨by simpa using this.1, by simpa using this.2⟩
  exact gen repT k h
theorem rep_hit {n : Int} {k : Nat} {x : Int × Int} (hk : repT[k]? = some x) (hx : x.1 = n) (hn : ∀ (j : Nat) y, j < k → repT[j]? = some y → y.1 ≠ n) : repT.find? (fun x => x.1 = n) = some x := by
  have gen : ∀ (l : List (Int × Int)) (k : Nat), l[k]? = some x → (∀ (j : Nat) y, j < k → l[j]? = some y → y.1 ≠ n) → l.find? (fun x => x.1 = n) = some x := by
    intro l
    induction l with
    | nil => intro k h _; simp at h
    | cons a l ih =>
      intro k h hn
      cases k with
      | zero => simp at h; subst h; rw [List.find?_cons]; simp [hx]
      | succ k =>
        have h0 := hn 0 a (by omega) rfl
        rw [List.find?_cons]
        simp only [h0, decide_false]
        exact ih k (by simpa using h) (fun j y hj hy => hn (j + 1) y (by omega) (by simpa using hy))
  exact gen repT k hk hn
theorem rep_miss {n : Int} (hn : ∀ (j : Nat) y, j < 27 → repT[j]? = some y → y.1 ≠ n) : repT.find? (fun x => x.1 = n) = none := by
  rw [List.find?_eq_none]
  intro x hx
  obtain ⟨j, hj⟩ := List.getElem?_of_mem hx
  have := hn j x (by have := (List.getElem?_eq_some_iff.1 hj).1; rw [rep_len] at this; exact this) hj
  simpa using this
theorem trim_semi {l : List UInt8} {k : Nat} (hk : k ≤ l.length) : l.length - (Lib.trimPrefix (l.drop k) [59]).length = if l[k]? = some 59 then k + 1 else k := by
  unfold Lib.trimPrefix
  rw [hasPrefix_one]
  by_cases h : l[k]? = some 59
  · have hlt := (List.getElem?_eq_some_iff.1 h).1
    rw [h]; simp; omega
  · rw [if_neg h]
    have : (l[k]? == some 59) = false := by simpa using h
    rw [this]; simp; omega
theorem pre_len1 {l : List UInt8} {c : UInt8} (h : Lib.hasPrefix l [c] = true) : 1 ≤ l.length := (List.isPrefixOf_iff_prefix.1 h).length_le
theorem hexOr_lt {c : UInt8} {b x : Int} (hx : Tk.hex c = x) (h : x < 16) : hexOr c = x := by unfold hexOr; rw [hx, if_pos h]
theorem hexOr_ge {c : UInt8} {x : Int} (hx : Tk.hex c = x) (h : ¬ x < 16) : hexOr c = -1 := by unfold hexOr; rw [hx, if_neg h]
theorem valid_ints {m : Int} (h0 : 0 ≤ m) (h1 : m ≤ 1114112) : (m = 0 ∧ fix0 m = 65533) ∨ (m ≠ 0 ∧ 1114111 < m ∧ fix0 m = 65533) ∨ (m ≠ 0 ∧ m ≤ 1114111 ∧ 55296 ≤ m ∧ m ≤ 57343 ∧ fix0 m = 65533) ∨ (m ≠ 0 ∧ m ≤ 1114111 ∧ (m < 55296 ∨ 57343 < m) ∧ fix0 m = m) := by
  by_cases hm : m = 0
  · exact .inl ⟨hm, if_pos (.inl hm)⟩
  · right
    by_cases hv : Lib.validRune m = true
    · have e : fix0 m = m := if_neg (by rintro (h | h); exact hm h; rw [hv] at h; cases h)
      unfold Lib.validRune at hv
      simp at hv
      right; right
      exact ⟨hm, by omega, by omega, e⟩
    · have hv' : Lib.validRune m = false := by simpa using hv
      have e : fix0 m = 65533 := if_pos (.inr hv')
      unfold Lib.validRune at hv
      simp at hv
      by_cases h2 : 1114111 < m
      · exact .inl ⟨hm, h2, e⟩
      · exact .inr (.inl ⟨hm, by omega, by omega, by omega, e⟩)

set_option maxRecDepth 100000 in
set_option maxHeartbeats 8000000 in
theorem refNumber_any (t : ByteArray) (l : List UInt8) (hl : t.data.toList = l) (w : World) (hs : t.size ≤ 1000000) :
    Calls Tryz.prog 72 #[.string t] w fun e w' => e = .returned (numRes (Tk.number otT l)) ∧ Below w.heap.size w w' := by
  have HL := Lib.hid hl
  have HSZ : Hid (l.length = t.size) := by show _ = _; rw [← hl, ← Lib.size_eq]
  have hp1 := refBegins3_any t ⟨#[120]⟩ w
  have hp2 := refBegins3_any t ⟨#[88]⟩ w
  rw [hl] at hp1 hp2
  obtain ⟨q1, hq1⟩ : ∃ q, Lib.hasPrefix l ([120] : List UInt8) = q := ⟨_, rfl⟩
  obtain ⟨q2, hq2⟩ : ∃ q, Lib.hasPrefix l ([88] : List UInt8) = q := ⟨_, rfl⟩
  have e1 : Lib.hasPrefix l (⟨#[120]⟩ : ByteArray).data.toList = q1 := hq1
  have e2 : Lib.hasPrefix l (⟨#[88]⟩ : ByteArray).data.toList = q2 := hq2
  rw [e1] at hp1
  rw [e2] at hp2
  have HH : Hid (Tk.hexed l = (q1 || q2)) := by show _ = _; unfold Tk.hexed; rw [hq1, hq2]
  have HX1 : Hid (q1 = true ∨ q2 = true → 1 ≤ l.length) := by
    rintro (h | h)
    · subst h; exact pre_len1 hq1
    · subst h; exact pre_len1 hq2
  clear e1 e2 hq1 hq2 hl
  cases q1
  · cases q2
    · have HRES : Hid (Tk.number otT l = Tk.numberAt otT l l 10) := by show _ = _; unfold Tk.number; rw [HH.out]; rfl
      have hfr : 0 ≤ t.size := by omega
      have HLL : Hid (l.length = t.size - 0) := by show _ = _; have := HSZ.out; omega
      clear HX1
      go_enter Tryz.func72, Tryz.ntmps72
      go_wp2_with fail
      refine hp1.mono ?_
      rintro e w' ⟨rfl, rfl⟩
      clear hp1
      go_wp2_with fail
      refine hp2.mono ?_
      rintro e w' ⟨rfl, rfl⟩
      clear hp2
      go_upto_block 0 with (fail)
      go_cut [6, 8] (fun a n wx => wx = w ∧ ∃ (k : Nat) (m : Int), a = .int .i64 (k : Int) ∧ n = .int .i32 m ∧ 0 ≤ k ∧ k ≤ t.size ∧ 0 ≤ m ∧ m ≤ 1114112 ∧ Hid (Tk.digits 10 l 0 = (k - 0, m)))
      case first =>
        go_wp2_with fail
        go_loopg [6, 8] (t.size - 0) (fun g a n wr => wr = w ∧ ∃ (k : Nat) (m : Int), a = .int .i64 (k : Int) ∧ n = .int .i32 m ∧ 0 ≤ k ∧ k + g = t.size ∧ 0 ≤ m ∧ m ≤ 1114112 ∧ Hid (Dig 10 l (k - 0) m))
        case atStart => exact ⟨rfl, 0, 0, rfl, rfl, Nat.le_refl _, by omega, by omega, by omega, Dig.zero _ _⟩
        case round =>
          obtain ⟨rfl, k, m, rfl, rfl, hfk, hkg, hm0, hm1, HD⟩ := hrel
          by_cases hk : k < t.size
          · obtain ⟨g, rfl⟩ : ∃ g, gk = g + 1 := ⟨gk - 1, by omega⟩
            have hki : (k : Int) < (t.size : Int) := by omega
            obtain ⟨c, hc⟩ : ∃ c : UInt8, t[k] = c := ⟨_, rfl⟩
            have hkL : k - 0 < l.length := by have := HLL.out; omega
            have hcL : Hid (l[k - 0] = c) := by
              show l[k - 0] = c
              have h1 : l[k]? = some c := by rw [← hc, ← HL.out]; exact Lib.data_getElem? t k hk
              have h2 : l[k - 0]? = some c := by exact h1
              rw [List.getElem?_eq_getElem hkL] at h2
              injection h2
            have hr := hex_range c
            obtain ⟨x, hx⟩ : ∃ x, Tk.hex c = x := ⟨_, rfl⟩
            have HX := Lib.hid hx
            rw [hx] at hr
            clear hx
            by_cases hlt : x < 10
            · have HD2 := Lib.hid (HD.out.step hkL hcL.out (by rw [HX.out]; exact hlt))
              rw [HX.out] at HD2
              have HXO : Hid (hexOr c = x) := hexOr_lt (b := 10) HX.out (by omega)
              have hmm : m * 10 + x ≤ 17825808 := by omega
              have hmm0 : 0 ≤ m * 10 + x := by omega
              clear HD
              go_wp2_with (go_at_call 92; refine (refDigit3_any c _).mono ?_; rintro e w' ⟨rfl, rfl⟩; rw [HXO.out])
              go_roundg g
              case measure => omega
              case rel => exact ⟨rfl, k + 1, min (m * 10 + x) 1114112, by simp, rfl, by omega, by omega, by omega, by omega, by have e : k + 1 - 0 = k - 0 + 1 := (by omega); rw [e]; exact HD2⟩
            · have HD2 := Lib.hid (HD.out.stop (.inr ⟨hkL, by rw [hcL.out, HX.out]; exact hlt⟩))
              clear HD
              by_cases h16 : x < 16
              · have HXO : Hid (hexOr c = x) := hexOr_lt (b := 16) HX.out h16
                have hx0 : 0 ≤ x := hr.1
                go_wp2_with (go_at_call 92; refine (refDigit3_any c _).mono ?_; rintro e w' ⟨rfl, rfl⟩; rw [HXO.out])
                go_meet
                exact ⟨rfl, k, m, rfl, rfl, hfk, by omega, hm0, hm1, HD2⟩
              · have HXO : Hid (hexOr c = -1) := hexOr_ge HX.out h16
                go_wp2_with (go_at_call 92; refine (refDigit3_any c _).mono ?_; rintro e w' ⟨rfl, rfl⟩; rw [HXO.out])
                go_meet
                exact ⟨rfl, k, m, rfl, rfl, hfk, by omega, hm0, hm1, HD2⟩
          · have hki : ¬ (k : Int) < (t.size : Int) := by omega
            have HD2 := Lib.hid (HD.out.stop (.inl (by have := HLL.out; omega)))
            clear HD
            go_wp2_with fail
            go_meet
            exact ⟨rfl, k, m, rfl, rfl, hfk, by omega, hm0, hm1, HD2⟩
      case rest =>
        obtain ⟨rfl, k, m, rfl, rfl, hfk, hks, hm0, hm1, HD⟩ := hcut
        by_cases h0 : k = 0
        · subst h0
          have hres : Hid (Tk.number otT l = none) := HRES.out.trans (by unfold Tk.numberAt; rw [HD.out]; rfl)
          go_wp2
          go_ret3
          exact ⟨ret_num (by rw [hres.out]; rfl), Below.refl _ _⟩
        · have h0b : ((k : Int) == 0) = false := by rw [beq_eq_false_iff_ne]; omega
          have hres : Hid (Tk.number otT l = some (Tk.fixed otT m, if l[k]? = some 59 then k + 1 else k)) := by
            refine HRES.out.trans ?_
            unfold Tk.numberAt; rw [HD.out]
            have e0 : ¬ k - 0 = 0 := by omega
            show (if k - 0 = 0 then _ else _) = _
            rw [if_neg e0]
            have e : l.drop (k - 0) = l.drop k := by rfl
            show some (_, l.length - (Lib.trimPrefix (l.drop (k - 0)) [59]).length) = _
            rw [e, trim_semi (by have := HSZ.out; omega)]
          clear h0
          obtain ⟨N, hN⟩ : ∃ N : Nat, (if l[k]? = some 59 then k + 1 else k) = N := ⟨_, rfl⟩
          rw [hN] at hres
          have hNs : N ≤ 1000001 := by rw [← hN]; split <;> omega
          have HN := Lib.hid hN
          clear hN
          obtain ⟨B1, hB1⟩ : ∃ B1 : Bool, decide (l[k]? = some 59) = B1 := ⟨_, rfl⟩
          have HB1 := Lib.hid hB1
          clear hB1
          go_upto_region 11 with (fail)
          go_cut [60] (fun b wx => wx = wc ∧ b = .bool B1)
          case first =>
            by_cases hk : k < t.size
            · have hki : (k : Int) < (t.size : Int) := by omega
              obtain ⟨c, hc⟩ : ∃ c : UInt8, t[k] = c := ⟨_, rfl⟩
              have h1 : l[k]? = some c := by rw [← hc, ← HL.out]; exact Lib.data_getElem? t k hk
              have hB : B1 = ((c.toNat : Int) == 59) := by
                rw [← HB1.out, h1, Bool.eq_iff_iff, decide_eq_true_eq, beq_iff_eq]
                constructor
                · intro h; cases h; rfl
                · intro h; congr 1; apply UInt8.toNat_inj.1; show c.toNat = 59; omega
              clear h1
              subst hB
              go_wp2_with fail
              go_meet
              exact ⟨rfl, rfl⟩
            · have hki : ¬ (k : Int) < (t.size : Int) := by omega
              have hB : B1 = false := by
                rw [← HB1.out, List.getElem?_eq_none (by have := HSZ.out; omega)]; rfl
              subst hB
              go_wp2_with fail
              go_meet
              exact ⟨rfl, rfl⟩
          obtain ⟨rfl, rfl⟩ := hcut
          go_upto_if 60 with (fail)
          go_cut [6] (fun a wx => wx = wc ∧ a = .int .i64 (N : Int))
          case first =>
            cases B1
            · have hN2 : N = k := by
                rw [← HN.out, if_neg (by have := HB1.out; simpa using this)]
              subst hN2
              go_wp2_with fail
              go_meet
              exact ⟨rfl, rfl⟩
            · have hN2 : N = k + 1 := by
                rw [← HN.out, if_pos (by have := HB1.out; simpa using this)]
              subst hN2
              go_wp2_with fail
              go_meet
              exact ⟨rfl, by simp⟩
          case rest =>
            obtain ⟨rfl, rfl⟩ := hcut
            have HV := Lib.hid (valid_ints hm0 hm1)
            have HFX := Lib.hid (fixed_rep m)
            obtain ⟨M, hM⟩ : ∃ M, fix0 m = M := ⟨_, rfl⟩
            rw [hM] at HFX HV
            clear hM
            go_upto_region 13 with (fail)
            go_cut [76] (fun b wx => wx = wc ∧ ∃ B2 : Bool, b = .bool B2 ∧ (B2 = true → M = 65533) ∧ (B2 = false → M = m))
            case first =>
              rcases HV.out with ⟨a1, a2⟩ | ⟨a1, a2, a3⟩ | ⟨a1, a2, a3, a4, a5⟩ | ⟨a1, a2, a3, a4⟩
              · subst a1
                go_wp2_with fail
                go_meet
                exact ⟨rfl, true, rfl, fun _ => a2, fun h => by cases h⟩
              · have b1 : (m == 0) = false := by simpa using a1
                clear a1
                go_wp2_with fail
                go_meet
                exact ⟨rfl, true, rfl, fun _ => a3, fun h => by cases h⟩
              · have b1 : (m == 0) = false := by simpa using a1
                have b2 : ¬ 1114111 < m := by omega
                clear a1
                go_wp2_with fail
                go_meet
                exact ⟨rfl, true, rfl, fun _ => a5, fun h => by cases h⟩
              · have b1 : (m == 0) = false := by simpa using a1
                have b2 : ¬ 1114111 < m := by omega
                clear a1
                rcases a3 with a3 | a3
                all_goals (go_wp2_with fail; go_meet)
                all_goals exact ⟨rfl, false, (by first | rfl | (simp; omega)), (fun h => by cases h), fun _ => a4⟩
            obtain ⟨rfl, B2, rfl, hB2, hB2'⟩ := hcut
            go_upto_if 76 with (fail)
            go_cut [8] (fun a wx => wx = wc ∧ a = .int .i32 M)
            case first =>
              cases B2
              · obtain rfl := hB2' rfl
                clear hB2 hB2'
                go_wp2_with fail
                go_meet
                exact ⟨rfl, rfl⟩
              · obtain rfl := hB2 rfl
                clear hB2 hB2'
                go_wp2_with fail
                go_meet
                exact ⟨rfl, rfl⟩
            case rest =>
              obtain ⟨rfl, rfl⟩ := hcut
              clear HV HD HRES
              go_wp2_with fail
              refine (refReplaced_any _).mono ?_
              rintro e w2 ⟨rfl, hw2⟩
              have HB2 : Hid (Below wc.heap.size wc w2) := by show Below _ _ _; rw [hw2]; exact (Below.refl _ _).alloc (Nat.le_refl _) _
              have HC2 : Hid (∀ (j : Nat) x, repT[j]? = some x → w2.cell? ⟨wc.heap.size, j * 2, none⟩ = some (.int .i32 x.1) ∧ w2.cell? ⟨wc.heap.size, j * 2 + 1, none⟩ = some (.int .i32 x.2)) := by
                intro j x hx
                have h := repCells_at j x hx
                have hn : w2.heap[wc.heap.size]? = some (.cells repCells.toArray 111 (0, 0)) := by rw [hw2]; exact bN _ _
                exact ⟨by rw [blk_cell hn, List.getElem?_toArray]; exact h.1, by rw [blk_cell hn, List.getElem?_toArray]; exact h.2⟩
              clear hw2
              generalize hG : wc.heap.size = G at *
              have HG := Lib.hid hG
              clear hG
              go_wp2_with fail
              go_loopg [10] 27 (fun g i wr => ∃ j : Nat, i = .int .i64 (j : Int) ∧ j + g = 27 ∧ wr = w2 ∧ Hid (∀ (i : Nat) y, i < j → repT[i]? = some y → y.1 ≠ M))
              case atStart => exact ⟨0, rfl, rfl, rfl, fun i y hi _ => by omega⟩
              case round =>
                obtain ⟨j, rfl, hjg, rfl, HM⟩ := hrel
                by_cases hj : j < 27
                · obtain ⟨g, rfl⟩ : ∃ g, gk = g + 1 := ⟨gk - 1, by omega⟩
                  have hji : (j : Int) < 27 := by omega
                  obtain ⟨x, hx⟩ : ∃ x, repT[j]? = some x := ⟨_, List.getElem?_eq_getElem (by rw [rep_len]; exact hj)⟩
                  obtain ⟨d0, d1⟩ := HC2.out j x hx
                  have HXJ := Lib.hid hx
                  clear hx
                  by_cases he : x.1 = M
                  · have heb : (x.1 == M) = true := by simpa using he
                    have hfx : Hid (Tk.fixed otT m = x.2) := by show _ = _; rw [HFX.out, rep_hit HXJ.out he HM.out]
                    rw [hfx.out] at hres
                    clear he hfx
                    go_wp2
                    go_ret3
                    exact ⟨ret_num (by rw [hres.out]; rfl), by rw [HG.out]; exact HB2.out⟩
                  · have heb : (x.1 == M) = false := by simpa using he
                    have HM2 : Hid (∀ (i : Nat) y, i < j + 1 → repT[i]? = some y → y.1 ≠ M) := by
                      intro i y hi hy
                      rcases Nat.lt_or_ge i j with h | h
                      · exact HM.out i y h hy
                      · obtain rfl : i = j := by omega
                        rw [HXJ.out] at hy; cases hy; exact he
                    clear he HM
                    go_wp2_with fail
                    go_roundg g
                    case measure => omega
                    case rel => exact ⟨j + 1, by simp, by omega, rfl, HM2⟩
                · have hji : ¬ (j : Int) < 27 := by omega
                  have hfx : Hid (Tk.fixed otT m = M) := by show _ = _; rw [HFX.out, rep_miss (fun i y hi hy => HM.out i y (by omega) hy)]
                  rw [hfx.out] at hres
                  clear hfx
                  go_wp2
                  go_ret3
                  exact ⟨ret_num (by rw [hres.out]; rfl), by rw [HG.out]; exact HB2.out⟩
    · have HRES : Hid (Tk.number otT l = Tk.numberAt otT l (l.drop 1) 16) := by show _ = _; unfold Tk.number; rw [HH.out]; rfl
      have hfr : 1 ≤ t.size := by have := HX1.out (by simp); have := HSZ.out; omega
      have HLL : Hid ((l.drop 1).length = t.size - 1) := by show _ = _; have := HSZ.out; rw [List.length_drop]; omega
      clear HX1
      go_enter Tryz.func72, Tryz.ntmps72
      go_wp2_with fail
      refine hp1.mono ?_
      rintro e w' ⟨rfl, rfl⟩
      clear hp1
      go_wp2_with fail
      refine hp2.mono ?_
      rintro e w' ⟨rfl, rfl⟩
      clear hp2
      go_upto_block 0 with (fail)
      go_cut [6, 8] (fun a n wx => wx = w ∧ ∃ (k : Nat) (m : Int), a = .int .i64 (k : Int) ∧ n = .int .i32 m ∧ 1 ≤ k ∧ k ≤ t.size ∧ 0 ≤ m ∧ m ≤ 1114112 ∧ Hid (Tk.digits 16 (l.drop 1) 0 = (k - 1, m)))
      case first =>
        go_wp2_with fail
        go_loopg [6, 8] (t.size - 1) (fun g a n wr => wr = w ∧ ∃ (k : Nat) (m : Int), a = .int .i64 (k : Int) ∧ n = .int .i32 m ∧ 1 ≤ k ∧ k + g = t.size ∧ 0 ≤ m ∧ m ≤ 1114112 ∧ Hid (Dig 16 (l.drop 1) (k - 1) m))
        case atStart => exact ⟨rfl, 1, 0, rfl, rfl, Nat.le_refl _, by omega, by omega, by omega, Dig.zero _ _⟩
        case round =>
          obtain ⟨rfl, k, m, rfl, rfl, hfk, hkg, hm0, hm1, HD⟩ := hrel
          by_cases hk : k < t.size
          · obtain ⟨g, rfl⟩ : ∃ g, gk = g + 1 := ⟨gk - 1, by omega⟩
            have hki : (k : Int) < (t.size : Int) := by omega
            obtain ⟨c, hc⟩ : ∃ c : UInt8, t[k] = c := ⟨_, rfl⟩
            have hkL : k - 1 < (l.drop 1).length := by have := HLL.out; omega
            have hcL : Hid ((l.drop 1)[k - 1] = c) := by
              show (l.drop 1)[k - 1] = c
              have h1 : l[k]? = some c := by rw [← hc, ← HL.out]; exact Lib.data_getElem? t k hk
              have h2 : (l.drop 1)[k - 1]? = some c := by rw [List.getElem?_drop]; have e : 1 + (k - 1) = k := (by omega); rw [e]; exact h1
              rw [List.getElem?_eq_getElem hkL] at h2
              injection h2
            have hr := hex_range c
            obtain ⟨x, hx⟩ : ∃ x, Tk.hex c = x := ⟨_, rfl⟩
            have HX := Lib.hid hx
            rw [hx] at hr
            clear hx
            by_cases hlt : x < 16
            · have HD2 := Lib.hid (HD.out.step hkL hcL.out (by rw [HX.out]; exact hlt))
              rw [HX.out] at HD2
              have HXO : Hid (hexOr c = x) := hexOr_lt (b := 16) HX.out (by omega)
              have hmm : m * 16 + x ≤ 17825808 := by omega
              have hmm0 : 0 ≤ m * 16 + x := by omega
              clear HD
              go_wp2_with (go_at_call 92; refine (refDigit3_any c _).mono ?_; rintro e w' ⟨rfl, rfl⟩; rw [HXO.out])
              go_roundg g
              case measure => omega
              case rel => exact ⟨rfl, k + 1, min (m * 16 + x) 1114112, by simp, rfl, by omega, by omega, by omega, by omega, by have e : k + 1 - 1 = k - 1 + 1 := (by omega); rw [e]; exact HD2⟩
            · have HD2 := Lib.hid (HD.out.stop (.inr ⟨hkL, by rw [hcL.out, HX.out]; exact hlt⟩))
              clear HD
              by_cases h16 : x < 16
              · exact absurd h16 hlt
              · have HXO : Hid (hexOr c = -1) := hexOr_ge HX.out h16
                go_wp2_with (go_at_call 92; refine (refDigit3_any c _).mono ?_; rintro e w' ⟨rfl, rfl⟩; rw [HXO.out])
                go_meet
                exact ⟨rfl, k, m, rfl, rfl, hfk, by omega, hm0, hm1, HD2⟩
          · have hki : ¬ (k : Int) < (t.size : Int) := by omega
            have HD2 := Lib.hid (HD.out.stop (.inl (by have := HLL.out; omega)))
            clear HD
            go_wp2_with fail
            go_meet
            exact ⟨rfl, k, m, rfl, rfl, hfk, by omega, hm0, hm1, HD2⟩
      case rest =>
        obtain ⟨rfl, k, m, rfl, rfl, hfk, hks, hm0, hm1, HD⟩ := hcut
        by_cases h0 : k = 1
        · subst h0
          have hres : Hid (Tk.number otT l = none) := HRES.out.trans (by unfold Tk.numberAt; rw [HD.out]; rfl)
          go_wp2
          go_ret3
          exact ⟨ret_num (by rw [hres.out]; rfl), Below.refl _ _⟩
        · have h0b : ((k : Int) == 1) = false := by rw [beq_eq_false_iff_ne]; omega
          have hres : Hid (Tk.number otT l = some (Tk.fixed otT m, if l[k]? = some 59 then k + 1 else k)) := by
            refine HRES.out.trans ?_
            unfold Tk.numberAt; rw [HD.out]
            have e0 : ¬ k - 1 = 0 := by omega
            show (if k - 1 = 0 then _ else _) = _
            rw [if_neg e0]
            have e : (l.drop 1).drop (k - 1) = l.drop k := by rw [List.drop_drop]; congr 1; omega
            show some (_, l.length - (Lib.trimPrefix ((l.drop 1).drop (k - 1)) [59]).length) = _
            rw [e, trim_semi (by have := HSZ.out; omega)]
          clear h0
          obtain ⟨N, hN⟩ : ∃ N : Nat, (if l[k]? = some 59 then k + 1 else k) = N := ⟨_, rfl⟩
          rw [hN] at hres
          have hNs : N ≤ 1000001 := by rw [← hN]; split <;> omega
          have HN := Lib.hid hN
          clear hN
          obtain ⟨B1, hB1⟩ : ∃ B1 : Bool, decide (l[k]? = some 59) = B1 := ⟨_, rfl⟩
          have HB1 := Lib.hid hB1
          clear hB1
          go_upto_region 11 with (fail)
          go_cut [60] (fun b wx => wx = wc ∧ b = .bool B1)
          case first =>
            by_cases hk : k < t.size
            · have hki : (k : Int) < (t.size : Int) := by omega
              obtain ⟨c, hc⟩ : ∃ c : UInt8, t[k] = c := ⟨_, rfl⟩
              have h1 : l[k]? = some c := by rw [← hc, ← HL.out]; exact Lib.data_getElem? t k hk
              have hB : B1 = ((c.toNat : Int) == 59) := by
                rw [← HB1.out, h1, Bool.eq_iff_iff, decide_eq_true_eq, beq_iff_eq]
                constructor
                · intro h; cases h; rfl
                · intro h; congr 1; apply UInt8.toNat_inj.1; show c.toNat = 59; omega
              clear h1
              subst hB
              go_wp2_with fail
              go_meet
              exact ⟨rfl, rfl⟩
            · have hki : ¬ (k : Int) < (t.size : Int) := by omega
              have hB : B1 = false := by
                rw [← HB1.out, List.getElem?_eq_none (by have := HSZ.out; omega)]; rfl
              subst hB
              go_wp2_with fail
              go_meet
              exact ⟨rfl, rfl⟩
          obtain ⟨rfl, rfl⟩ := hcut
          go_upto_if 60 with (fail)
          go_cut [6] (fun a wx => wx = wc ∧ a = .int .i64 (N : Int))
          case first =>
            cases B1
            · have hN2 : N = k := by
                rw [← HN.out, if_neg (by have := HB1.out; simpa using this)]
              subst hN2
              go_wp2_with fail
              go_meet
              exact ⟨rfl, rfl⟩
            · have hN2 : N = k + 1 := by
                rw [← HN.out, if_pos (by have := HB1.out; simpa using this)]
              subst hN2
              go_wp2_with fail
              go_meet
              exact ⟨rfl, by simp⟩
          case rest =>
            obtain ⟨rfl, rfl⟩ := hcut
            have HV := Lib.hid (valid_ints hm0 hm1)
            have HFX := Lib.hid (fixed_rep m)
            obtain ⟨M, hM⟩ : ∃ M, fix0 m = M := ⟨_, rfl⟩
            rw [hM] at HFX HV
            clear hM
            go_upto_region 13 with (fail)
            go_cut [76] (fun b wx => wx = wc ∧ ∃ B2 : Bool, b = .bool B2 ∧ (B2 = true → M = 65533) ∧ (B2 = false → M = m))
            case first =>
              rcases HV.out with ⟨a1, a2⟩ | ⟨a1, a2, a3⟩ | ⟨a1, a2, a3, a4, a5⟩ | ⟨a1, a2, a3, a4⟩
              · subst a1
                go_wp2_with fail
                go_meet
                exact ⟨rfl, true, rfl, fun _ => a2, fun h => by cases h⟩
              · have b1 : (m == 0) = false := by simpa using a1
                clear a1
                go_wp2_with fail
                go_meet
                exact ⟨rfl, true, rfl, fun _ => a3, fun h => by cases h⟩
              · have b1 : (m == 0) = false := by simpa using a1
                have b2 : ¬ 1114111 < m := by omega
                clear a1
                go_wp2_with fail
                go_meet
                exact ⟨rfl, true, rfl, fun _ => a5, fun h => by cases h⟩
              · have b1 : (m == 0) = false := by simpa using a1
                have b2 : ¬ 1114111 < m := by omega
                clear a1
                rcases a3 with a3 | a3
                all_goals (go_wp2_with fail; go_meet)
                all_goals exact ⟨rfl, false, (by first | rfl | (simp; omega)), (fun h => by cases h), fun _ => a4⟩
            obtain ⟨rfl, B2, rfl, hB2, hB2'⟩ := hcut
            go_upto_if 76 with (fail)
            go_cut [8] (fun a wx => wx = wc ∧ a = .int .i32 M)
            case first =>
              cases B2
              · obtain rfl := hB2' rfl
                clear hB2 hB2'
                go_wp2_with fail
                go_meet
                exact ⟨rfl, rfl⟩
              · obtain rfl := hB2 rfl
                clear hB2 hB2'
                go_wp2_with fail
                go_meet
                exact ⟨rfl, rfl⟩
            case rest =>
              obtain ⟨rfl, rfl⟩ := hcut
              clear HV HD HRES
              go_wp2_with fail
              refine (refReplaced_any _).mono ?_
              rintro e w2 ⟨rfl, hw2⟩
              have HB2 : Hid (Below wc.heap.size wc w2) := by show Below _ _ _; rw [hw2]; exact (Below.refl _ _).alloc (Nat.le_refl _) _
              have HC2 : Hid (∀ (j : Nat) x, repT[j]? = some x → w2.cell? ⟨wc.heap.size, j * 2, none⟩ = some (.int .i32 x.1) ∧ w2.cell? ⟨wc.heap.size, j * 2 + 1, none⟩ = some (.int .i32 x.2)) := by
                intro j x hx
                have h := repCells_at j x hx
                have hn : w2.heap[wc.heap.size]? = some (.cells repCells.toArray 111 (0, 0)) := by rw [hw2]; exact bN _ _
                exact ⟨by rw [blk_cell hn, List.getElem?_toArray]; exact h.1, by rw [blk_cell hn, List.getElem?_toArray]; exact h.2⟩
              clear hw2
              generalize hG : wc.heap.size = G at *
              have HG := Lib.hid hG
              clear hG
              go_wp2_with fail
              go_loopg [10] 27 (fun g i wr => ∃ j : Nat, i = .int .i64 (j : Int) ∧ j + g = 27 ∧ wr = w2 ∧ Hid (∀ (i : Nat) y, i < j → repT[i]? = some y → y.1 ≠ M))
              case atStart => exact ⟨0, rfl, rfl, rfl, fun i y hi _ => by omega⟩
              case round =>
                obtain ⟨j, rfl, hjg, rfl, HM⟩ := hrel
                by_cases hj : j < 27
                · obtain ⟨g, rfl⟩ : ∃ g, gk = g + 1 := ⟨gk - 1, by omega⟩
                  have hji : (j : Int) < 27 := by omega
                  obtain ⟨x, hx⟩ : ∃ x, repT[j]? = some x := ⟨_, List.getElem?_eq_getElem (by rw [rep_len]; exact hj)⟩
                  obtain ⟨d0, d1⟩ := HC2.out j x hx
                  have HXJ := Lib.hid hx
                  clear hx
                  by_cases he : x.1 = M
                  · have heb : (x.1 == M) = true := by simpa using he
                    have hfx : Hid (Tk.fixed otT m = x.2) := by show _ = _; rw [HFX.out, rep_hit HXJ.out he HM.out]
                    rw [hfx.out] at hres
                    clear he hfx
                    go_wp2
                    go_ret3
                    exact ⟨ret_num (by rw [hres.out]; rfl), by rw [HG.out]; exact HB2.out⟩
                  · have heb : (x.1 == M) = false := by simpa using he
                    have HM2 : Hid (∀ (i : Nat) y, i < j + 1 → repT[i]? = some y → y.1 ≠ M) := by
                      intro i y hi hy
                      rcases Nat.lt_or_ge i j with h | h
                      · exact HM.out i y h hy
                      · obtain rfl : i = j := by omega
                        rw [HXJ.out] at hy; cases hy; exact he
                    clear he HM
                    go_wp2_with fail
                    go_roundg g
                    case measure => omega
                    case rel => exact ⟨j + 1, by simp, by omega, rfl, HM2⟩
                · have hji : ¬ (j : Int) < 27 := by omega
                  have hfx : Hid (Tk.fixed otT m = M) := by show _ = _; rw [HFX.out, rep_miss (fun i y hi hy => HM.out i y (by omega) hy)]
                  rw [hfx.out] at hres
                  clear hfx
                  go_wp2
                  go_ret3
                  exact ⟨ret_num (by rw [hres.out]; rfl), by rw [HG.out]; exact HB2.out⟩
  · have HRES : Hid (Tk.number otT l = Tk.numberAt otT l (l.drop 1) 16) := by show _ = _; unfold Tk.number; rw [HH.out]; rfl
    have hfr : 1 ≤ t.size := by have := HX1.out (by simp); have := HSZ.out; omega
    have HLL : Hid ((l.drop 1).length = t.size - 1) := by show _ = _; have := HSZ.out; rw [List.length_drop]; omega
    clear HX1
    go_enter Tryz.func72, Tryz.ntmps72
    go_wp2_with fail
    refine hp1.mono ?_
    rintro e w' ⟨rfl, rfl⟩
    clear hp1
    go_upto_block 0 with (fail)
    go_cut [6, 8] (fun a n wx => wx = w ∧ ∃ (k : Nat) (m : Int), a = .int .i64 (k : Int) ∧ n = .int .i32 m ∧ 1 ≤ k ∧ k ≤ t.size ∧ 0 ≤ m ∧ m ≤ 1114112 ∧ Hid (Tk.digits 16 (l.drop 1) 0 = (k - 1, m)))
    case first =>
      go_wp2_with fail
      go_loopg [6, 8] (t.size - 1) (fun g a n wr => wr = w ∧ ∃ (k : Nat) (m : Int), a = .int .i64 (k : Int) ∧ n = .int .i32 m ∧ 1 ≤ k ∧ k + g = t.size ∧ 0 ≤ m ∧ m ≤ 1114112 ∧ Hid (Dig 16 (l.drop 1) (k - 1) m))
      case atStart => exact ⟨rfl, 1, 0, rfl, rfl, Nat.le_refl _, by omega, by omega, by omega, Dig.zero _ _⟩
      case round =>
        obtain ⟨rfl, k, m, rfl, rfl, hfk, hkg, hm0, hm1, HD⟩ := hrel
        by_cases hk : k < t.size
        · obtain ⟨g, rfl⟩ : ∃ g, gk = g + 1 := ⟨gk - 1, by omega⟩
          have hki : (k : Int) < (t.size : Int) := by omega
          obtain ⟨c, hc⟩ : ∃ c : UInt8, t[k] = c := ⟨_, rfl⟩
          have hkL : k - 1 < (l.drop 1).length := by have := HLL.out; omega
          have hcL : Hid ((l.drop 1)[k - 1] = c) := by
            show (l.drop 1)[k - 1] = c
            have h1 : l[k]? = some c := by rw [← hc, ← HL.out]; exact Lib.data_getElem? t k hk
            have h2 : (l.drop 1)[k - 1]? = some c := by rw [List.getElem?_drop]; have e : 1 + (k - 1) = k := (by omega); rw [e]; exact h1
            rw [List.getElem?_eq_getElem hkL] at h2
            injection h2
          have hr := hex_range c
          obtain ⟨x, hx⟩ : ∃ x, Tk.hex c = x := ⟨_, rfl⟩
          have HX := Lib.hid hx
          rw [hx] at hr
          clear hx
          by_cases hlt : x < 16
          · have HD2 := Lib.hid (HD.out.step hkL hcL.out (by rw [HX.out]; exact hlt))
            rw [HX.out] at HD2
            have HXO : Hid (hexOr c = x) := hexOr_lt (b := 16) HX.out (by omega)
            have hmm : m * 16 + x ≤ 17825808 := by omega
            have hmm0 : 0 ≤ m * 16 + x := by omega
            clear HD
            go_wp2_with (go_at_call 92; refine (refDigit3_any c _).mono ?_; rintro e w' ⟨rfl, rfl⟩; rw [HXO.out])
            go_roundg g
            case measure => omega
            case rel => exact ⟨rfl, k + 1, min (m * 16 + x) 1114112, by simp, rfl, by omega, by omega, by omega, by omega, by have e : k + 1 - 1 = k - 1 + 1 := (by omega); rw [e]; exact HD2⟩
          · have HD2 := Lib.hid (HD.out.stop (.inr ⟨hkL, by rw [hcL.out, HX.out]; exact hlt⟩))
            clear HD
            by_cases h16 : x < 16
            · exact absurd h16 hlt
            · have HXO : Hid (hexOr c = -1) := hexOr_ge HX.out h16
              go_wp2_with (go_at_call 92; refine (refDigit3_any c _).mono ?_; rintro e w' ⟨rfl, rfl⟩; rw [HXO.out])
              go_meet
              exact ⟨rfl, k, m, rfl, rfl, hfk, by omega, hm0, hm1, HD2⟩
        · have hki : ¬ (k : Int) < (t.size : Int) := by omega
          have HD2 := Lib.hid (HD.out.stop (.inl (by have := HLL.out; omega)))
          clear HD
          go_wp2_with fail
          go_meet
          exact ⟨rfl, k, m, rfl, rfl, hfk, by omega, hm0, hm1, HD2⟩
    case rest =>
      obtain ⟨rfl, k, m, rfl, rfl, hfk, hks, hm0, hm1, HD⟩ := hcut
      by_cases h0 : k = 1
      · subst h0
        have hres : Hid (Tk.number otT l = none) := HRES.out.trans (by unfold Tk.numberAt; rw [HD.out]; rfl)
        go_wp2
        go_ret3
        exact ⟨ret_num (by rw [hres.out]; rfl), Below.refl _ _⟩
      · have h0b : ((k : Int) == 1) = false := by rw [beq_eq_false_iff_ne]; omega
        have hres : Hid (Tk.number otT l = some (Tk.fixed otT m, if l[k]? = some 59 then k + 1 else k)) := by
          refine HRES.out.trans ?_
          unfold Tk.numberAt; rw [HD.out]
          have e0 : ¬ k - 1 = 0 := by omega
          show (if k - 1 = 0 then _ else _) = _
          rw [if_neg e0]
          have e : (l.drop 1).drop (k - 1) = l.drop k := by rw [List.drop_drop]; congr 1; omega
          show some (_, l.length - (Lib.trimPrefix ((l.drop 1).drop (k - 1)) [59]).length) = _
          rw [e, trim_semi (by have := HSZ.out; omega)]
        clear h0
        obtain ⟨N, hN⟩ : ∃ N : Nat, (if l[k]? = some 59 then k + 1 else k) = N := ⟨_, rfl⟩
        rw [hN] at hres
        have hNs : N ≤ 1000001 := by rw [← hN]; split <;> omega
        have HN := Lib.hid hN
        clear hN
        obtain ⟨B1, hB1⟩ : ∃ B1 : Bool, decide (l[k]? = some 59) = B1 := ⟨_, rfl⟩
        have HB1 := Lib.hid hB1
        clear hB1
        go_upto_region 11 with (fail)
        go_cut [60] (fun b wx => wx = wc ∧ b = .bool B1)
        case first =>
          by_cases hk : k < t.size
          · have hki : (k : Int) < (t.size : Int) := by omega
            obtain ⟨c, hc⟩ : ∃ c : UInt8, t[k] = c := ⟨_, rfl⟩
            have h1 : l[k]? = some c := by rw [← hc, ← HL.out]; exact Lib.data_getElem? t k hk
            have hB : B1 = ((c.toNat : Int) == 59) := by
              rw [← HB1.out, h1, Bool.eq_iff_iff, decide_eq_true_eq, beq_iff_eq]
              constructor
              · intro h; cases h; rfl
              · intro h; congr 1; apply UInt8.toNat_inj.1; show c.toNat = 59; omega
            clear h1
            subst hB
            go_wp2_with fail
            go_meet
            exact ⟨rfl, rfl⟩
          · have hki : ¬ (k : Int) < (t.size : Int) := by omega
            have hB : B1 = false := by
              rw [← HB1.out, List.getElem?_eq_none (by have := HSZ.out; omega)]; rfl
            subst hB
            go_wp2_with fail
            go_meet
            exact ⟨rfl, rfl⟩
        obtain ⟨rfl, rfl⟩ := hcut
        go_upto_if 60 with (fail)
        go_cut [6] (fun a wx => wx = wc ∧ a = .int .i64 (N : Int))
        case first =>
          cases B1
          · have hN2 : N = k := by
              rw [← HN.out, if_neg (by have := HB1.out; simpa using this)]
            subst hN2
            go_wp2_with fail
            go_meet
            exact ⟨rfl, rfl⟩
          · have hN2 : N = k + 1 := by
              rw [← HN.out, if_pos (by have := HB1.out; simpa using this)]
            subst hN2
            go_wp2_with fail
            go_meet
            exact ⟨rfl, by simp⟩
        case rest =>
          obtain ⟨rfl, rfl⟩ := hcut
          have HV := Lib.hid (valid_ints hm0 hm1)
          have HFX := Lib.hid (fixed_rep m)
          obtain ⟨M, hM⟩ : ∃ M, fix0 m = M := ⟨_, rfl⟩
          rw [hM] at HFX HV
          clear hM
          go_upto_region 13 with (fail)
          go_cut [76] (fun b wx => wx = wc ∧ ∃ B2 : Bool, b = .bool B2 ∧ (B2 = true → M = 65533) ∧ (B2 = false → M = m))
          case first =>
            rcases HV.out with ⟨a1, a2⟩ | ⟨a1, a2, a3⟩ | ⟨a1, a2, a3, a4, a5⟩ | ⟨a1, a2, a3, a4⟩
            · subst a1
              go_wp2_with fail
              go_meet
              exact ⟨rfl, true, rfl, fun _ => a2, fun h => by cases h⟩
            · have b1 : (m == 0) = false := by simpa using a1
              clear a1
              go_wp2_with fail
              go_meet
              exact ⟨rfl, true, rfl, fun _ => a3, fun h => by cases h⟩
            · have b1 : (m == 0) = false := by simpa using a1
              have b2 : ¬ 1114111 < m := by omega
              clear a1
              go_wp2_with fail
              go_meet
              exact ⟨rfl, true, rfl, fun _ => a5, fun h => by cases h⟩
            · have b1 : (m == 0) = false := by simpa using a1
              have b2 : ¬ 1114111 < m := by omega
              clear a1
              rcases a3 with a3 | a3
              all_goals (go_wp2_with fail; go_meet)
              all_goals exact ⟨rfl, false, (by first | rfl | (simp; omega)), (fun h => by cases h), fun _ => a4⟩
          obtain ⟨rfl, B2, rfl, hB2, hB2'⟩ := hcut
          go_upto_if 76 with (fail)
          go_cut [8] (fun a wx => wx = wc ∧ a = .int .i32 M)
          case first =>
            cases B2
            · obtain rfl := hB2' rfl
              clear hB2 hB2'
              go_wp2_with fail
              go_meet
              exact ⟨rfl, rfl⟩
            · obtain rfl := hB2 rfl
              clear hB2 hB2'
              go_wp2_with fail
              go_meet
              exact ⟨rfl, rfl⟩
          case rest =>
            obtain ⟨rfl, rfl⟩ := hcut
            clear HV HD HRES
            go_wp2_with fail
            refine (refReplaced_any _).mono ?_
            rintro e w2 ⟨rfl, hw2⟩
            have HB2 : Hid (Below wc.heap.size wc w2) := by show Below _ _ _; rw [hw2]; exact (Below.refl _ _).alloc (Nat.le_refl _) _
            have HC2 : Hid (∀ (j : Nat) x, repT[j]? = some x → w2.cell? ⟨wc.heap.size, j * 2, none⟩ = some (.int .i32 x.1) ∧ w2.cell? ⟨wc.heap.size, j * 2 + 1, none⟩ = some (.int .i32 x.2)) := by
              intro j x hx
              have h := repCells_at j x hx
              have hn : w2.heap[wc.heap.size]? = some (.cells repCells.toArray 111 (0, 0)) := by rw [hw2]; exact bN _ _
              exact ⟨by rw [blk_cell hn, List.getElem?_toArray]; exact h.1, by rw [blk_cell hn, List.getElem?_toArray]; exact h.2⟩
            clear hw2
            generalize hG : wc.heap.size = G at *
            have HG := Lib.hid hG
            clear hG
            go_wp2_with fail
            go_loopg [10] 27 (fun g i wr => ∃ j : Nat, i = .int .i64 (j : Int) ∧ j + g = 27 ∧ wr = w2 ∧ Hid (∀ (i : Nat) y, i < j → repT[i]? = some y → y.1 ≠ M))
            case atStart => exact ⟨0, rfl, rfl, rfl, fun i y hi _ => by omega⟩
            case round =>
              obtain ⟨j, rfl, hjg, rfl, HM⟩ := hrel
              by_cases hj : j < 27
              · obtain ⟨g, rfl⟩ : ∃ g, gk = g + 1 := ⟨gk - 1, by omega⟩
                have hji : (j : Int) < 27 := by omega
                obtain ⟨x, hx⟩ : ∃ x, repT[j]? = some x := ⟨_, List.getElem?_eq_getElem (by rw [rep_len]; exact hj)⟩
                obtain ⟨d0, d1⟩ := HC2.out j x hx
                have HXJ := Lib.hid hx
                clear hx
                by_cases he : x.1 = M
                · have heb : (x.1 == M) = true := by simpa using he
                  have hfx : Hid (Tk.fixed otT m = x.2) := by show _ = _; rw [HFX.out, rep_hit HXJ.out he HM.out]
                  rw [hfx.out] at hres
                  clear he hfx
                  go_wp2
                  go_ret3
                  exact ⟨ret_num (by rw [hres.out]; rfl), by rw [HG.out]; exact HB2.out⟩
                · have heb : (x.1 == M) = false := by simpa using he
                  have HM2 : Hid (∀ (i : Nat) y, i < j + 1 → repT[i]? = some y → y.1 ≠ M) := by
                    intro i y hi hy
                    rcases Nat.lt_or_ge i j with h | h
                    · exact HM.out i y h hy
                    · obtain rfl : i = j := by omega
                      rw [HXJ.out] at hy; cases hy; exact he
                  clear he HM
                  go_wp2_with fail
                  go_roundg g
                  case measure => omega
                  case rel => exact ⟨j + 1, by simp, by omega, rfl, HM2⟩
              · have hji : ¬ (j : Int) < 27 := by omega
                have hfx : Hid (Tk.fixed otT m = M) := by show _ = _; rw [HFX.out, rep_miss (fun i y hi hy => HM.out i y (by omega) hy)]
                rw [hfx.out] at hres
                clear hfx
                go_wp2
                go_ret3
                exact ⟨ret_num (by rw [hres.out]; rfl), by rw [HG.out]; exact HB2.out⟩
end Go.Proofs.YtaohdicilfabeaaGreatDoor

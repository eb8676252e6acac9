/- The answer's one (selvedgeref04), walked: the token at a place. -/
import Derived.Test.YtaohdicilfabeaaGreatDoorTkRefMark
namespace Go.Proofs.YtaohdicilfabeaaGreatDoor
open Go.RowKit
set_option linter.unusedVariables false
set_option linter.unusedSimpArgs false

theorem RTokPost.pass {l : List UInt8} {res : Sum Nat (Tk.Tok × List UInt8)} {w W : World} {e : Ending} {w' : World} {A : Nat} {x0 x1 x2 x3 x4 : Value} (hB : Below w.heap.size w W) (hA : w.heap.size ≤ A) (b : W.heap[A]? = some (.cells #[x0, x1, x2, x3, x4] 46 (0, 0))) (h : RTokPost l res W e w') :
    ∃ (K : Int) (N : ByteArray) (a : Option Addr) (n c : Nat) (SF : Bool) (D : ByteArray) (p k : Int), e = .returned (.tuple #[.agg #[.int .u8 K, .string N, .slice a n c, .bool SF, .string D], .int .i64 p, .int .i64 k]) ∧ w'.heap[A]? = some (.cells #[x0, x1, x2, x3, x4] 46 (0, 0)) ∧
      RTokPost l res w (.returned (.tuple #[.agg #[.int .u8 K, .string N, .slice a n c, .bool SF, .string D], .int .i64 p, .int .i64 k])) (put5 w' A (.int .u8 K) (.string N) (.slice a n c) (.bool SF) (.string D)) := by
  obtain ⟨hb, K, N, a, n, c, SF, D, p, k, rfl, hr⟩ := h
  have b' := bB b hb
  have hB' := hB.trans (hb.mono hB.size)
  refine ⟨K, N, a, n, c, SF, D, p, k, rfl, b', ?_⟩
  rcases hr with ⟨k', h0, hk, hres⟩ | ⟨hk, t, q, hp, hq, hres, h1, h2, h3, h4, ho⟩
  · exact .err hB' hA k' h0 hres hk
  · exact .ok hB' hA b' t q hq hres hk hp h1 h2 h3 h4 (own_mono ho hB.size)
theorem getD_at {l : List UInt8} {i j : Nat} {d : UInt8} (h : l[i + j]? = some d) : (l.drop i).getD j 0 = d := by
  rw [List.getD_eq_getElem?_getD, List.getElem?_drop, h]; rfl

set_option maxRecDepth 100000 in
set_option maxHeartbeats 8000000 in
theorem refOneTok_any (s : ByteArray) (l : List UInt8) (hl : s.data.toList = l) (i : Nat) (hi : i < s.size) (hs : s.size ≤ 1000000) (w : World) :
    Calls Tryz.prog 12 #[.string s, .int .i64 (i : Int)] w (RTokPost l (Tk.one decT (l.drop i)) w) := by
  have HL := Lib.hid hl
  have hsz : l.length = s.size := by rw [← hl, ← Lib.size_eq]
  have HSZ := Lib.hid hsz
  clear hl hsz
  have HONE : Hid (Tk.one decT (l.drop i) = if Tk.begins (l.drop i) = false then .inr (Tk.text decT (l.drop i))
    else if Tk.letter ((l.drop i).getD 1 0) = true then Tk.tag decT 1 ((l.drop i).drop 1)
    else if (l.drop i).getD 1 0 = 47 then (if (l.drop i).length = 2 ∨ Tk.letter ((l.drop i).getD 2 0) = false then .inl 40 else Tk.tag decT 2 ((l.drop i).drop 2))
    else if Lib.hasPrefix (l.drop i) [60, 33, 45, 45] = true then Tk.comment ((l.drop i).drop 4)
    else Tk.mark (l.drop i)) := rfl
  go_enter Tryz.func12, Tryz.ntmps12
  go_wp2_with fail
  have bA := bN w (.cells #[.int .u8 0, .string ⟨#[]⟩, .slice none 0 0, .bool false, .string ⟨#[]⟩] 46 (0, 0))
  have HB := Lib.hid ((Below.refl w.heap.size w).alloc (Nat.le_refl _) (.cells #[.int .u8 0, .string ⟨#[]⟩, .slice none 0 0, .bool false, .string ⟨#[]⟩] 46 (0, 0)))
  generalize w.alloc (.cells #[.int .u8 0, .string ⟨#[]⟩, .slice none 0 0, .bool false, .string ⟨#[]⟩] 46 (0, 0)) = W at *
  obtain ⟨A, hA⟩ : ∃ A, w.heap.size = A := ⟨_, rfl⟩
  have HA : Hid (w.heap.size ≤ A) := Nat.le_of_eq hA
  rw [hA] at bA ⊢
  clear hA
  have r0 : W.cell? ⟨A, 0, none⟩ = some (.int .u8 0) := blk_cell bA 0
  have r1 : W.cell? ⟨A, 1, none⟩ = some (.string ⟨#[]⟩) := blk_cell bA 1
  have r2 : W.cell? ⟨A, 2, none⟩ = some (.slice none 0 0) := blk_cell bA 2
  have r3 : W.cell? ⟨A, 3, none⟩ = some (.bool false) := blk_cell bA 3
  have r4 : W.cell? ⟨A, 4, none⟩ = some (.string ⟨#[]⟩) := blk_cell bA 4
  have rf := fun j => blk_free bA j
  refine (refBegins_any s l HL.out i (by omega) hs _).mono ?_
  rintro e w1 ⟨rfl, rfl⟩
  cases hbg : Tk.begins (l.drop i) with
  | true =>
    have H1 := Lib.hid (HONE.out.trans (if_neg (by rw [hbg]; decide)))
    have h2 := Tk.begins_two_le hbg
    rw [List.length_drop] at h2
    have hi1 : i + 1 < s.size := by have := HSZ.out; omega
    have hi2 : i + 2 ≤ s.size := by omega
    have hi1i : (i : Int) + 1 < (s.size : Int) := by omega
    have hi1n : ((i : Int) + 1).toNat = i + 1 := by omega
    have hi1a : (0 : Int) ≤ (i : Int) + 1 := by omega
    clear HONE hbg h2
    obtain ⟨d, hd⟩ : ∃ b : UInt8, s[i + 1] = b := ⟨_, rfl⟩
    have HD : Hid (l[i + 1]? = some d) := by show _ = _; rw [← hd, ← HL.out]; exact Lib.data_getElem? s (i + 1) hi1
    rw [getD_at HD.out] at H1
    go_wp2_with fail
    refine (refLetter_any d _).mono ?_
    rintro e w1 ⟨rfl, rfl⟩
    cases hlet : Tk.letter d with
    | true =>
      have HF : Hid (Tk.one decT (l.drop i) = Tk.tag decT 1 (l.drop (i + 1))) := by
        show _ = _; rw [H1.out, if_pos hlet, List.drop_drop]
      clear hlet H1 hd
      go_wp2_with fail
      refine (refTag_any s l HL.out (i + 1) (by omega) hs 1 (.inl rfl) _).mono ?_
      rintro e w2 hp
      rw [← HF.out] at hp
      obtain ⟨K, N, a, n, c, SF, D, p, k, rfl, bA2, hfin⟩ := hp.pass HB.out HA.out bA
      have HFIN := Lib.hid hfin
      clear r0 r1 r2 r3 r4 rf bA hp hfin
      have r0 : w2.cell? ⟨A, 0, none⟩ = some (.int .u8 0) := blk_cell bA2 0
      have r1 : w2.cell? ⟨A, 1, none⟩ = some (.string ⟨#[]⟩) := blk_cell bA2 1
      have r2 : w2.cell? ⟨A, 2, none⟩ = some (.slice none 0 0) := blk_cell bA2 2
      have r3 : w2.cell? ⟨A, 3, none⟩ = some (.bool false) := blk_cell bA2 3
      have r4 : w2.cell? ⟨A, 4, none⟩ = some (.string ⟨#[]⟩) := blk_cell bA2 4
      have rf := fun j => blk_free bA2 j
      go_wp2
      exact rone_ret bA2 rfl rfl rfl HFIN.out
    | false =>
    have H2 := Lib.hid (H1.out.trans (if_neg (by rw [hlet]; decide)))
    clear hlet H1
    have e47 := u8_beq d 47 (by decide)
    cases h47 : ((d.toNat : Int) == 47) with
    | true =>
      have hd47 : d = 47 := by have := e47.trans h47; rw [beq_iff_eq] at this; exact this
      have H3 := Lib.hid (H2.out.trans (if_pos hd47))
      clear H2 e47 hd47 HD
      by_cases hend : i + 2 = s.size
      · have HF := Lib.hid (H3.out.trans (if_pos (.inl (by rw [List.length_drop]; have := HSZ.out; omega))))
        have hb : ((i : Int) + 2 == (s.size : Int)) = true := by rw [beq_iff_eq]; omega
        clear H3 hend
        go_wp2
        exact rone_ret bA rfl rfl rfl (.err HB.out HA.out 40 (by decide) HF.out rfl)
      have hb : ((i : Int) + 2 == (s.size : Int)) = false := by rw [beq_eq_false_iff_ne]; omega
      have hi3 : i + 2 < s.size := by omega
      have hi3i : (i : Int) + 2 < (s.size : Int) := by omega
      have hi3n : ((i : Int) + 2).toNat = i + 2 := by omega
      have hi3a : (0 : Int) ≤ (i : Int) + 2 := by omega
      have hlen : ¬ (l.drop i).length = 2 := by rw [List.length_drop]; have := HSZ.out; omega
      obtain ⟨d2, hd2⟩ : ∃ b : UInt8, s[i + 2] = b := ⟨_, rfl⟩
      have HD2 : Hid (l[i + 2]? = some d2) := by show _ = _; rw [← hd2, ← HL.out]; exact Lib.data_getElem? s (i + 2) hi3
      rw [getD_at HD2.out] at H3
      have HLEN := Lib.hid hlen
      clear hend hlen
      go_wp2_with fail
      refine (refLetter_any d2 _).mono ?_
      rintro e w1 ⟨rfl, rfl⟩
      cases hlet : Tk.letter d2 with
      | false =>
        have HF := Lib.hid (H3.out.trans (if_pos (.inr hlet)))
        clear H3 hlet
        go_wp2
        exact rone_ret bA rfl rfl rfl (.err HB.out HA.out 40 (by decide) HF.out rfl)
      | true =>
        have HF : Hid (Tk.one decT (l.drop i) = Tk.tag decT 2 (l.drop (i + 2))) := by
          show _ = _; rw [H3.out, if_neg (by rintro (h | h); exact HLEN.out h; rw [hlet] at h; cases h), List.drop_drop]
        clear hlet H3 hd hd2
        go_wp2_with fail
        refine (refTag_any s l HL.out (i + 2) (by omega) hs 2 (.inr rfl) _).mono ?_
        rintro e w2 hp
        rw [← HF.out] at hp
        obtain ⟨K, N, a, n, c, SF, D, p, k, rfl, bA2, hfin⟩ := hp.pass HB.out HA.out bA
        have HFIN := Lib.hid hfin
        clear r0 r1 r2 r3 r4 rf bA hp hfin
        have r0 : w2.cell? ⟨A, 0, none⟩ = some (.int .u8 0) := blk_cell bA2 0
        have r1 : w2.cell? ⟨A, 1, none⟩ = some (.string ⟨#[]⟩) := blk_cell bA2 1
        have r2 : w2.cell? ⟨A, 2, none⟩ = some (.slice none 0 0) := blk_cell bA2 2
        have r3 : w2.cell? ⟨A, 3, none⟩ = some (.bool false) := blk_cell bA2 3
        have r4 : w2.cell? ⟨A, 4, none⟩ = some (.string ⟨#[]⟩) := blk_cell bA2 4
        have rf := fun j => blk_free bA2 j
        go_wp2
        exact rone_ret bA2 rfl rfl rfl HFIN.out
    | false =>
    have H3 := Lib.hid (H2.out.trans (if_neg (by intro h; rw [h] at h47; exact absurd h47 (by decide))))
    clear H2 e47 HD
    go_wp2_with fail
    clear hd
    have hat := fun W : World => refAt_any s ⟨#[60, 33, 45, 45]⟩ i (by omega) hs (by decide) W
    have e0 : (⟨#[60, 33, 45, 45]⟩ : ByteArray).data.toList = [60, 33, 45, 45] := rfl
    rw [HL.out, e0] at hat
    refine (hat _).mono ?_
    rintro e w1 ⟨rfl, rfl⟩
    clear hat e0
    cases hp4 : Lib.hasPrefix (l.drop i) [60, 33, 45, 45] with
    | true =>
      have hlen4 : i + 4 ≤ s.size := by
        have := pre_len hp4
        rw [List.length_drop] at this; simp at this; have := HSZ.out; omega
      have HF : Hid (Tk.one decT (l.drop i) = Tk.comment (l.drop (i + 4))) := by
        show _ = _; rw [H3.out, if_pos hp4, List.drop_drop]
      clear hp4 H3
      go_wp2_with fail
      refine (refComment_any s l HL.out (i + 4) hlen4 hs _).mono ?_
      rintro e w2 hp
      rw [← HF.out] at hp
      obtain ⟨K, N, a, n, c, SF, D, p, k, rfl, bA2, hfin⟩ := hp.pass HB.out HA.out bA
      have HFIN := Lib.hid hfin
      clear r0 r1 r2 r3 r4 rf bA hp hfin
      have r0 : w2.cell? ⟨A, 0, none⟩ = some (.int .u8 0) := blk_cell bA2 0
      have r1 : w2.cell? ⟨A, 1, none⟩ = some (.string ⟨#[]⟩) := blk_cell bA2 1
      have r2 : w2.cell? ⟨A, 2, none⟩ = some (.slice none 0 0) := blk_cell bA2 2
      have r3 : w2.cell? ⟨A, 3, none⟩ = some (.bool false) := blk_cell bA2 3
      have r4 : w2.cell? ⟨A, 4, none⟩ = some (.string ⟨#[]⟩) := blk_cell bA2 4
      have rf := fun j => blk_free bA2 j
      go_wp2
      exact rone_ret bA2 rfl rfl rfl HFIN.out
    | false =>
      have HF : Hid (Tk.one decT (l.drop i) = Tk.mark (l.drop i)) := by
        show _ = _; rw [H3.out, if_neg (by rw [hp4]; decide)]
      clear hp4 H3
      go_wp2_with fail
      refine (refDoctype_any s l HL.out i (by omega) hs _).mono ?_
      rintro e w2 hp
      rw [← HF.out] at hp
      obtain ⟨K, N, a, n, c, SF, D, p, k, rfl, bA2, hfin⟩ := hp.pass HB.out HA.out bA
      have HFIN := Lib.hid hfin
      clear r0 r1 r2 r3 r4 rf bA hp hfin
      have r0 : w2.cell? ⟨A, 0, none⟩ = some (.int .u8 0) := blk_cell bA2 0
      have r1 : w2.cell? ⟨A, 1, none⟩ = some (.string ⟨#[]⟩) := blk_cell bA2 1
      have r2 : w2.cell? ⟨A, 2, none⟩ = some (.slice none 0 0) := blk_cell bA2 2
      have r3 : w2.cell? ⟨A, 3, none⟩ = some (.bool false) := blk_cell bA2 3
      have r4 : w2.cell? ⟨A, 4, none⟩ = some (.string ⟨#[]⟩) := blk_cell bA2 4
      have rf := fun j => blk_free bA2 j
      go_wp2
      exact rone_ret bA2 rfl rfl rfl HFIN.out
  | false =>
    have H1 : Hid (Tk.one decT (l.drop i) = .inr (⟨3, [], [], false, decT ((l.drop i).take (Tk.run (l.drop (i + 1)) + 1)) false⟩, l.drop (i + (Tk.run (l.drop (i + 1)) + 1)))) := by
      show _ = _
      rw [HONE.out, if_pos hbg]; unfold Tk.text; rw [List.drop_drop, List.drop_drop]
    clear HONE hbg
    go_wp2_with fail
    go_loopg [7] s.size (fun g v wr => ∃ m : Nat, v = .int .i64 (m : Int) ∧ i + 1 ≤ m ∧ m ≤ s.size ∧ s.size ≤ m + g ∧ wr = W ∧ Hid (i + 1 + Tk.run (l.drop (i + 1)) = m + Tk.run (l.drop m)))
    case atStart => exact ⟨i + 1, rfl, Nat.le_refl _, by omega, by omega, rfl, rfl⟩
    case round =>
      obtain ⟨m, rfl, him, hms, hmg, rfl, HR⟩ := hrel
      have done : Tk.run (l.drop m) = 0 → Tk.one decT (l.drop i) = .inr (⟨3, [], [], false, decT ((l.drop i).take (m - i)) false⟩, l.drop m) := by
        intro h
        have h1 := HR.out
        rw [h] at h1
        have e : Tk.run (l.drop (i + 1)) + 1 = m - i := by omega
        have e2 : i + (m - i) = m := by omega
        rw [H1.out, e, e2]
      have HDN := Lib.hid done
      clear done
      obtain ⟨VS, hVS⟩ : ∃ VS, s.extract i m = VS := ⟨_, rfl⟩
      have HVD : Hid (VS.data.toList = (l.drop i).take (m - i)) := by show _ = _; rw [← hVS, Lib.extract_eq, HL.out]
      have hvs : VS.size ≤ 1000000 := by rw [Lib.size_eq, HVD.out, List.length_take, List.length_drop]; have := HSZ.out; omega
      have hdec := fun W : World => refDecode_any VS _ HVD.out false W hvs
      obtain ⟨D, hD⟩ : ∃ D, decT ((l.drop i).take (m - i)) false = D := ⟨_, rfl⟩
      have hD' : Tk.dec nmT otT ((l.drop i).take (m - i)) false = D := hD
      rw [hD'] at hdec
      rw [hD] at HDN
      have himi : (i : Int) ≤ (m : Int) := by omega
      have hmsi : (m : Int) ≤ (s.size : Int) := by omega
      have hml : m ≤ l.length := by have := HSZ.out; omega
      clear hD hD' hvs HVD
      by_cases hm : m < s.size
      · have hmi : (m : Int) < (s.size : Int) := by omega
        obtain ⟨g, rfl⟩ : ∃ g, gk = g + 1 := ⟨gk - 1, by omega⟩
        go_wp2_with fail
        refine (refBegins_any s l HL.out m hms hs _).mono ?_
        rintro e w1 ⟨rfl, rfl⟩
        cases hb : Tk.begins (l.drop m) with
        | false =>
          have HR2 : Hid (i + 1 + Tk.run (l.drop (i + 1)) = (m + 1) + Tk.run (l.drop (m + 1))) := by
            have h1 := HR.out
            obtain ⟨c, hc⟩ : ∃ c, l[m]? = some c := ⟨l[m]'(by have := HSZ.out; omega), List.getElem?_eq_getElem _⟩
            rw [drop_atr hc] at h1 hb
            rw [run_step hb] at h1
            show _ = _; omega
          clear hb HR HDN hdec hVS
          go_wp2_with fail
          go_roundg g
          case measure => omega
          case rel => exact ⟨m + 1, rfl, by omega, by omega, by omega, rfl, HR2⟩
        | true =>
          have HF := Lib.hid (HDN.out (run_begins hb))
          clear hb HR HDN
          go_wp2_with fail
          refine (hdec _).mono ?_
          rintro e w2 ⟨rfl, hb2⟩
          have HB2 := Lib.hid (HB.out.trans (hb2.mono HB.out.size))
          have bA2 := bB bA hb2
          clear r0 r1 r2 r3 r4 rf bA hb2 hdec
          have r0 : w2.cell? ⟨A, 0, none⟩ = some (.int .u8 0) := blk_cell bA2 0
          have r1 : w2.cell? ⟨A, 1, none⟩ = some (.string ⟨#[]⟩) := blk_cell bA2 1
          have r2 : w2.cell? ⟨A, 2, none⟩ = some (.slice none 0 0) := blk_cell bA2 2
          have r3 : w2.cell? ⟨A, 3, none⟩ = some (.bool false) := blk_cell bA2 3
          have r4 : w2.cell? ⟨A, 4, none⟩ = some (.string ⟨#[]⟩) := blk_cell bA2 4
          have rf := fun j => blk_free bA2 j
          go_wp2
          exact rone_ret bA2 rfl rfl rfl (.ok HB2.out HA.out bA2 ⟨3, [], [], false, D⟩ m hml HF.out rfl rfl rfl rfl rfl rfl (World.ownsRow_nil _ _ _ _))
      · have hmi : ¬ (m : Int) < (s.size : Int) := by omega
        have HF := Lib.hid (HDN.out (by rw [List.drop_eq_nil_of_le (by have := HSZ.out; omega)]; rfl))
        clear HR HDN
        go_wp2_with fail
        refine (hdec _).mono ?_
        rintro e w2 ⟨rfl, hb2⟩
        have HB2 := Lib.hid (HB.out.trans (hb2.mono HB.out.size))
        have bA2 := bB bA hb2
        clear r0 r1 r2 r3 r4 rf bA hb2 hdec
        have r0 : w2.cell? ⟨A, 0, none⟩ = some (.int .u8 0) := blk_cell bA2 0
        have r1 : w2.cell? ⟨A, 1, none⟩ = some (.string ⟨#[]⟩) := blk_cell bA2 1
        have r2 : w2.cell? ⟨A, 2, none⟩ = some (.slice none 0 0) := blk_cell bA2 2
        have r3 : w2.cell? ⟨A, 3, none⟩ = some (.bool false) := blk_cell bA2 3
        have r4 : w2.cell? ⟨A, 4, none⟩ = some (.string ⟨#[]⟩) := blk_cell bA2 4
        have rf := fun j => blk_free bA2 j
        go_wp2
        exact rone_ret bA2 rfl rfl rfl (.ok HB2.out HA.out bA2 ⟨3, [], [], false, D⟩ m hml HF.out rfl rfl rfl rfl rfl rfl (World.ownsRow_nil _ _ _ _))
end Go.Proofs.YtaohdicilfabeaaGreatDoor

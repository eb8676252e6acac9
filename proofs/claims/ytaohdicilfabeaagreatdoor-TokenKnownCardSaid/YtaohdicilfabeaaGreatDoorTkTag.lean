/- The reader's tag, walked. -/
import Derived.Test.YtaohdicilfabeaaGreatDoorTkTagA
namespace Go.Proofs.YtaohdicilfabeaaGreatDoor
open Go.RowKit

theorem small_upto_len (c l : List UInt8) : (Tk.small (Tk.upto c l)).length ≤ l.length := by
  unfold Tk.small; rw [List.length_map]; exact upto_len _ l

theorem tagLoop_step (dec : List UInt8 → Bool → List UInt8) (kind : Nat) (name : List UInt8) (f : Nat) (l : List UInt8) (acc : List Tk.At) : Tk.tagLoop dec kind name (f + 1) l acc =
    if Tk.skip l = [] then .inl 40
    else if Lib.hasPrefix (Tk.skip l) [62] = true then Tk.finish kind name false acc ((Tk.skip l).drop 1)
    else if Lib.hasPrefix (Tk.skip l) [47, 62] = true then Tk.finish kind name true acc ((Tk.skip l).drop 2)
    else if Lib.hasPrefix (Tk.skip l) [47] = true then .inl 40
    else match Tk.attr dec (Tk.skip l) with
      | .inl e => .inl e
      | .inr (a, r) =>
        if acc.any (fun b => a.name = b.name) = true then .inl 41
        else if acc.length = 16 then .inl 3
        else Tk.tagLoop dec kind name f r (acc ++ [a]) := rfl

theorem own_shape {w : World} {B : Nat} {e : TypeId} {sz n : Nat} {v : Value} {xs : List Value} (h : w.ownsRow B e sz v n xs) : ∃ a c, v = .slice a n c := by
  rcases h.2 with ⟨rfl, rfl⟩ | ⟨g, cap, cur, rfl, _⟩
  · exact ⟨_, _, rfl⟩
  · exact ⟨_, _, rfl⟩

theorem attrCells_at : ∀ (l : List Tk.At) (n : Nat) (h : n < l.length), (attrCells l)[2 * n]? = some (str l[n].name) ∧ (attrCells l)[2 * n + 1]? = some (str l[n].value)
  | a :: l, 0, _ => ⟨rfl, rfl⟩
  | a :: l, n + 1, h => by
    have := attrCells_at l n (by simpa using h)
    have e1 : 2 * (n + 1) = 2 * n + 1 + 1 := by omega
    have e2 : attrCells (a :: l) = str a.name :: str a.value :: attrCells l := rfl
    rw [e1, e2]; simpa using this
theorem attr_at {AT : TypeId} {w : World} {B : Nat} {aa : Option Addr} {k cap : Nat} {acc : List Tk.At} (h : OwnA AT w B (.slice aa k cap) acc) (n : Nat) (hn : n < acc.length) :
    ∃ g, aa = some ⟨g, 0, none⟩ ∧ w.cell? ⟨g, n * 2, none⟩ = some (.string ⟨acc[n].name.toArray⟩) ∧ w.cell? ⟨g, n * 2 + 1, none⟩ = some (.string ⟨acc[n].value.toArray⟩) := by
  have h' := h
  rcases h.2 with ⟨_, h0⟩ | ⟨g, cap', cur, hv, _⟩
  · omega
  · injection hv with h1 h2 h3
    subst h1
    have hx := h'.cells (g := g) rfl
    have ha := attrCells_at acc n hn
    have e := hx (2 * n) _ ha.1
    have e' := hx (2 * n + 1) _ ha.2
    have hadd : ∀ k, (⟨g, 0, none⟩ : Addr).add k = ⟨g, k, none⟩ := by
      intro k; unfold Addr.add; split
      · rename_i h0; rw [h0]
      · simp
    rw [hadd] at e e'
    rw [Nat.mul_comm] at e e'
    exact ⟨g, rfl, e, e'⟩

set_option maxRecDepth 100000 in
set_option maxHeartbeats 1000000 in
theorem tag_any {nm : List (List UInt8 × Int × Bool)} {ot : List Int} {dec : List UInt8 → Bool → List UInt8} (hD : DecodeSaid nm ot dec) (hI : IndexAnySaid) (B R : Nat) (s : ByteArray) (p : Nat) (l : List UInt8) (v : Value) (ts : List Tk.Tok) (kind : Nat) (w : World) (h : Sta w B R s ts w p l v) (hgl : Gl nm ot w) (hB5 : 5 ≤ B) (hk : kind = 1 ∨ kind = 2) (hs : s.size ≤ 1000000) (hts : ts.length ≤ 1000000) :
    Calls Tryz.prog 34 #[.pointer (some ⟨R, 0, none⟩), .int .u8 (kind : Int)] w (StepPost B R s ts (Tk.tag dec kind l) w) := by
  have hle := h.rs.le
  have hle2 : l.length ≤ s.size := by have := h.rs.len; omega
  have HGL := Lib.hid hgl
  have HD := Lib.hid hD
  have HI := Lib.hid hI
  have hRw := blk_lt h.rs.rd
  have H := Lib.hid h
  have HT : Hid (Tk.tag dec kind l = if Tk.made (Tk.small (Tk.upto [9, 10, 12, 32, 47, 62] l)) [] = false then .inl 40 else Tk.tagLoop dec kind (Tk.small (Tk.upto [9, 10, 12, 32, 47, 62] l)) 17 (Tk.past [9, 10, 12, 32, 47, 62] l) []) := rfl
  obtain ⟨N, hN⟩ : ∃ N, Tk.small (Tk.upto [9, 10, 12, 32, 47, 62] l) = N := ⟨_, rfl⟩
  obtain ⟨L0, hL0⟩ : ∃ L0, Tk.past [9, 10, 12, 32, 47, 62] l = L0 := ⟨_, rfl⟩
  have hNl : N.length ≤ l.length := by rw [← hN]; exact small_upto_len _ l
  rw [hN, hL0] at HT
  have HN := Lib.hid hN
  have HL0 := Lib.hid hL0
  clear h hgl hD hI hN hL0
  go_enter Tryz.func34, Tryz.ntmps34
  go_wp2_with fail
  go_step3
  go_wp2_with fail
  refine (upto_s R s _ _ l v _ (by exact H.out.rs) hs (by decide) (ascii_of_all (by decide))).mono ?_
  rintro e w1 ⟨rfl, hg1, p1, h1⟩
  have hup := upto_len [9, 10, 12, 32, 47, 62] l
  have h1' : Rs w1 R s p1 L0 v := HL0.out ▸ h1
  clear h1
  go_wp2_with fail
  refine (small_s _ _ (by omega)).mono ?_
  rintro e w2 ⟨rfl, hb2⟩
  have G2 := gB hg1 hb2
  have h2 := h1'.grown hb2
  clear hg1 hb2 h1' hup
  rw [HN.out]
  go_wp2_with fail
  have hTs : w.heap.size ≤ w2.heap.size := G2.size
  have Tg0 := Tg.start (T := w2.heap.size) (kind := kind) (name := N) H.out (gA G2 (.cells #[.int .u8 (kind : Int), .string ⟨N.toArray⟩, .slice none 0 0, .bool false, .string ⟨#[]⟩] 33 (0, 0))) (h2.alloc _) (bN w2 _) hTs
  clear G2 h2
  generalize w2.alloc (.cells #[.int .u8 (kind : Int), .string ⟨N.toArray⟩, .slice none 0 0, .bool false, .string ⟨#[]⟩] 33 (0, 0)) = W3 at *
  generalize hTT : w2.heap.size = T at *
  have HTT := Lib.hid hTT
  clear hTT
  have k1 := Tg0.c1
  refine (made_s N [] _ (by omega)).mono ?_
  rintro e w' ⟨rfl, rfl⟩
  by_cases hm : Tk.made N [] = true
  · have HT2 : Hid (Tk.tag dec kind l = Tk.tagLoop dec kind N 17 L0 []) := HT.out.trans (if_neg (by simp [hm]))
    clear HT
    go_wp2_with fail
    go_step3
    go_upto_block 0 with (fail)
    clear k1 hm
    have HTg0 := Lib.hid Tg0
    clear Tg0
    go_cut [4] (fun _ wx => ∃ (p1 : Nat) (r : List UInt8) (av : Value) (acc : List Tk.At) (sf : Bool), Hid (Tg w R s v T kind N wx p1 r av acc sf) ∧ acc.length ≤ 16 ∧ Hid (Tk.finish kind N sf acc r = Tk.tag dec kind l))
    case first =>
      go_wp2_with fail
      go_loopg [4] 17 (fun f _ wr => ∃ (p2 : Nat) (L : List UInt8) (av : Value) (acc : List Tk.At), acc.length + f = 17 ∧ acc.length ≤ 16 ∧ Hid (Tg w R s v T kind N wr p2 L av acc false) ∧ Hid (Tk.tagLoop dec kind N f L acc = Tk.tag dec kind l))
      case atStart => exact ⟨p1, L0, _, [], rfl, by simp, HTg0, HT2.out.symm⟩
      case round =>
        clear HTg0
        obtain ⟨p2, L, av, acc, hgk, hacc, X, HL⟩ := hrel
        obtain ⟨f, rfl⟩ : ∃ f, gk = f + 1 := ⟨gk - 1, by omega⟩
        have HL1 := Lib.hid (tagLoop_step dec kind N f L acc)
        rw [HL.out] at HL1
        clear HL
        go_wp2_with fail
        refine (skip_s R s p2 L v _ (by exact X.out.rs) hs).mono ?_
        rintro e w4 ⟨rfl, hg4, p4, h4⟩
        have X4 := X.out.grown hg4 h4
        clear X hg4 h4
        obtain ⟨M, hM⟩ : ∃ M, Tk.skip L = M := ⟨_, rfl⟩
        rw [hM] at X4 HL1
        clear hM
        have hle4 := X4.rs.le
        have hln4 := X4.rs.len
        have k0 := X4.rs.rd.c0
        have k1 := X4.rs.rd.c1
        by_cases hend : M = []
        · subst hend
          have hpb : ((p4 : Int) == (s.size : Int)) = true := by simp at hln4 ⊢; omega
          have HE := Lib.hid (HL1.out.trans (if_pos rfl))
          clear HL1 hln4
          go_wp2_with fail
          go_quiet (fail)
          go_wp2
          go_ret
          exact .err ((X4.drews _).sta H.out).bel 40 (by decide) HE.out rfl
        · have hpos : 0 < M.length := List.length_pos_iff.2 hend
          have hpb : ((p4 : Int) == (s.size : Int)) = false := by
            have hne : p4 ≠ s.size := by omega
            simp; omega
          have HL2 := Lib.hid (HL1.out.trans (if_neg hend))
          clear HL1 hend hln4
          go_wp2_with fail
          go_quiet (fail)
          go_wp2_with fail
          have X5 := X4.drews nq
          clear X4 k0 k1
          generalize w4.drewN nq = w5 at *
          refine (has_s R s p4 M v ⟨#[62]⟩ _ (by exact X5.rs) hs).mono ?_
          rintro e w6 ⟨rfl, n6, rfl⟩
          have E1 : Hid (Lib.hasPrefix M ([62] : List UInt8) = Lib.hasPrefix M (⟨#[62]⟩ : ByteArray).data.toList) := rfl
          rw [← E1.out]
          have X6 := X5.drews n6
          clear X5 E1
          generalize w5.drewN n6 = w6 at *
          by_cases q1 : Lib.hasPrefix M [62] = true
          · have hl1 := pre_len q1
            have HF := Lib.hid (HL2.out.trans (if_pos q1))
            have k1 := X6.rs.rd.c1
            have kf := X6.rs.rd.free 1
            have hle6 := X6.rs.le
            have X7 := Lib.hid (X6.add 1 hl1 ((p4 : Int) + 1) rfl)
            clear X6 HL2 hl1
            go_wp2_with fail
            go_meet
            exact ⟨_, _, _, _, _, X7, hacc, Lib.hid HF.out.symm⟩
          · have q1' : Lib.hasPrefix M [62] = false := by simpa using q1
            have HL3 := Lib.hid (HL2.out.trans (if_neg q1))
            clear HL2 q1
            go_wp2_with fail
            refine (has_s R s p4 M v ⟨#[47, 62]⟩ _ (by exact X6.rs) hs).mono ?_
            rintro e w7 ⟨rfl, n7, rfl⟩
            have E1 : Hid (Lib.hasPrefix M ([47, 62] : List UInt8) = Lib.hasPrefix M (⟨#[47, 62]⟩ : ByteArray).data.toList) := rfl
            rw [← E1.out]
            have X7 := X6.drews n7
            clear X6 E1
            generalize w6.drewN n7 = w7 at *
            by_cases q2 : Lib.hasPrefix M [47, 62] = true
            · have hl1 := pre_len q2
              have HF := Lib.hid (HL3.out.trans (if_pos q2))
              have k1 := X7.rs.rd.c1
              have kf := X7.rs.rd.free 1
              have k3 := X7.free 3
              have d3 := X7.c3
              have hle6 := X7.rs.le
              have hne := blk_ne X7.blk X7.rs.rd (by decide)
              have X8 := Lib.hid (X7.add 2 hl1 ((p4 : Int) + 2) rfl).selfed
              clear X7 HL3 hl1
              go_wp2_with fail
              go_meet
              exact ⟨_, _, _, _, _, X8, hacc, Lib.hid HF.out.symm⟩
            · have q2' : Lib.hasPrefix M [47, 62] = false := by simpa using q2
              have HL4 := Lib.hid (HL3.out.trans (if_neg q2))
              clear HL3 q2
              go_wp2_with fail
              refine (has_s R s p4 M v ⟨#[47]⟩ _ (by exact X7.rs) hs).mono ?_
              rintro e w8 ⟨rfl, n8, rfl⟩
              have E1 : Hid (Lib.hasPrefix M ([47] : List UInt8) = Lib.hasPrefix M (⟨#[47]⟩ : ByteArray).data.toList) := rfl
              rw [← E1.out]
              have X8 := X7.drews n8
              clear X7 E1
              generalize w7.drewN n8 = w8 at *
              by_cases q3 : Lib.hasPrefix M [47] = true
              · have HF := Lib.hid (HL4.out.trans (if_pos q3))
                clear HL4
                go_wp2
                go_ret
                exact .err (X8.sta H.out).bel 40 (by decide) HF.out rfl
              · have q3' : Lib.hasPrefix M [47] = false := by simpa using q3
                have HL5 := Lib.hid (HL4.out.trans (if_neg q3))
                clear HL4 q3
                go_wp2_with fail
                refine (attr_any HD.out HI.out R s p4 M v _ (by exact X8.rs) (by exact (X8.sta H.out).gl HGL.out hB5) (by have := H.out.hB; omega) hs).mono ?_
                rintro e w9 ⟨hg9, x, y, k, p9, M9, rfl, h9, hres⟩
                have X9 := X8.grown hg9 h9
                clear X8 hg9 h9
                rcases hres with ⟨k', hk0, rfl, hE⟩ | ⟨rfl, a, hE, rfl, rfl⟩
                · have hkb : ((k' : Int) != 0) = true := by simpa using hk0
                  have HF : Hid (Tk.tag dec kind l = .inl k') := HL5.out.trans (by rw [hE])
                  clear HL5 hE
                  go_wp2
                  go_ret
                  exact .err ((X9.alloc _).sta H.out).bel k' hk0 HF.out rfl
                · have HL6 : Hid (Tk.tag dec kind l = if acc.any (fun b => a.name = b.name) = true then .inl 41 else if acc.length = 16 then .inl 3 else Tk.tagLoop dec kind N f M9 (acc ++ [a])) := HL5.out.trans (by rw [hE])
                  clear HL5 hE
                  obtain ⟨aa, cap, rfl⟩ := own_shape X9.own
                  have X10 := X9.alloc (.cells #[.string ⟨a.name.toArray⟩, .string ⟨a.value.toArray⟩] 35 (0, 0))
                  have b10 := bN w9 (.cells #[.string ⟨a.name.toArray⟩, .string ⟨a.value.toArray⟩] 35 (0, 0))
                  have c2 : (w9.alloc (.cells #[.string ⟨a.name.toArray⟩, .string ⟨a.value.toArray⟩] 35 (0, 0))).cell? ⟨T, 2, none⟩ = _ := X10.c2
                  have hAl : aa ≠ none → T < w9.heap.size := fun _ => blk_lt X9.blk
                  clear X9
                  go_upto_block 3 with (fail)
                  clear c2 hAl
                  generalize w9.alloc (.cells #[.string ⟨a.name.toArray⟩, .string ⟨a.value.toArray⟩] 35 (0, 0)) = WA at *
                  generalize w9.heap.size = A at *
                  go_wp2_with fail
                  go_loopg [67] acc.length (fun g i wr => ∃ n : Nat, i = .int .i64 (n : Int) ∧ n + g = acc.length ∧ Hid (Below WA.heap.size WA wr) ∧ Hid ((acc.take n).any (fun b => decide (a.name = b.name)) = false))
                  case atStart => exact ⟨0, rfl, by omega, Below.refl _ _, rfl⟩
                  case round =>
                    obtain ⟨n, rfl, hng, hb, hany⟩ := hrel
                    have X11 := X10.below hb.out
                    have b11 := bB b10 hb.out
                    by_cases hn : n < acc.length
                    · have hnb : (n : Int) < (acc.length : Int) := by omega
                      obtain ⟨g', rfl⟩ : ∃ g', gk = g' + 1 := ⟨gk - 1, by omega⟩
                      obtain ⟨g, rfl, e0, e1⟩ := attr_at X11.own n hn
                      obtain ⟨c, hc⟩ : ∃ c, acc[n] = c := ⟨_, rfl⟩
                      rw [hc] at e0 e1
                      have a0 : (wr.alloc (.cells #[.string ⟨c.name.toArray⟩, .string ⟨c.value.toArray⟩] 35 (0, 0))).cell? ⟨A, 0, none⟩ = some (.string ⟨a.name.toArray⟩) := blk_cell (bA b11 _) 0
                      by_cases hq : a.name = c.name
                      · have hqb : (a.name == c.name) = true := by simp [hq]
                        have hq2 : Hid (acc.any (fun b => decide (a.name = b.name)) = true) := List.any_eq_true.2 ⟨acc[n], List.getElem_mem hn, by rw [hc]; simp [hq]⟩
                        have HF := Lib.hid (HL6.out.trans (if_pos hq2.out))
                        clear HL6 hq hc hq2 hany
                        go_wp2
                        go_ret
                        exact .err ((X11.alloc _).sta H.out).bel 41 (by decide) HF.out rfl
                      · have hqb : (a.name == c.name) = false := by simp [hq]
                        have hany2 : Hid ((acc.take (n + 1)).any (fun b => decide (a.name = b.name)) = false) := by
                          show _ = _
                          rw [List.take_succ_eq_append_getElem hn, List.any_append, hany.out, hc]; simp [hq]
                        clear hany hq hc
                        go_wp2_with fail
                        go_roundg g'
                        case measure => omega
                        case rel => exact ⟨n + 1, rfl, by omega, hb.out.alloc hb.out.size _, hany2⟩
                    · have hnb : ¬ (n : Int) < (acc.length : Int) := by omega
                      have hany2 : Hid (acc.any (fun b => decide (a.name = b.name)) = false) := by
                        have := hany.out; rw [List.take_of_length_le (by omega)] at this; exact this
                      have HL7 := Lib.hid (HL6.out.trans (if_neg (by rw [hany2.out]; decide)))
                      clear HL6 hany hany2
                      have c2 := X11.c2
                      have a0 : wr.cell? ⟨A, 0, none⟩ = some (.string ⟨a.name.toArray⟩) := blk_cell b11 0
                      have a1 : wr.cell? ⟨A, 1, none⟩ = some (.string ⟨a.value.toArray⟩) := blk_cell b11 1
                      by_cases h16 : acc.length = 16
                      · have h16b : ((acc.length : Int) == 16) = true := by rw [h16]; rfl
                        have HF := Lib.hid (HL7.out.trans (if_pos h16))
                        clear HL7 h16
                        go_wp2
                        go_ret
                        exact .err (X11.sta H.out).bel 3 (by decide) HF.out rfl
                      have h16b : ((acc.length : Int) == 16) = false := by simp; omega
                      have HL8 := Lib.hid (HL7.out.trans (if_neg h16))
                      clear HL7
                      have hlt16 : acc.length < 16 := by omega
                      clear h16
                      have X12 := X11.alloc (.cells #[.string ⟨a.name.toArray⟩, .string ⟨a.value.toArray⟩] 35 (0, 0))
                      have hsz := X11.gr.size
                      obtain ⟨i0, hi0, hz0, hz1, hz2⟩ := info_parts attrInfo
                      go_wp2_with (at_builtin; refine wpList_append_lies _ (by rfl) _ _ _ (by rfl) w.heap.size 35 i0 _ 2 32 Tryz.underlying31 hi0 hz0 hz1 hz2 rfl (by omega) (.slice aa acc.length cap) acc.length (attrCells acc) (by rfl) (by exact X12.own) ⟨wr.heap.size, 0, none⟩ 1 1 [str a.name, str a.value] (by rfl) (by rfl) (by exact World.news_of_block (bN wr _)) (by simp [str, Value.oneCell']) (by omega) (by unfold maxLen; omega) (by omega) (by simp; omega) (wr.heap.size + 1) (by simp) ?_; intro gg cap7 w7 hown7 hgrow7 _ _; have b7 := bG X12.blk hgrow7 (fun e => own_ne X12.own X12.blk (by decide) e.symm); have d2 : w7.cell? ⟨T, 2, none⟩ = some _ := blk_cell b7 2; have f2 : w7.frozen? ⟨T, 2, none⟩ = false := blk_free b7 2)
                      have X13 := Lib.hid (X12.appended (a := a) hgrow7 hown7)
                      go_roundg f
                      case measure => omega
                      case rel => exact ⟨_, _, _, _, by rw [List.length_append]; simp; omega, by rw [List.length_append]; simp; omega, X13, Lib.hid HL8.out.symm⟩
    case rest =>
      clear HTg0
      obtain ⟨p5, r, av, acc, sf, X, hacc, HF⟩ := hcut
      obtain ⟨aa, cap, rfl⟩ := own_shape X.out.own
      have c0 := X.out.c0
      have c1 := X.out.c1
      have c2 := X.out.c2
      have c3 := X.out.c3
      have c4 := X.out.c4
      by_cases hbad : kind = 2 ∧ (sf = true ∨ acc ≠ [])
      · have HF2 : Hid (Tk.tag dec kind l = .inl 40) := HF.out.symm.trans (if_pos hbad)
        obtain ⟨rfl, hb⟩ := hbad
        have hkb : (((2 : Nat) : Int) == 2) = true := rfl
        rcases Bool.eq_false_or_eq_true sf with rfl | rfl
        · clear hb
          go_wp2
          go_ret
          exact .err (X.out.sta H.out).bel 40 (by decide) HF2.out rfl
        · have hpos : 0 < acc.length := List.length_pos_iff.2 (by rcases hb with h | h; cases h; exact h)
          have hp2 : (0 : Int) < (acc.length : Int) := by omega
          clear hb
          go_wp2
          go_ret
          exact .err (X.out.sta H.out).bel 40 (by decide) HF2.out rfl
      · have HF2 : Hid (Tk.tag dec kind l = .inr (⟨kind, N, acc, sf, []⟩, r)) := HF.out.symm.trans (if_neg hbad)
        clear HF
        have X2 := Lib.hid X.out
        obtain ⟨avs, hal, hao, haa⟩ := (X.out.sta H.out).own
        have r2 := X.out.rs.rd.c2
        have hbase := (X.out.sta H.out).base
        have hav := Lib.hid (own_mono X.out.own H.out.base)
        have S1 := Lib.hid (X.out.sta H.out)
        clear X X2
        obtain ⟨i0, hi0, hz0, hz1, hz2⟩ := info_parts tokInfo
        have HAL := Lib.hid hal
        have HAO := Lib.hid hao
        have HAA := Lib.hid haa
        clear hal hao haa
        rcases hk with rfl | rfl
        · have hkb : (((1 : Nat) : Int) == 2) = false := rfl
          clear hbad
          go_wp2_with fail
          have r2' : (wc.alloc (.cells #[.int .u8 1, .string ⟨N.toArray⟩, .slice aa acc.length cap, .bool sf, .string ⟨#[]⟩] 33 (0, 0))).cell? ⟨R, 2, none⟩ = some v := ((S1.out.alloc _).rs.rd).c2
          go_region_law (refine step_append_lies _ (by rfl) _ _ _ (by rfl) B 33 i0 _ 5 72 Tryz.underlying23 hi0 hz0 hz1 hz2 rfl (by omega) v ts.length (tokCells ts avs) (by rfl) (by exact World.ownsRow.drew (World.ownsRow.alloc HAO.out _)) ⟨wc.heap.size, 0, none⟩ 1 1 (tokCell ⟨1, N, acc, sf, []⟩ (.slice aa acc.length cap)) (by rfl) (by rfl) (by exact World.news_of_block (w := World.drew _) (heap_alloc_new wc _)) (by simp [tokCell, str, Value.oneCell']) (by omega) (by unfold maxLen; omega) (by omega) (by show B ≤ (World.alloc wc _).heap.size; simp; omega) (wc.heap.size + 1) (by show (World.alloc wc _).heap.size = _; simp) ?_; intro gg cap7 w7 hown7 hgrow7 _ _; have hR7 := (S1.out.drews 1).appended (w1 := w7) (by exact HAO.out) (by exact hgrow7); have d2 := hR7.c2; have g2 := hR7.free 2)
          all_goals (go_wp2; go_ret)
          all_goals exact (S1.out.drews 1).done (t := ⟨1, N, acc, sf, []⟩) (av := .slice aa acc.length cap) HAL.out (by exact HAO.out) (by exact HAA.out) (by exact hav.out) (by exact hgrow7) hown7 HF2.out
        · have hsf : sf = false := by
            cases sf
            · rfl
            · exact absurd ⟨rfl, .inl rfl⟩ hbad
          have hac : acc = [] := by
            cases acc
            · rfl
            · exact absurd ⟨rfl, .inr (by simp)⟩ hbad
          subst hsf hac
          have hkb : (((2 : Nat) : Int) == 2) = true := rfl
          clear hbad
          go_wp2_with fail
          have r2' : (wc.alloc (.cells #[.int .u8 2, .string ⟨N.toArray⟩, .slice aa 0 cap, .bool false, .string ⟨#[]⟩] 33 (0, 0))).cell? ⟨R, 2, none⟩ = some v := ((S1.out.alloc _).rs.rd).c2
          go_region_law (refine step_append_lies _ (by rfl) _ _ _ (by rfl) B 33 i0 _ 5 72 Tryz.underlying23 hi0 hz0 hz1 hz2 rfl (by omega) v ts.length (tokCells ts avs) (by rfl) (by exact World.ownsRow.drew (World.ownsRow.alloc HAO.out _)) ⟨wc.heap.size, 0, none⟩ 1 1 (tokCell ⟨2, N, [], false, []⟩ (.slice aa 0 cap)) (by rfl) (by rfl) (by exact World.news_of_block (w := World.drew _) (heap_alloc_new wc _)) (by simp [tokCell, str, Value.oneCell']) (by omega) (by unfold maxLen; omega) (by omega) (by show B ≤ (World.alloc wc _).heap.size; simp; omega) (wc.heap.size + 1) (by show (World.alloc wc _).heap.size = _; simp) ?_; intro gg cap7 w7 hown7 hgrow7 _ _; have hR7 := (S1.out.drews 1).appended (w1 := w7) (by exact HAO.out) (by exact hgrow7); have d2 := hR7.c2; have g2 := hR7.free 2)
          all_goals (go_wp2; go_ret)
          all_goals exact (S1.out.drews 1).done (t := ⟨2, N, [], false, []⟩) (av := .slice aa 0 cap) HAL.out (by exact HAO.out) (by exact HAA.out) (by exact hav.out) (by exact hgrow7) hown7 HF2.out
  · have hm' : Tk.made N [] = false := by simpa using hm
    have HT2 : Hid (Tk.tag dec kind l = .inl 40) := HT.out.trans (if_pos hm')
    clear HT hm
    go_wp2
    go_ret
    exact .err (Tg0.sta H.out).bel 40 (by decide) HT2.out rfl
end Go.Proofs.YtaohdicilfabeaaGreatDoor

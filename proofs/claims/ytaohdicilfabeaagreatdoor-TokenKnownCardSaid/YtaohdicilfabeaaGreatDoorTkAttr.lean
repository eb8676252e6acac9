/- The reader's attr: an attribute, walked. -/
import Derived.Test.YtaohdicilfabeaaGreatDoorTkGl
namespace Go.Proofs.YtaohdicilfabeaaGreatDoor
open Go.RowKit
set_option linter.unusedVariables false
set_option linter.unusedSimpArgs false

/-- Decode's contract, whatever it computes. -/
def DecodeSaid (nm : List (List UInt8 × Int × Bool)) (ot : List Int) (dec : List UInt8 → Bool → List UInt8) : Prop :=
  ∀ (l : List UInt8) (b : Bool) (w : World), l.length ≤ 1000000 → Gl nm ot w →
    Calls Tryz.prog 33 #[.string ⟨l.toArray⟩, .bool b] w fun e w' => e = .returned (.string ⟨(dec l b).toArray⟩) ∧ Below w.heap.size w w'

/-- Is one of these five bytes in a word? -/
def bad (l : List UInt8) : Bool := l.any ([34, 39, 60, 61, 96].contains ·)
def IndexAnySaid : Prop := ∀ (l : List UInt8) (w : World), l.length ≤ 1000000 →
  Calls Tryz.prog 84 #[.string ⟨l.toArray⟩, .string ⟨#[34, 39, 60, 61, 96]⟩] w fun e w' => ∃ i : Int, e = .returned (.int .i64 i) ∧ decide (0 ≤ i) = bad l ∧ Below w.heap.size w w'
theorem IndexAnySaid.yes (h : IndexAnySaid) (l : List UInt8) (w : World) (hl : l.length ≤ 1000000) (hb : bad l = true) :
    Calls Tryz.prog 84 #[.string ⟨l.toArray⟩, .string ⟨#[34, 39, 60, 61, 96]⟩] w fun e w' => ∃ i : Int, 0 ≤ i ∧ e = .returned (.int .i64 i) ∧ Below w.heap.size w w' :=
  (h l w hl).mono fun e w' ⟨i, h1, h2, h3⟩ => ⟨i, by rw [hb] at h2; exact of_decide_eq_true h2, h1, h3⟩
theorem IndexAnySaid.no (h : IndexAnySaid) (l : List UInt8) (w : World) (hl : l.length ≤ 1000000) (hb : bad l = false) :
    Calls Tryz.prog 84 #[.string ⟨l.toArray⟩, .string ⟨#[34, 39, 60, 61, 96]⟩] w fun e w' => ∃ i : Int, ¬ 0 ≤ i ∧ e = .returned (.int .i64 i) ∧ Below w.heap.size w w' :=
  (h l w hl).mono fun e w' ⟨i, h1, h2, h3⟩ => ⟨i, by rw [hb] at h2; exact of_decide_eq_false h2, h1, h3⟩

def AttrPost (dec : List UInt8 → Bool → List UInt8) (R : Nat) (s : ByteArray) (l : List UInt8) (v : Value) (w : World) (e : Ending) (w' : World) : Prop :=
  w.grownBy w' (some R) ∧ ∃ (x y : ByteArray) (k : Int) (p' : Nat) (r : List UInt8), e = .returned (.tuple #[.agg #[.string x, .string y], .int .i64 k]) ∧ Rs w' R s p' r v ∧
    ((∃ k' : Nat, k' ≠ 0 ∧ k = k' ∧ Tk.attr dec l = .inl k') ∨ (k = 0 ∧ ∃ a, Tk.attr dec l = .inr (a, r) ∧ x = ⟨a.name.toArray⟩ ∧ y = ⟨a.value.toArray⟩))

theorem made_s (l o : List UInt8) (w : World) (hs : l.length ≤ 1000000) :
    Calls Tryz.prog 55 #[.string ⟨l.toArray⟩, .string ⟨o.toArray⟩] w fun e w' => e = .returned (.bool (Tk.made l o)) ∧ w = w' :=
  made_any ⟨l.toArray⟩ ⟨o.toArray⟩ w (by show l.toArray.size ≤ _; simp; omega)
theorem attrName_len (l : List UInt8) : (Tk.small (Tk.attrName l)).length ≤ l.length := by
  unfold Tk.small; rw [List.length_map]; exact upto_len _ l
theorem AttrPost.mk {dec : List UInt8 → Bool → List UInt8} {R : Nat} {s : ByteArray} {l : List UInt8} {v : Value} {w : World} {e : Ending} {w' : World} (x y : ByteArray) (k : Int) {p' : Nat} {r : List UInt8} (he : e = .returned (.tuple #[.agg #[.string x, .string y], .int .i64 k])) (hg : w.grownBy w' (some R)) (hr : Rs w' R s p' r v)
    (h : (∃ k' : Nat, k' ≠ 0 ∧ k = k' ∧ Tk.attr dec l = .inl k') ∨ (k = 0 ∧ ∃ a, Tk.attr dec l = .inr (a, r) ∧ x = ⟨a.name.toArray⟩ ∧ y = ⟨a.value.toArray⟩)) : AttrPost dec R s l v w e w' :=
  ⟨hg, x, y, k, p', r, he, hr, h⟩
theorem bodyPost_two {fn : Func} {post : Ending → World → Prop} {t : Array Value} {W : World} {A : Nat} {X Y X0 Y0 : Value} {k : Int} {T : TypeId} (hf : fn = Tryz.f58)
    (b : W.heap[A]? = some (.cells #[X0, Y0] T (0, 0))) (h2 : t[2]? = some (.pointer (some ⟨A, 0, none⟩))) (h3 : t[3]? = some (.int .i64 k)) (hT : T = 35)
    (hq : post (.returned (.tuple #[.agg #[X, Y], .int .i64 k])) ((W.setCell ⟨A, 0, none⟩ X).setCell ⟨A, 1, none⟩ Y)) :
    bodyPost Tryz.prog fn post Exit.ret { tmps := t, defers := [] } ((W.setCell ⟨A, 0, none⟩ X).setCell ⟨A, 1, none⟩ Y) := by
  subst hf
  have bR := bP (bP b 0 X rfl) 1 Y rfl
  generalize (W.setCell ⟨A, 0, none⟩ X).setCell ⟨A, 1, none⟩ Y = W4 at *
  have r0 : W4.cell? ⟨A, 0, none⟩ = some X := blk_cell bR 0
  have r1 : W4.cell? ⟨A, 1, none⟩ = some Y := blk_cell bR 1
  exact bodyPost_ret (v := .tuple #[.agg #[X, Y], .int .i64 k]) (by simp [results, Tryz.results58, go_sem, r0, r1, h2, h3]) rfl hq

/-- The end of each way through attr: what the result's variable holds is handed back. -/
theorem attr_fin {dec : List UInt8 → Bool → List UInt8} {R : Nat} {s : ByteArray} {l : List UInt8} {v : Value} {w : World} {t : Array Value} {W : World} {A : Nat} {X0 Y0 : Value} {x y : ByteArray} {k : Int} {p' : Nat} {r : List UInt8}
    (b : W.heap[A]? = some (.cells #[X0, Y0] 35 (0, 0))) (h : Rs W R s p' r v) (hne : R < A) (G : w.grownBy W (some R)) (hA : w.heap.size ≤ A)
    (h2 : t[2]? = some (.pointer (some ⟨A, 0, none⟩))) (h3 : t[3]? = some (.int .i64 k))
    (hc : (∃ k' : Nat, k' ≠ 0 ∧ k = k' ∧ Tk.attr dec l = .inl k') ∨ (k = 0 ∧ ∃ a, Tk.attr dec l = .inr (a, r) ∧ x = ⟨a.name.toArray⟩ ∧ y = ⟨a.value.toArray⟩)) :
    bodyPost Tryz.prog Tryz.f58 (AttrPost dec R s l v w) Exit.ret { tmps := t, defers := [] } ((W.setCell ⟨A, 0, none⟩ (.string x)).setCell ⟨A, 1, none⟩ (.string y)) :=
  bodyPost_two rfl b h2 h3 rfl (AttrPost.mk x y k rfl (gS (gS G A 0 _ (.inr hA)) A 1 _ (.inr hA)) ((h.other A 0 _ (by omega)).other A 1 _ (by omega)) hc)

theorem Rs.inc {w : World} {R : Nat} {s : ByteArray} {p : Nat} {l : List UInt8} {v : Value} (h : Rs w R s p l v) (hq : 1 ≤ l.length) : Rs (w.setCell ⟨R, 1, none⟩ (.int .i64 ((p : Int) + 1))) R s (p + 1) (l.drop 1) v := h.set 1 hq
theorem pre_len {l w : List UInt8} (h : Lib.hasPrefix l w = true) : w.length ≤ l.length := by
  unfold Lib.hasPrefix at h; exact (List.isPrefixOf_iff_prefix.1 h).length_le
theorem pre_one {l : List UInt8} {q : UInt8} (h : Lib.hasPrefix l [q] = true) : ∃ r, l = q :: r := by
  unfold Lib.hasPrefix at h
  obtain ⟨r, hr⟩ := List.isPrefixOf_iff_prefix.1 h
  exact ⟨r, hr.symm⟩
/-- The byte at the reader's place. -/
theorem Rs.byte {w : World} {R : Nat} {s : ByteArray} {p : Nat} {l : List UInt8} {v : Value} (h : Rs w R s p l v) {q : UInt8} (hq : Lib.hasPrefix l [q] = true) : s.extract p (p + 1) = ⟨#[q]⟩ := by
  obtain ⟨r, hr⟩ := pre_one hq
  have hl := h.len
  rw [hr] at hl
  have e := drop_extract s p 1 (by simp at hl; omega)
  rw [h.dr, hr] at e
  have e2 : (s.extract p (p + 1)).data.toList = [q] := by rw [e]; rfl
  have e3 : (s.extract p (p + 1)).data = #[q] := by rw [← Array.toArray_toList (xs := (s.extract p (p + 1)).data), e2]
  rw [← e3]
theorem attr_of_value (dec : List UInt8 → Bool → List UInt8) {l : List UInt8} (hm : Tk.made (Tk.small (Tk.attrName l)) [45, 95] = true) (heq : Lib.hasPrefix (Tk.attrRest l) [61] = true) :
    (∀ k, Tk.value (Tk.skip ((Tk.attrRest l).drop 1)) = .inl k → Tk.attr dec l = .inl k) ∧ (∀ v r, Tk.value (Tk.skip ((Tk.attrRest l).drop 1)) = .inr (v, r) → Tk.attr dec l = .inr (⟨Tk.small (Tk.attrName l), dec v true⟩, r)) := by
  constructor
  · intro k hk; unfold Tk.attr; rw [if_neg (by simp [hm]), if_pos heq, hk]
  · intro v r hk; unfold Tk.attr; rw [if_neg (by simp [hm]), if_pos heq, hk]
theorem value_q {L : List UInt8} {q : UInt8} (h : (Lib.hasPrefix L [34] = true ∧ q = 34) ∨ (Lib.hasPrefix L [34] = false ∧ Lib.hasPrefix L [39] = true ∧ q = 39)) :
    Tk.value L = if Tk.past [q] (L.drop 1) = [] then .inl 41 else .inr (Tk.upto [q] (L.drop 1), (Tk.past [q] (L.drop 1)).drop 1) := by
  unfold Tk.value
  rcases h with ⟨h1, rfl⟩ | ⟨h1, h2, rfl⟩
  · rw [if_pos h1]
  · rw [if_neg (by simp [h1]), if_pos h2]

set_option maxRecDepth 100000 in
set_option maxHeartbeats 2000000 in
theorem attr_any {nm : List (List UInt8 × Int × Bool)} {ot : List Int} {dec : List UInt8 → Bool → List UInt8} (hD : DecodeSaid nm ot dec) (hI : IndexAnySaid) (R : Nat) (s : ByteArray) (p : Nat) (l : List UInt8) (v : Value) (w : World) (h : Rs w R s p l v) (hgl : Gl nm ot w) (hR : 5 ≤ R) (hs : s.size ≤ 1000000) :
    Calls Tryz.prog 58 #[.pointer (some ⟨R, 0, none⟩)] w (AttrPost dec R s l v w) := by
  have hRlt := blk_lt h.rd
  have hll := h.len
  have H := Lib.hid h
  have HGL := Lib.hid hgl
  have HD := Lib.hid hD
  have HI := Lib.hid hI
  clear h hgl hD hI
  go_enter Tryz.func58, Tryz.ntmps58
  go_wp2_with fail
  refine (upto_s R s _ p l v _ (by exact H.out.alloc _) hs (by decide) (ascii_of_all (by decide))).mono ?_
  rintro e w1 ⟨rfl, hg1, p1, h1⟩
  have G1 : w.grownBy w1 (some R) := gT (gA (gRefl w _) _) hg1
  have b2 := bG (bN w _) hg1 (by simp; omega)
  clear hg1
  have hle := upto_len [9, 10, 12, 32, 61, 47, 62] l
  go_wp2_with fail
  refine (small_s _ _ (by show (Tk.upto [9, 10, 12, 32, 61, 47, 62] l).length ≤ _; omega)).mono ?_
  rintro e w2 ⟨rfl, hb2⟩
  have G2 := gB G1 hb2
  have b2' := bB b2 hb2
  have h2 := h1.grown hb2
  have hA : w.heap.size < w2.heap.size := blk_lt b2'
  clear b2 G1 hb2 h1 hle
  have e1 : (Tk.upto [9, 10, 12, 32, 61, 47, 62] l) = Tk.attrName l := rfl
  have e2 : (Tk.past [9, 10, 12, 32, 61, 47, 62] l) = Tk.past (Tk.blanks ++ [61, 47, 62]) l := rfl
  go_wp2_with fail
  clear e1 e2
  have hn := attrName_len l
  have b4 := bN w2 (Obj.cells #[.string ⟨(Tk.small (Tk.attrName l)).toArray⟩, .string ⟨#[]⟩] 35)
  have b3 := bA b2' (Obj.cells #[.string ⟨(Tk.small (Tk.attrName l)).toArray⟩, .string ⟨#[]⟩] 35)
  have h3 := h2.alloc (Obj.cells #[.string ⟨(Tk.small (Tk.attrName l)).toArray⟩, .string ⟨#[]⟩] 35)
  have G3 := gA G2 (Obj.cells #[.string ⟨(Tk.small (Tk.attrName l)).toArray⟩, .string ⟨#[]⟩] 35)
  clear b2' h2 G2
  generalize w2.alloc (Obj.cells #[.string ⟨(Tk.small (Tk.attrName l)).toArray⟩, .string ⟨#[]⟩] 35) = W3 at *
  generalize w2.heap.size = A4 at *
  generalize hA2 : w.heap.size = A2 at *
  have HA2 := Lib.hid hA2
  clear hA2
  refine (made_s _ _ _ (by omega)).mono ?_
  rintro e w' ⟨rfl, rfl⟩
  by_cases hm : Tk.made (Tk.small (Tk.attrName l)) [45, 95] = true
  · have hm0 : ¬ Tk.made (Tk.small (Tk.attrName l)) [45, 95] = false := by simp [hm]
    have HM := Lib.hid hm0
    clear hm0
    go_wp2_with fail
    refine (skip_s R s p1 _ v _ h3 hs).mono ?_
    rintro e w5 ⟨rfl, hg5, p5, h5'⟩
    have h5 : Rs w5 R s p5 (Tk.attrRest l) v := h5'
    have G5 := gT G3 hg5
    have b5 := bG b3 hg5 (by simp; omega)
    have d5 := bG b4 hg5 (by simp; omega)
    clear h3 G3 b3 b4 hg5 h5'
    have hl5 : (Tk.attrRest l).length ≤ s.size := by have := h5.len; omega
    go_wp2_with fail
    refine (has_s R s p5 _ v ⟨#[61]⟩ _ h5 hs).mono ?_
    rintro e w6 ⟨rfl, n6, rfl⟩
    have HE : Hid (Lib.hasPrefix (Tk.attrRest l) ([61] : List UInt8) = Lib.hasPrefix (Tk.attrRest l) (⟨#[61]⟩ : ByteArray).data.toList) := rfl
    rw [← HE.out]
    clear HE
    have h6 := h5.drews n6
    have G6 := gD G5 n6
    have b6 : (w5.drewN n6).heap[A2]? = _ := b5
    have d6 : (w5.drewN n6).heap[A4]? = _ := d5
    clear h5 G5 b5 d5
    generalize w5.drewN n6 = w6 at *
    by_cases heq : Lib.hasPrefix (Tk.attrRest l) [61] = true
    · have hl6 := pre_len heq
      have hle6 := h6.le
      have hlen6 := h6.len
      have k1 := h6.rd.c1
      have kf := h6.rd.free 1
      have h7 := h6.inc hl6
      have G7 := gS G6 R 1 (.int .i64 ((p5 : Int) + 1)) (.inl rfl)
      have b7 := bS b6 R 1 (.int .i64 ((p5 : Int) + 1)) (by omega)
      have d7 := bS d6 R 1 (.int .i64 ((p5 : Int) + 1)) (by omega)
      clear h6 G6 b6 d6
      go_wp2_with fail
      clear k1 kf
      generalize w6.setCell ⟨R, 1, none⟩ (.int .i64 ((p5 : Int) + 1)) = w7 at *
      refine (skip_s R s _ _ v _ h7 hs).mono ?_
      rintro e w8 ⟨rfl, hg8, p8, h8⟩
      have G8 := gT G7 hg8
      have b8 := bG b7 hg8 (by simp; omega)
      have d8 := bG d7 hg8 (by simp; omega)
      clear h7 G7 b7 d7 hg8
      obtain ⟨L, hL⟩ : ∃ L, Tk.skip ((Tk.attrRest l).drop 1) = L := ⟨_, rfl⟩
      rw [hL] at h8
      have HV := Lib.hid (attr_of_value dec hm heq)
      rw [hL] at HV
      clear hL
      have hlL := h8.len
      have hle8 := h8.le
      go_wp2_with fail
      refine (has_s R s p8 _ v ⟨#[34]⟩ _ h8 hs).mono ?_
      rintro e w9 ⟨rfl, n9, rfl⟩
      have HE : Hid (Lib.hasPrefix L ([34] : List UInt8) = Lib.hasPrefix L (⟨#[34]⟩ : ByteArray).data.toList) := rfl
      rw [← HE.out]
      clear HE
      have h9 := h8.drews n9
      have G9 := gD G8 n9
      have b9 : (w8.drewN n9).heap[A2]? = _ := b8
      have d9 : (w8.drewN n9).heap[A4]? = _ := d8
      clear h8 G8 b8 d8
      generalize w8.drewN n9 = w9 at *
      by_cases hq1 : Lib.hasPrefix L [34] = true
      · go_wp2_with fail
        have HQ := Lib.hid (value_q (L := L) (q := 34) (.inl ⟨hq1, rfl⟩))
        have hb1 : (1 : Nat) ≤ L.length := pre_len hq1
        obtain ⟨L1, hL1⟩ : ∃ L1, L.drop 1 = L1 := ⟨_, rfl⟩
        rw [hL1] at HQ
        have hL1l : L1.length ≤ L.length := by rw [← hL1, List.length_drop]; omega
        have HL1 := Lib.hid hL1
        clear hL1
        have HX := Lib.hid (h9.byte hq1)
        have k0 := h9.rd.c0
        have k1 := h9.rd.c1
        have kf := h9.rd.free 1
        have kb : (p8 : Int) + 1 ≤ (s.size : Int) := by omega
        go_quiet (fail)
        go_wp2_with fail
        clear k0 k1 kf
        rw [HX.out]
        have h12 := (h9.drews nq).inc hb1
        rw [HL1.out] at h12
        have G12 := gS (gD G9 nq) R 1 (.int .i64 ((p8 : Int) + 1)) (.inl rfl)
        have b12 := bS (show (w9.drewN nq).heap[A2]? = _ from b9) R 1 (.int .i64 ((p8 : Int) + 1)) (by omega)
        have d12 := bS (show (w9.drewN nq).heap[A4]? = _ from d9) R 1 (.int .i64 ((p8 : Int) + 1)) (by omega)
        clear h9 G9 b9 d9
        generalize (w9.drewN nq).setCell ⟨R, 1, none⟩ (.int .i64 ((p8 : Int) + 1)) = w12 at *
        refine (upto_s R s _ _ _ v _ h12 hs (by decide) (ascii_of_all (by decide))).mono ?_
        rintro e w13 ⟨rfl, hg13, p13, h13⟩
        have G13 := gT G12 hg13
        have b13 := bG b12 hg13 (by simp; omega)
        have d13 := bG d12 hg13 (by simp; omega)
        clear h12 G12 b12 d12 hg13
        have h13' : Rs w13 R s p13 (Tk.past [34] L1) v := h13
        clear h13
        have hlv : (Tk.upto [34] L1).length ≤ 1000000 := by have := upto_len [34] L1; omega
        have hle13 := h13'.le
        have hln13 := h13'.len
        have k0 := h13'.rd.c0
        have k1 := h13'.rd.c1
        have kf := h13'.rd.free 1
        by_cases hend : Tk.past [34] L1 = []
        · have HEND := Lib.hid hend
          have hpe : p13 = s.size := by rw [hend] at hln13; simp at hln13; omega
          have hpb : ((p13 : Int) == (s.size : Int)) = true := by rw [hpe]; simp
          clear hend hpe
          have c40 : w13.cell? ⟨A4, 0, none⟩ = some (.string ⟨(Tk.small (Tk.attrName l)).toArray⟩) := blk_cell d13 0
          have c41 : w13.cell? ⟨A4, 1, none⟩ = some (.string ⟨#[]⟩) := blk_cell d13 1
          have c20 : w13.cell? ⟨A2, 0, none⟩ = some (.string ⟨#[]⟩) := blk_cell b13 0
          have c21 : w13.cell? ⟨A2, 1, none⟩ = some (.string ⟨#[]⟩) := blk_cell b13 1
          have f20 := blk_free b13 0
          have f21 := blk_free b13 1
          go_wp2_with fail
          go_quiet (fail)
          go_wp2
          exact attr_fin (W := w13.drewN nq) b13 (h13'.drews _) hRlt (gD G13 _) (by rw [HA2.out]; exact Nat.le_refl _) rfl rfl (.inl ⟨41, by decide, rfl, HV.out.1 41 (by rw [HQ.out, if_pos HEND.out])⟩)
        · have HEND := Lib.hid hend
          have hpb : ((p13 : Int) == (s.size : Int)) = false := by
            have : 0 < (Tk.past [34] L1).length := List.length_pos_iff.2 hend
            have hne : p13 ≠ s.size := by omega
            simp; omega
          have hb2 : (1 : Nat) ≤ (Tk.past [34] L1).length := List.length_pos_iff.2 hend
          clear hend
          go_wp2_with fail
          go_quiet (fail)
          go_wp2_with fail
          have h14 := (h13'.drews nq).inc hb2
          have G14 := gS (gD G13 nq) R 1 (.int .i64 ((p13 : Int) + 1)) (.inl rfl)
          have b14 := bS (show (w13.drewN nq).heap[A2]? = _ from b13) R 1 (.int .i64 ((p13 : Int) + 1)) (by omega)
          have d14 := bS (show (w13.drewN nq).heap[A4]? = _ from d13) R 1 (.int .i64 ((p13 : Int) + 1)) (by omega)
          clear k0 k1 kf h13' G13 b13 d13
          generalize (w13.drewN nq).setCell ⟨R, 1, none⟩ (.int .i64 ((p13 : Int) + 1)) = w14 at *
          refine (HD.out (Tk.upto [34] L1) true _ hlv (by exact HGL.out.grown G14 hR)).mono ?_
          rintro e w15 ⟨rfl, hb15⟩
          have h15 := h14.grown hb15
          have G15 := gB G14 hb15
          have b15 := bB b14 hb15
          have d15 := bB d14 hb15
          clear h14 G14 b14 d14 hb15
          have c40 : w15.cell? ⟨A4, 0, none⟩ = some (.string ⟨(Tk.small (Tk.attrName l)).toArray⟩) := blk_cell d15 0
          have c41 : w15.cell? ⟨A4, 1, none⟩ = some (.string ⟨#[]⟩) := blk_cell d15 1
          have f41 := blk_free d15 1
          have c20 : w15.cell? ⟨A2, 0, none⟩ = some (.string ⟨#[]⟩) := blk_cell b15 0
          have c21 : w15.cell? ⟨A2, 1, none⟩ = some (.string ⟨#[]⟩) := blk_cell b15 1
          have f20 := blk_free b15 0
          have f21 := blk_free b15 1
          have hne24 : A2 ≠ A4 := by omega
          go_wp2
          exact attr_fin (bS b15 A4 1 _ hne24) (h15.other A4 1 _ (by omega)) hRlt (gS G15 A4 1 _ (.inr (by rw [HA2.out]; omega))) (by rw [HA2.out]; exact Nat.le_refl _) rfl rfl (.inr ⟨rfl, ⟨Tk.small (Tk.attrName l), dec (Tk.upto [34] L1) true⟩, HV.out.2 _ _ (by rw [HQ.out, if_neg HEND.out]), rfl, rfl⟩)
      · have hq1' : Lib.hasPrefix L [34] = false := by simpa using hq1
        go_wp2_with fail
        refine (has_s R s p8 _ v ⟨#[39]⟩ _ h9 hs).mono ?_
        rintro e w10 ⟨rfl, n10, rfl⟩
        have HE : Hid (Lib.hasPrefix L ([39] : List UInt8) = Lib.hasPrefix L (⟨#[39]⟩ : ByteArray).data.toList) := rfl
        rw [← HE.out]
        clear HE
        have h10 := h9.drews n10
        have G10 := gD G9 n10
        have b10 : (w9.drewN n10).heap[A2]? = _ := b9
        have d10 : (w9.drewN n10).heap[A4]? = _ := d9
        clear h9 G9 b9 d9
        generalize w9.drewN n10 = w10 at *
        by_cases hq2 : Lib.hasPrefix L [39] = true
        · go_wp2_with fail
          have HQ := Lib.hid (value_q (L := L) (q := 39) (.inr ⟨hq1', hq2, rfl⟩))
          have hb1 : (1 : Nat) ≤ L.length := pre_len hq2
          obtain ⟨L1, hL1⟩ : ∃ L1, L.drop 1 = L1 := ⟨_, rfl⟩
          rw [hL1] at HQ
          have hL1l : L1.length ≤ L.length := by rw [← hL1, List.length_drop]; omega
          have HL1 := Lib.hid hL1
          clear hL1
          have HX := Lib.hid (h10.byte hq2)
          have k0 := h10.rd.c0
          have k1 := h10.rd.c1
          have kf := h10.rd.free 1
          have kb : (p8 : Int) + 1 ≤ (s.size : Int) := by omega
          go_quiet (fail)
          go_wp2_with fail
          clear k0 k1 kf
          rw [HX.out]
          have h12 := (h10.drews nq).inc hb1
          rw [HL1.out] at h12
          have G12 := gS (gD G10 nq) R 1 (.int .i64 ((p8 : Int) + 1)) (.inl rfl)
          have b12 := bS (show (w10.drewN nq).heap[A2]? = _ from b10) R 1 (.int .i64 ((p8 : Int) + 1)) (by omega)
          have d12 := bS (show (w10.drewN nq).heap[A4]? = _ from d10) R 1 (.int .i64 ((p8 : Int) + 1)) (by omega)
          clear h10 G10 b10 d10
          generalize (w10.drewN nq).setCell ⟨R, 1, none⟩ (.int .i64 ((p8 : Int) + 1)) = w12 at *
          refine (upto_s R s _ _ _ v _ h12 hs (by decide) (ascii_of_all (by decide))).mono ?_
          rintro e w13 ⟨rfl, hg13, p13, h13⟩
          have G13 := gT G12 hg13
          have b13 := bG b12 hg13 (by simp; omega)
          have d13 := bG d12 hg13 (by simp; omega)
          clear h12 G12 b12 d12 hg13
          have h13' : Rs w13 R s p13 (Tk.past [39] L1) v := h13
          clear h13
          have hlv : (Tk.upto [39] L1).length ≤ 1000000 := by have := upto_len [39] L1; omega
          have hle13 := h13'.le
          have hln13 := h13'.len
          have k0 := h13'.rd.c0
          have k1 := h13'.rd.c1
          have kf := h13'.rd.free 1
          by_cases hend : Tk.past [39] L1 = []
          · have HEND := Lib.hid hend
            have hpe : p13 = s.size := by rw [hend] at hln13; simp at hln13; omega
            have hpb : ((p13 : Int) == (s.size : Int)) = true := by rw [hpe]; simp
            clear hend hpe
            have c40 : w13.cell? ⟨A4, 0, none⟩ = some (.string ⟨(Tk.small (Tk.attrName l)).toArray⟩) := blk_cell d13 0
            have c41 : w13.cell? ⟨A4, 1, none⟩ = some (.string ⟨#[]⟩) := blk_cell d13 1
            have c20 : w13.cell? ⟨A2, 0, none⟩ = some (.string ⟨#[]⟩) := blk_cell b13 0
            have c21 : w13.cell? ⟨A2, 1, none⟩ = some (.string ⟨#[]⟩) := blk_cell b13 1
            have f20 := blk_free b13 0
            have f21 := blk_free b13 1
            go_wp2_with fail
            go_quiet (fail)
            go_wp2
            exact attr_fin (W := w13.drewN nq) b13 (h13'.drews _) hRlt (gD G13 _) (by rw [HA2.out]; exact Nat.le_refl _) rfl rfl (.inl ⟨41, by decide, rfl, HV.out.1 41 (by rw [HQ.out, if_pos HEND.out])⟩)
          · have HEND := Lib.hid hend
            have hpb : ((p13 : Int) == (s.size : Int)) = false := by
              have : 0 < (Tk.past [39] L1).length := List.length_pos_iff.2 hend
              have hne : p13 ≠ s.size := by omega
              simp; omega
            have hb2 : (1 : Nat) ≤ (Tk.past [39] L1).length := List.length_pos_iff.2 hend
            clear hend
            go_wp2_with fail
            go_quiet (fail)
            go_wp2_with fail
            have h14 := (h13'.drews nq).inc hb2
            have G14 := gS (gD G13 nq) R 1 (.int .i64 ((p13 : Int) + 1)) (.inl rfl)
            have b14 := bS (show (w13.drewN nq).heap[A2]? = _ from b13) R 1 (.int .i64 ((p13 : Int) + 1)) (by omega)
            have d14 := bS (show (w13.drewN nq).heap[A4]? = _ from d13) R 1 (.int .i64 ((p13 : Int) + 1)) (by omega)
            clear k0 k1 kf h13' G13 b13 d13
            generalize (w13.drewN nq).setCell ⟨R, 1, none⟩ (.int .i64 ((p13 : Int) + 1)) = w14 at *
            refine (HD.out (Tk.upto [39] L1) true _ hlv (by exact HGL.out.grown G14 hR)).mono ?_
            rintro e w15 ⟨rfl, hb15⟩
            have h15 := h14.grown hb15
            have G15 := gB G14 hb15
            have b15 := bB b14 hb15
            have d15 := bB d14 hb15
            clear h14 G14 b14 d14 hb15
            have c40 : w15.cell? ⟨A4, 0, none⟩ = some (.string ⟨(Tk.small (Tk.attrName l)).toArray⟩) := blk_cell d15 0
            have c41 : w15.cell? ⟨A4, 1, none⟩ = some (.string ⟨#[]⟩) := blk_cell d15 1
            have f41 := blk_free d15 1
            have c20 : w15.cell? ⟨A2, 0, none⟩ = some (.string ⟨#[]⟩) := blk_cell b15 0
            have c21 : w15.cell? ⟨A2, 1, none⟩ = some (.string ⟨#[]⟩) := blk_cell b15 1
            have f20 := blk_free b15 0
            have f21 := blk_free b15 1
            have hne24 : A2 ≠ A4 := by omega
            go_wp2
            exact attr_fin (bS b15 A4 1 _ hne24) (h15.other A4 1 _ (by omega)) hRlt (gS G15 A4 1 _ (.inr (by rw [HA2.out]; omega))) (by rw [HA2.out]; exact Nat.le_refl _) rfl rfl (.inr ⟨rfl, ⟨Tk.small (Tk.attrName l), dec (Tk.upto [39] L1) true⟩, HV.out.2 _ _ (by rw [HQ.out, if_neg HEND.out]), rfl, rfl⟩)
        · have hq2' : Lib.hasPrefix L [39] = false := by simpa using hq2
          go_wp2_with fail
          refine (upto_s R s _ p8 _ v _ h10 hs (by decide) (ascii_of_all (by decide))).mono ?_
          rintro e w11 ⟨rfl, hg11, p11, h11⟩
          have G11 := gT G10 hg11
          have b11 := bG b10 hg11 (by simp; omega)
          have d11 := bG d10 hg11 (by simp; omega)
          clear h10 G10 b10 d10 hg11
          have hup := upto_len (Tk.blanks ++ [62]) L
          have HW : Hid (Tk.value L = if Tk.upto (Tk.blanks ++ [62]) L = [] ∨ bad (Tk.upto (Tk.blanks ++ [62]) L) = true then .inl 41 else .inr (Tk.upto (Tk.blanks ++ [62]) L, Tk.past (Tk.blanks ++ [62]) L)) := by
            show Tk.value L = _
            unfold Tk.value bad; rw [if_neg hq1, if_neg hq2]
          have hlv : (Tk.upto (Tk.blanks ++ [62]) L).length ≤ 1000000 := by omega
          have h11' : Rs w11 R s p11 (Tk.past (Tk.blanks ++ [62]) L) v := h11
          clear h11
          have hup' : Tk.upto [9, 10, 12, 32, 62] L = Tk.upto (Tk.blanks ++ [62]) L := rfl
          obtain ⟨V, hV⟩ : ∃ V, Tk.upto (Tk.blanks ++ [62]) L = V := ⟨_, rfl⟩
          rw [hV] at HW hlv hup'
          rw [hup']
          clear hV hup hup'
          by_cases hv0 : V = []
          · have HV0 := Lib.hid hv0
            subst hv0
            have c40 : w11.cell? ⟨A4, 0, none⟩ = some (.string ⟨(Tk.small (Tk.attrName l)).toArray⟩) := blk_cell d11 0
            have c41 : w11.cell? ⟨A4, 1, none⟩ = some (.string ⟨#[]⟩) := blk_cell d11 1
            have c20 : w11.cell? ⟨A2, 0, none⟩ = some (.string ⟨#[]⟩) := blk_cell b11 0
            have c21 : w11.cell? ⟨A2, 1, none⟩ = some (.string ⟨#[]⟩) := blk_cell b11 1
            have f20 := blk_free b11 0
            have f21 := blk_free b11 1
            go_wp2
            exact attr_fin b11 h11' hRlt G11 (by rw [HA2.out]; exact Nat.le_refl _) rfl rfl (.inl ⟨41, by decide, rfl, HV.out.1 41 (by rw [HW.out]; simp)⟩)
          · have hVe : V.isEmpty = false := by simpa using hv0
            by_cases hbad : bad V = true
            · have HB := Lib.hid hbad
              clear hbad
              go_wp2_with fail
              refine (HI.out.yes V _ hlv HB.out).mono ?_
              rintro e w12 ⟨i, hi, rfl, hb12⟩
              have h12 := h11'.grown hb12
              have G12 := gB G11 hb12
              have b12 := bB b11 hb12
              have d12 := bB d11 hb12
              clear h11' G11 b11 d11 hb12
              have c40 : w12.cell? ⟨A4, 0, none⟩ = some (.string ⟨(Tk.small (Tk.attrName l)).toArray⟩) := blk_cell d12 0
              have c41 : w12.cell? ⟨A4, 1, none⟩ = some (.string ⟨#[]⟩) := blk_cell d12 1
              have c20 : w12.cell? ⟨A2, 0, none⟩ = some (.string ⟨#[]⟩) := blk_cell b12 0
              have c21 : w12.cell? ⟨A2, 1, none⟩ = some (.string ⟨#[]⟩) := blk_cell b12 1
              have f20 := blk_free b12 0
              have f21 := blk_free b12 1
              go_wp2
              exact attr_fin b12 h12 hRlt G12 (by rw [HA2.out]; exact Nat.le_refl _) rfl rfl (.inl ⟨41, by decide, rfl, HV.out.1 41 (by rw [HW.out, if_pos (.inr HB.out)])⟩)
            · have HB' : bad V = false := by simpa using hbad
              have HB := Lib.hid HB'
              clear hbad HB'
              go_wp2_with fail
              refine (HI.out.no V _ hlv HB.out).mono ?_
              rintro e w12 ⟨i, hi, rfl, hb12⟩
              have hid : decide (0 ≤ i) = false := decide_eq_false hi
              have h12 := h11'.grown hb12
              have G12 := gB G11 hb12
              have b12 := bB b11 hb12
              have d12 := bB d11 hb12
              clear h11' G11 b11 d11 hb12
              go_wp2_with fail
              refine (HD.out V true _ hlv (by exact HGL.out.grown G12 hR)).mono ?_
              rintro e w15 ⟨rfl, hb15⟩
              have h15 := h12.grown hb15
              have G15 := gB G12 hb15
              have b15 := bB b12 hb15
              have d15 := bB d12 hb15
              clear h12 G12 b12 d12 hb15
              have c40 : w15.cell? ⟨A4, 0, none⟩ = some (.string ⟨(Tk.small (Tk.attrName l)).toArray⟩) := blk_cell d15 0
              have c41 : w15.cell? ⟨A4, 1, none⟩ = some (.string ⟨#[]⟩) := blk_cell d15 1
              have f41 := blk_free d15 1
              have c20 : w15.cell? ⟨A2, 0, none⟩ = some (.string ⟨#[]⟩) := blk_cell b15 0
              have c21 : w15.cell? ⟨A2, 1, none⟩ = some (.string ⟨#[]⟩) := blk_cell b15 1
              have f20 := blk_free b15 0
              have f21 := blk_free b15 1
              have hne24 : A2 ≠ A4 := by omega
              go_wp2
              exact attr_fin (bS b15 A4 1 _ hne24) (h15.other A4 1 _ (by omega)) hRlt (gS G15 A4 1 _ (.inr (by rw [HA2.out]; omega))) (by rw [HA2.out]; exact Nat.le_refl _) rfl rfl (.inr ⟨rfl, ⟨Tk.small (Tk.attrName l), dec V true⟩, HV.out.2 _ _ (by rw [HW.out, if_neg (by rw [HB.out]; simp [hv0])]), rfl, rfl⟩)
    · have heq' : Lib.hasPrefix (Tk.attrRest l) [61] = false := by simpa using heq
      have c40 : w6.cell? ⟨A4, 0, none⟩ = some (.string ⟨(Tk.small (Tk.attrName l)).toArray⟩) := blk_cell d6 0
      have c41 : w6.cell? ⟨A4, 1, none⟩ = some (.string ⟨#[]⟩) := blk_cell d6 1
      have c20 : w6.cell? ⟨A2, 0, none⟩ = some (.string ⟨#[]⟩) := blk_cell b6 0
      have c21 : w6.cell? ⟨A2, 1, none⟩ = some (.string ⟨#[]⟩) := blk_cell b6 1
      have f20 := blk_free b6 0
      have f21 := blk_free b6 1
      go_wp2
      exact attr_fin b6 h6 hRlt G6 (by rw [HA2.out]; exact Nat.le_refl _) rfl rfl (.inr ⟨rfl, ⟨Tk.small (Tk.attrName l), []⟩, by unfold Tk.attr; rw [if_neg HM.out, if_neg heq], rfl, rfl⟩)
  · have hm' : Tk.made (Tk.small (Tk.attrName l)) [45, 95] = false := by simpa using hm
    have c40 : W3.cell? ⟨A4, 0, none⟩ = some (.string ⟨(Tk.small (Tk.attrName l)).toArray⟩) := blk_cell b4 0
    have c41 : W3.cell? ⟨A4, 1, none⟩ = some (.string ⟨#[]⟩) := blk_cell b4 1
    have c20 : W3.cell? ⟨A2, 0, none⟩ = some (.string ⟨#[]⟩) := blk_cell b3 0
    have c21 : W3.cell? ⟨A2, 1, none⟩ = some (.string ⟨#[]⟩) := blk_cell b3 1
    have f20 := blk_free b3 0
    have f21 := blk_free b3 1
    go_wp2
    exact attr_fin b3 h3 hRlt G3 (by rw [HA2.out]; exact Nat.le_refl _) rfl rfl (.inl ⟨41, by decide, rfl, by unfold Tk.attr; rw [if_pos hm']⟩)
end Go.Proofs.YtaohdicilfabeaaGreatDoor

/- The answer's comment and doctype (selvedgeref04), walked. -/
import Derived.Test.YtaohdicilfabeaaGreatDoorTkRefTag
namespace Go.Proofs.YtaohdicilfabeaaGreatDoor
open Go.RowKit
set_option linter.unusedVariables false
set_option linter.unusedSimpArgs false

theorem rcomment_ret {post : Ending → World → Prop} {t : Array Value} {W : World} {A : Nat} {x0 x1 x2 x3 x4 y0 y1 y2 y3 y4 : Value} {p k : Int}
    (b : W.heap[A]? = some (.cells #[x0, x1, x2, x3, x4] 46 (0, 0))) (h4 : t[4]? = some (.pointer (some ⟨A, 0, none⟩))) (h5 : t[5]? = some (.int .i64 p)) (h6 : t[6]? = some (.int .i64 k))
    (hq : post (.returned (.tuple #[.agg #[y0, y1, y2, y3, y4], .int .i64 p, .int .i64 k])) (put5 W A y0 y1 y2 y3 y4)) :
    bodyPost Tryz.prog Tryz.f28 post Exit.ret { tmps := t, defers := [] } (put5 W A y0 y1 y2 y3 y4) := by
  have bR := put5_blk b y0 y1 y2 y3 y4
  generalize put5 W A y0 y1 y2 y3 y4 = W4 at *
  have r0 : W4.cell? ⟨A, 0, none⟩ = some y0 := blk_cell bR 0
  have r1 : W4.cell? ⟨A, 1, none⟩ = some y1 := blk_cell bR 1
  have r2 : W4.cell? ⟨A, 2, none⟩ = some y2 := blk_cell bR 2
  have r3 : W4.cell? ⟨A, 3, none⟩ = some y3 := blk_cell bR 3
  have r4 : W4.cell? ⟨A, 4, none⟩ = some y4 := blk_cell bR 4
  exact bodyPost_ret (v := .tuple #[.agg #[y0, y1, y2, y3, y4], .int .i64 p, .int .i64 k]) (by simp [results, Tryz.results28, go_sem, r0, r1, r2, r3, r4, h4, h5, h6]) rfl hq
theorem rdoctype_ret {post : Ending → World → Prop} {t : Array Value} {W : World} {A : Nat} {x0 x1 x2 x3 x4 y0 y1 y2 y3 y4 : Value} {p k : Int}
    (b : W.heap[A]? = some (.cells #[x0, x1, x2, x3, x4] 46 (0, 0))) (h4 : t[4]? = some (.pointer (some ⟨A, 0, none⟩))) (h5 : t[5]? = some (.int .i64 p)) (h6 : t[6]? = some (.int .i64 k))
    (hq : post (.returned (.tuple #[.agg #[y0, y1, y2, y3, y4], .int .i64 p, .int .i64 k])) (put5 W A y0 y1 y2 y3 y4)) :
    bodyPost Tryz.prog Tryz.f29 post Exit.ret { tmps := t, defers := [] } (put5 W A y0 y1 y2 y3 y4) := by
  have bR := put5_blk b y0 y1 y2 y3 y4
  generalize put5 W A y0 y1 y2 y3 y4 = W4 at *
  have r0 : W4.cell? ⟨A, 0, none⟩ = some y0 := blk_cell bR 0
  have r1 : W4.cell? ⟨A, 1, none⟩ = some y1 := blk_cell bR 1
  have r2 : W4.cell? ⟨A, 2, none⟩ = some y2 := blk_cell bR 2
  have r3 : W4.cell? ⟨A, 3, none⟩ = some y3 := blk_cell bR 3
  have r4 : W4.cell? ⟨A, 4, none⟩ = some y4 := blk_cell bR 4
  exact bodyPost_ret (v := .tuple #[.agg #[y0, y1, y2, y3, y4], .int .i64 p, .int .i64 k]) (by simp [results, Tryz.results29, go_sem, r0, r1, r2, r3, r4, h4, h5, h6]) rfl hq
theorem rone_ret {post : Ending → World → Prop} {t : Array Value} {W : World} {A : Nat} {x0 x1 x2 x3 x4 y0 y1 y2 y3 y4 : Value} {p k : Int}
    (b : W.heap[A]? = some (.cells #[x0, x1, x2, x3, x4] 46 (0, 0))) (h4 : t[4]? = some (.pointer (some ⟨A, 0, none⟩))) (h5 : t[5]? = some (.int .i64 p)) (h6 : t[6]? = some (.int .i64 k))
    (hq : post (.returned (.tuple #[.agg #[y0, y1, y2, y3, y4], .int .i64 p, .int .i64 k])) (put5 W A y0 y1 y2 y3 y4)) :
    bodyPost Tryz.prog Tryz.f12 post Exit.ret { tmps := t, defers := [] } (put5 W A y0 y1 y2 y3 y4) := by
  have bR := put5_blk b y0 y1 y2 y3 y4
  generalize put5 W A y0 y1 y2 y3 y4 = W4 at *
  have r0 : W4.cell? ⟨A, 0, none⟩ = some y0 := blk_cell bR 0
  have r1 : W4.cell? ⟨A, 1, none⟩ = some y1 := blk_cell bR 1
  have r2 : W4.cell? ⟨A, 2, none⟩ = some y2 := blk_cell bR 2
  have r3 : W4.cell? ⟨A, 3, none⟩ = some y3 := blk_cell bR 3
  have r4 : W4.cell? ⟨A, 4, none⟩ = some y4 := blk_cell bR 4
  exact bodyPost_ret (v := .tuple #[.agg #[y0, y1, y2, y3, y4], .int .i64 p, .int .i64 k]) (by simp [results, Tryz.results12, go_sem, r0, r1, r2, r3, r4, h4, h5, h6]) rfl hq

theorem findAt_sign (V t : List UInt8) : (0 ≤ findAt V t 0) ↔ 0 ≤ Lib.index V t := by
  unfold findAt; rw [List.drop_zero]; split <;> omega
theorem ba_of {s : ByteArray} {l : List UInt8} (h : s.data.toList = l) : s = ⟨l.toArray⟩ := by subst h; rfl

set_option maxRecDepth 100000 in
set_option maxHeartbeats 8000000 in
theorem refComment_any (s : ByteArray) (l : List UInt8) (hl : s.data.toList = l) (i : Nat) (hi : i ≤ s.size) (hs : s.size ≤ 1000000) (w : World) :
    Calls Tryz.prog 28 #[.string s, .int .i64 (i : Int)] w (RTokPost l (Tk.comment (l.drop i)) w) := by
  have HL := Lib.hid hl
  have hsz : l.length = s.size := by rw [← hl, ← Lib.size_eq]
  have HSZ := Lib.hid hsz
  clear hl hsz
  obtain ⟨L, hL⟩ : ∃ L, l.drop i = L := ⟨_, rfl⟩
  have HLD := Lib.hid hL
  have HLL : Hid (i + L.length = s.size) := by show _ = _; rw [← hL, List.length_drop]; have := HSZ.out; omega
  have hat := fun (t : ByteArray) (ht : t.size ≤ 1000000) (W : World) => refAt_any s t i hi hs ht W
  have hfi := fun (t : ByteArray) (ht : t.size ≤ 1000000) (ht0 : 0 < t.size) (W : World) => refFind_any s t i hi hs ht ht0 W
  rw [HL.out, hL] at hat
  rw [HL.out] at hfi
  have hf1 := hfi ⟨#[45, 45, 62]⟩ (by decide) (by decide)
  have hp1 := hat ⟨#[62]⟩ (by decide)
  have hp2 := hat ⟨#[45, 62]⟩ (by decide)
  clear hat hfi
  have e1 : (⟨#[45, 45, 62]⟩ : ByteArray).data.toList = [45, 45, 62] := rfl
  have e2 : (⟨#[62]⟩ : ByteArray).data.toList = [62] := rfl
  have e3 : (⟨#[45, 62]⟩ : ByteArray).data.toList = [45, 62] := rfl
  rw [e1] at hf1
  rw [e2] at hp1
  rw [e3] at hp2
  clear e1 e2 e3
  unfold findAt at hf1
  rw [hL] at hf1 ⊢
  clear hL
  go_enter Tryz.func28, Tryz.ntmps28
  go_wp2_with fail
  have bA := bN w (.cells #[.int .u8 0, .string ⟨#[]⟩, .slice none 0 0, .bool false, .string ⟨#[]⟩] 46 (0, 0))
  have HB := Lib.hid ((Below.refl w.heap.size w).alloc (Nat.le_refl _) (.cells #[.int .u8 0, .string ⟨#[]⟩, .slice none 0 0, .bool false, .string ⟨#[]⟩] 46 (0, 0)))
  generalize w.alloc (.cells #[.int .u8 0, .string ⟨#[]⟩, .slice none 0 0, .bool false, .string ⟨#[]⟩] 46 (0, 0)) = W at *
  obtain ⟨A, hA⟩ : ∃ A, w.heap.size = A := ⟨_, rfl⟩
  have HA : Hid (w.heap.size ≤ A) := Nat.le_of_eq hA
  rw [hA] at bA ⊢
  clear hA
  have r0 : W.cell? ⟨A, 0, none⟩ = some (.int .u8 0) := blk_cell bA 0
  have r1 : W.cell? ⟨A, 1, none⟩ = some (.string ⟨#[]⟩) := blk_cell bA 1
  have r2 : W.cell? ⟨A, 2, none⟩ = some (.slice none 0 0) := blk_cell bA 2
  have r3 : W.cell? ⟨A, 3, none⟩ = some (.bool false) := blk_cell bA 3
  have r4 : W.cell? ⟨A, 4, none⟩ = some (.string ⟨#[]⟩) := blk_cell bA 4
  have rf := fun j => blk_free bA j
  refine (hf1 _).mono ?_
  rintro e w1 ⟨rfl, rfl⟩
  clear hf1
  by_cases hx : Lib.index L [45, 45, 62] < 0
  · have HF : Hid (Tk.comment L = .inl 43) := by show _ = _; unfold Tk.comment; rw [if_pos (.inl hx)]
    rw [if_pos hx]
    clear hx
    go_wp2
    exact rcomment_ret bA rfl rfl rfl (.err HB.out HA.out 43 (by decide) HF.out rfl)
  rw [if_neg hx]
  obtain ⟨n, hn⟩ : ∃ n : Nat, Lib.index L [45, 45, 62] = (n : Int) := ⟨(Lib.index L [45, 45, 62]).toNat, by omega⟩
  have hroom := Lib.index_room L [45, 45, 62] (by omega)
  rw [hn] at hroom ⊢
  have hroom' : n + 3 ≤ L.length := by simp at hroom; omega
  have HC : Hid (Tk.comment L = if Lib.hasPrefix L [62] = true ∨ Lib.hasPrefix L [45, 62] = true then .inl 43 else if 0 ≤ Lib.index (L.take n) [45, 45, 33, 62] ∨ 0 ≤ Lib.index (L.take n) [60, 33, 45, 45] ∨ Lib.hasSuffix (L.take n) [60, 33, 45] = true then .inl 43 else .inr (⟨4, [], [], false, L.take n⟩, L.drop (n + 3))) := by
    show Tk.comment L = _
    unfold Tk.comment
    rw [hn]
    have e : ¬ ((n : Int) < 0) := by omega
    have e2 : (L.take n).length = n := by rw [List.length_take]; omega
    simp only [e, false_or, Int.toNat_natCast, e2]
  obtain ⟨ee, he⟩ : ∃ e : Nat, e = i + n := ⟨_, rfl⟩
  have hen : (i : Int) + (n : Int) = (ee : Int) := by omega
  rw [hen]
  have hes : ee + 3 ≤ s.size := by have := HLL.out; omega
  have hee0 : ¬ (ee : Int) < 0 := by omega
  have hie : (i : Int) ≤ (ee : Int) := by omega
  have hesi : (ee : Int) ≤ (s.size : Int) := by omega
  have HEE : Hid (ee = i + n) := he
  have HN := Lib.hid hroom'
  clear hx hn hroom hroom' he hen
  cases q1 : Lib.hasPrefix L [62] with
  | true =>
    have HF := Lib.hid (HC.out.trans (if_pos (.inl q1)))
    rw [q1] at hp1
    clear q1 HC
    go_wp2_with fail
    refine (hp1 _).mono ?_
    rintro e w1 ⟨rfl, rfl⟩
    go_wp2
    exact rcomment_ret bA rfl rfl rfl (.err HB.out HA.out 43 (by decide) HF.out rfl)
  | false =>
  rw [q1] at hp1
  go_wp2_with fail
  refine (hp1 _).mono ?_
  rintro e w1 ⟨rfl, rfl⟩
  clear hp1
  go_wp2_with fail
  refine (hp2 _).mono ?_
  rintro e w1 ⟨rfl, rfl⟩
  clear hp2
  cases q2 : Lib.hasPrefix L [45, 62] with
  | true =>
    have HF := Lib.hid (HC.out.trans (if_pos (.inr q2)))
    clear q1 q2 HC
    go_wp2
    exact rcomment_ret bA rfl rfl rfl (.err HB.out HA.out 43 (by decide) HF.out rfl)
  | false =>
  have HC2 := Lib.hid (HC.out.trans (if_neg (by rw [q1, q2]; rintro (h | h) <;> cases h)))
  clear q1 q2 HC
  obtain ⟨VS, hVS⟩ : ∃ VS, s.extract i ee = VS := ⟨_, rfl⟩
  obtain ⟨V, hV⟩ : ∃ V, L.take n = V := ⟨_, rfl⟩
  have hvd : VS.data.toList = V := by
    have e : ee - i = n := by have := HEE.out; omega
    rw [← hVS, Lib.extract_eq, HL.out, e, HLD.out, hV]
  have hVl : V.length = n := by rw [← hV, List.length_take]; have := HN.out; omega
  have hvs : VS.size = n := by rw [Lib.size_eq, hvd, hVl]
  rw [hV] at HC2
  have hn6 : VS.size ≤ 1000000 := by have := HN.out; have := HLL.out; omega
  have hfi := fun (t : ByteArray) (ht : t.size ≤ 1000000) (ht0 : 0 < t.size) (W : World) => refFind_any VS t 0 (by omega) hn6 ht ht0 W
  rw [hvd] at hfi
  have hf1 := hfi ⟨#[45, 45, 33, 62]⟩ (by decide) (by decide)
  have hf2 := hfi ⟨#[60, 33, 45, 45]⟩ (by decide) (by decide)
  have e1 : (⟨#[45, 45, 33, 62]⟩ : ByteArray).data.toList = [45, 45, 33, 62] := rfl
  have e2 : (⟨#[60, 33, 45, 45]⟩ : ByteArray).data.toList = [60, 33, 45, 45] := rfl
  rw [e1] at hf1
  rw [e2] at hf2
  have hsuf := Lib.hasSuffix_raw VS ⟨#[60, 33, 45]⟩
  have e3 : (⟨#[60, 33, 45]⟩ : ByteArray).data.toList = [60, 33, 45] := rfl
  have e4 : (⟨#[60, 33, 45]⟩ : ByteArray).size = 3 := rfl
  have e5 : (⟨#[60, 33, 45]⟩ : ByteArray).toList = [60, 33, 45] := by rw [Lib.toList_data]
  rw [e3, e4, e5, hvd] at hsuf
  have hs1 := findAt_sign V [45, 45, 33, 62]
  have hs2 := findAt_sign V [60, 33, 45, 45]
  obtain ⟨r1, hr1⟩ : ∃ r, findAt V [45, 45, 33, 62] 0 = r := ⟨_, rfl⟩
  obtain ⟨r2, hr2⟩ : ∃ r, findAt V [60, 33, 45, 45] 0 = r := ⟨_, rfl⟩
  rw [hr1] at hf1 hs1
  rw [hr2] at hf2 hs2
  have c00 : ((0 : Nat) : Int) = 0 := rfl
  rw [c00] at hf1 hf2
  have HVD := Lib.hid hvd
  have HVSZ := Lib.hid hvs
  have HVL := Lib.hid hVl
  have HSU := Lib.hid hsuf
  have HS1 := Lib.hid hs1
  have HS2 := Lib.hid hs2
  clear hfi e1 e2 e3 e4 e5 c00 hsuf hvd hvs hVl hV hr1 hr2 hs1 hs2
  by_cases g1 : 0 ≤ r1
  · have HF := Lib.hid (HC2.out.trans (if_pos (.inl (HS1.out.1 g1))))
    clear HC2 hf2
    go_wp2_with fail
    refine (hf1 _).mono ?_
    rintro e w1 ⟨rfl, rfl⟩
    clear hf1
    go_wp2
    exact rcomment_ret bA rfl rfl rfl (.err HB.out HA.out 43 (by decide) HF.out rfl)
  go_wp2_with fail
  refine (hf1 _).mono ?_
  rintro e w1 ⟨rfl, rfl⟩
  clear hf1
  by_cases g2 : 0 ≤ r2
  · have HF := Lib.hid (HC2.out.trans (if_pos (.inr (.inl (HS2.out.1 g2)))))
    clear HC2
    go_wp2_with fail
    refine (hf2 _).mono ?_
    rintro e w1 ⟨rfl, rfl⟩
    clear hf2
    go_wp2
    exact rcomment_ret bA rfl rfl rfl (.err HB.out HA.out 43 (by decide) HF.out rfl)
  go_wp2_with fail
  refine (hf2 _).mono ?_
  rintro e w1 ⟨rfl, rfl⟩
  clear hf2
  have okk : Lib.hasSuffix V [60, 33, 45] = false → Tk.comment L = .inr (⟨4, [], [], false, V⟩, l.drop (ee + 3)) := by
    intro h
    rw [HC2.out, if_neg (by rintro (h1 | h1 | h1); exact absurd (HS1.out.2 h1) (by omega); exact absurd (HS2.out.2 h1) (by omega); rw [h] at h1; cases h1), ← HLD.out, List.drop_drop, HEE.out, Nat.add_assoc]
  have badd : Lib.hasSuffix V [60, 33, 45] = true → Tk.comment L = .inl 43 := fun h => HC2.out.trans (if_pos (.inr (.inr h)))
  have HOK := Lib.hid okk
  have HBD := Lib.hid badd
  have hpl : ee + 3 ≤ l.length := by have := HSZ.out; omega
  clear okk badd HC2
  by_cases g3 : 3 ≤ VS.size
  · have g3i : (3 : Int) ≤ (VS.size : Int) := by omega
    have hsub : ((VS.size : Int) - 3).toNat = VS.size - 3 := by omega
    have hsub0 : (0 : Int) ≤ (VS.size : Int) - 3 := by omega
    have hsub1 : (VS.size : Int) - 3 ≤ (VS.size : Int) := by omega
    have hsuf := HSU.out
    rw [decide_eq_true g3, Bool.true_and] at hsuf
    cases q3 : Lib.hasSuffix V [60, 33, 45] with
    | true =>
      rw [q3] at hsuf
      have HF := Lib.hid (HBD.out q3)
      clear q3 g3 HSU HS1 HS2
      go_wp2
      exact rcomment_ret bA rfl rfl rfl (.err HB.out HA.out 43 (by decide) HF.out rfl)
    | false =>
      rw [q3] at hsuf
      have HF := Lib.hid (HOK.out q3)
      clear q3 g3 HSU HS1 HS2
      go_wp2
      exact rcomment_ret bA rfl rfl rfl (.ok HB.out HA.out bA ⟨4, [], [], false, V⟩ (ee + 3) hpl HF.out rfl (by omega) rfl rfl rfl (ba_of HVD.out) (World.ownsRow_nil _ _ _ _))
  · have g3i : ¬ (3 : Int) ≤ (VS.size : Int) := by omega
    have hsuf := HSU.out
    rw [decide_eq_false g3, Bool.false_and] at hsuf
    have HF := Lib.hid (HOK.out hsuf.symm)
    clear hsuf g3 HSU HS1 HS2
    go_wp2
    exact rcomment_ret bA rfl rfl rfl (.ok HB.out HA.out bA ⟨4, [], [], false, V⟩ (ee + 3) hpl HF.out rfl (by omega) rfl rfl rfl (ba_of HVD.out) (World.ownsRow_nil _ _ _ _))
end Go.Proofs.YtaohdicilfabeaaGreatDoor

/- The answer's comment, doctype and one (selvedgeref04), walked. -/
import Derived.Test.YtaohdicilfabeaaGreatDoorTkRefTag
namespace Go.Proofs.YtaohdicilfabeaaGreatDoor
open Go.RowKit
set_option linter.unusedVariables false
set_option linter.unusedSimpArgs false

theorem rcomment_ret {post : Ending → World → Prop} {t : Array Value} {W : World} {A : Nat} {x0 x1 x2 x3 x4 y0 y1 y2 y3 y4 : Value} {p k : Int}
    (b : W.heap[A]? = some (.cells #[x0, x1, x2, x3, x4] 46 (0, 0))) (h4 : t[4]? = some (.pointer (some ⟨A, 0, none⟩))) (h5 : t[5]? = some (.int .i64 p)) (h6 : t[6]? = some (.int .i64 k))
    (hq : post (.returned (.tuple #[.agg #[y0, y1, y2, y3, y4], .int .i64 p, .int .i64 k])) (put5 W A y0 y1 y2 y3 y4)) :
    bodyPost Tryz.prog Tryz.f28 post Exit.ret { tmps := t, defers := [] } (put5 W A y0 y1 y2 y3 y4) := by
  have bR := put5_blk b y0 y1 y2 y3 y4
  generalize put5 W A y0 y1 y2 y3 y4 = W4 at *
  have r0 : W4.cell? ⟨A, 0, none⟩ = some y0 := blk_cell bR 0
  have r1 : W4.cell? ⟨A, 1, none⟩ = some y1 := blk_cell bR 1
  have r2 : W4.cell? ⟨A, 2, none⟩ = some y2 := blk_cell bR 2
  have r3 : W4.cell? ⟨A, 3, none⟩ = some y3 := blk_cell bR 3
  have r4 : W4.cell? ⟨A, 4, none⟩ = some y4 := blk_cell bR 4
  exact bodyPost_ret (v := .tuple #[.agg #[y0, y1, y2, y3, y4], .int .i64 p, .int .i64 k]) (by simp [results, Tryz.results28, go_sem, r0, r1, r2, r3, r4, h4, h5, h6]) rfl hq
theorem rdoctype_ret {post : Ending → World → Prop} {t : Array Value} {W : World} {A : Nat} {x0 x1 x2 x3 x4 y0 y1 y2 y3 y4 : Value} {p k : Int}
    (b : W.heap[A]? = some (.cells #[x0, x1, x2, x3, x4] 46 (0, 0))) (h4 : t[4]? = some (.pointer (some ⟨A, 0, none⟩))) (h5 : t[5]? = some (.int .i64 p)) (h6 : t[6]? = some (.int .i64 k))
    (hq : post (.returned (.tuple #[.agg #[y0, y1, y2, y3, y4], .int .i64 p, .int .i64 k])) (put5 W A y0 y1 y2 y3 y4)) :
    bodyPost Tryz.prog Tryz.f29 post Exit.ret { tmps := t, defers := [] } (put5 W A y0 y1 y2 y3 y4) := by
  have bR := put5_blk b y0 y1 y2 y3 y4
  generalize put5 W A y0 y1 y2 y3 y4 = W4 at *
  have r0 : W4.cell? ⟨A, 0, none⟩ = some y0 := blk_cell bR 0
  have r1 : W4.cell? ⟨A, 1, none⟩ = some y1 := blk_cell bR 1
  have r2 : W4.cell? ⟨A, 2, none⟩ = some y2 := blk_cell bR 2
  have r3 : W4.cell? ⟨A, 3, none⟩ = some y3 := blk_cell bR 3
  have r4 : W4.cell? ⟨A, 4, none⟩ = some y4 := blk_cell bR 4
  exact bodyPost_ret (v := .tuple #[.agg #[y0, y1, y2, y3, y4], .int .i64 p, .int .i64 k]) (by simp [results, Tryz.results29, go_sem, r0, r1, r2, r3, r4, h4, h5, h6]) rfl hq
theorem rone_ret {post : Ending → World → Prop} {t : Array Value} {W : World} {A : Nat} {x0 x1 x2 x3 x4 y0 y1 y2 y3 y4 : Value} {p k : Int}
    (b : W.heap[A]? = some (.cells #[x0, x1, x2, x3, x4] 46 (0, 0))) (h4 : t[4]? = some (.pointer (some ⟨A, 0, none⟩))) (h5 : t[5]? = some (.int .i64 p)) (h6 : t[6]? = some (.int .i64 k))
    (hq : post (.returned (.tuple #[.agg #[y0, y1, y2, y3, y4], .int .i64 p, .int .i64 k])) (put5 W A y0 y1 y2 y3 y4)) :
    bodyPost Tryz.prog Tryz.f12 post Exit.ret { tmps := t, defers := [] } (put5 W A y0 y1 y2 y3 y4) := by
  have bR := put5_blk b y0 y1 y2 y3 y4
  generalize put5 W A y0 y1 y2 y3 y4 = W4 at *
  have r0 : W4.cell? ⟨A, 0, none⟩ = some y0 := blk_cell bR 0
  have r1 : W4.cell? ⟨A, 1, none⟩ = some y1 := blk_cell bR 1
  have r2 : W4.cell? ⟨A, 2, none⟩ = some y2 := blk_cell bR 2
  have r3 : W4.cell? ⟨A, 3, none⟩ = some y3 := blk_cell bR 3
  have r4 : W4.cell? ⟨A, 4, none⟩ = some y4 := blk_cell bR 4
  exact bodyPost_ret (v := .tuple #[.agg #[y0, y1, y2, y3, y4], .int .i64 p, .int .i64 k]) (by simp [results, Tryz.results12, go_sem, r0, r1, r2, r3, r4, h4, h5, h6]) rfl hq

theorem findAt_sign (V t : List UInt8) : (0 ≤ findAt V t 0) ↔ 0 ≤ Lib.index V t := by
  unfold findAt; rw [List.drop_zero]; split <;> omega
theorem ba_of {s : ByteArray} {l : List UInt8} (h : s.data.toList = l) : s = ⟨l.toArray⟩ := by subst h; rfl

set_option maxRecDepth 100000 in
set_option maxHeartbeats 8000000 in
theorem refComment_any (s : ByteArray) (l : List UInt8) (hl : s.data.toList = l) (i : Nat) (hi : i ≤ s.size) (hs : s.size ≤ 1000000) (w : World) :
    Calls Tryz.prog 28 #[.string s, .int .i64 (i : Int)] w (RTokPost l (Tk.comment (l.drop i)) w) := by
  have HL := Lib.hid hl
  have hsz : l.length = s.size := by rw [← hl, ← Lib.size_eq]
  have HSZ := Lib.hid hsz
  clear hl hsz
  obtain ⟨L, hL⟩ : ∃ L, l.drop i = L := ⟨_, rfl⟩
  have HLD := Lib.hid hL
  have HLL : Hid (i + L.length = s.size) := by show _ = _; rw [← hL, List.length_drop]; have := HSZ.out; omega
  have hat := fun (t : ByteArray) (ht : t.size ≤ 1000000) (W : World) => refAt_any s t i hi hs ht W
  have hfi := fun (t : ByteArray) (ht : t.size ≤ 1000000) (ht0 : 0 < t.size) (W : World) => refFind_any s t i hi hs ht ht0 W
  rw [HL.out, hL] at hat
  rw [HL.out] at hfi
  have hf1 := hfi ⟨#[45, 45, 62]⟩ (by decide) (by decide)
  have hp1 := hat ⟨#[62]⟩ (by decide)
  have hp2 := hat ⟨#[45, 62]⟩ (by decide)
  clear hat hfi
  have e1 : (⟨#[45, 45, 62]⟩ : ByteArray).data.toList = [45, 45, 62] := rfl
  have e2 : (⟨#[62]⟩ : ByteArray).data.toList = [62] := rfl
  have e3 : (⟨#[45, 62]⟩ : ByteArray).data.toList = [45, 62] := rfl
  rw [e1] at hf1
  rw [e2] at hp1
  rw [e3] at hp2
  clear e1 e2 e3
  unfold findAt at hf1
  rw [hL] at hf1 ⊢
  clear hL
  go_enter Tryz.func28, Tryz.ntmps28
  go_wp2_with fail
  have bA := bN w (.cells #[.int .u8 0, .string ⟨#[]⟩, .slice none 0 0, .bool false, .string ⟨#[]⟩] 46 (0, 0))
  have HB := Lib.hid ((Below.refl w.heap.size w).alloc (Nat.le_refl _) (.cells #[.int .u8 0, .string ⟨#[]⟩, .slice none 0 0, .bool false, .string ⟨#[]⟩] 46 (0, 0)))
  generalize w.alloc (.cells #[.int .u8 0, .string ⟨#[]⟩, .slice none 0 0, .bool false, .string ⟨#[]⟩] 46 (0, 0)) = W at *
  obtain ⟨A, hA⟩ : ∃ A, w.heap.size = A := ⟨_, rfl⟩
  have HA : Hid (w.heap.size ≤ A) := Nat.le_of_eq hA
  rw [hA] at bA ⊢
  clear hA
  have r0 : W.cell? ⟨A, 0, none⟩ = some (.int .u8 0) := blk_cell bA 0
  have r1 : W.cell? ⟨A, 1, none⟩ = some (.string ⟨#[]⟩) := blk_cell bA 1
  have r2 : W.cell? ⟨A, 2, none⟩ = some (.slice none 0 0) := blk_cell bA 2
  have r3 : W.cell? ⟨A, 3, none⟩ = some (.bool false) := blk_cell bA 3
  have r4 : W.cell? ⟨A, 4, none⟩ = some (.string ⟨#[]⟩) := blk_cell bA 4
  have rf := fun j => blk_free bA j
  refine (hf1 _).mono ?_
  rintro e w1 ⟨rfl, rfl⟩
  clear hf1
  by_cases hx : Lib.index L [45, 45, 62] < 0
  · have HF : Hid (Tk.comment L = .inl 43) := by show _ = _; unfold Tk.comment; rw [if_pos (.inl hx)]
    rw [if_pos hx]
    clear hx
    go_wp2
    exact rcomment_ret bA rfl rfl rfl (.err HB.out HA.out 43 (by decide) HF.out rfl)
  rw [if_neg hx]
  obtain ⟨n, hn⟩ : ∃ n : Nat, Lib.index L [45, 45, 62] = (n : Int) := ⟨(Lib.index L [45, 45, 62]).toNat, by omega⟩
  have hroom := Lib.index_room L [45, 45, 62] (by omega)
  rw [hn] at hroom ⊢
  have hroom' : n + 3 ≤ L.length := by simp at hroom; omega
  have HC : Hid (Tk.comment L = if Lib.hasPrefix L [62] = true ∨ Lib.hasPrefix L [45, 62] = true then .inl 43 else if 0 ≤ Lib.index (L.take n) [45, 45, 33, 62] ∨ 0 ≤ Lib.index (L.take n) [60, 33, 45, 45] ∨ Lib.hasSuffix (L.take n) [60, 33, 45] = true then .inl 43 else .inr (⟨4, [], [], false, L.take n⟩, L.drop (n + 3))) := by
    show Tk.comment L = _
    unfold Tk.comment
    rw [hn]
    have e : ¬ ((n : Int) < 0) := by omega
    have e2 : (L.take n).length = n := by rw [List.length_take]; omega
    simp only [e, false_or, Int.toNat_natCast, e2]
  obtain ⟨ee, he⟩ : ∃ e : Nat, e = i + n := ⟨_, rfl⟩
  have hen : (i : Int) + (n : Int) = (ee : Int) := by omega
  rw [hen]
  have hes : ee + 3 ≤ s.size := by have := HLL.out; omega
  have hee0 : ¬ (ee : Int) < 0 := by omega
  have hie : (i : Int) ≤ (ee : Int) := by omega
  have hesi : (ee : Int) ≤ (s.size : Int) := by omega
  have HEE : Hid (ee = i + n) := he
  have HN := Lib.hid hroom'
  clear hx hn hroom hroom' he hen
  cases q1 : Lib.hasPrefix L [62] with
  | true =>
    have HF := Lib.hid (HC.out.trans (if_pos (.inl q1)))
    rw [q1] at hp1
    clear q1 HC
    go_wp2_with fail
    refine (hp1 _).mono ?_
    rintro e w1 ⟨rfl, rfl⟩
    go_wp2
    exact rcomment_ret bA rfl rfl rfl (.err HB.out HA.out 43 (by decide) HF.out rfl)
  | false =>
  rw [q1] at hp1
  go_wp2_with fail
  refine (hp1 _).mono ?_
  rintro e w1 ⟨rfl, rfl⟩
  clear hp1
  go_wp2_with fail
  refine (hp2 _).mono ?_
  rintro e w1 ⟨rfl, rfl⟩
  clear hp2
  cases q2 : Lib.hasPrefix L [45, 62] with
  | true =>
    have HF := Lib.hid (HC.out.trans (if_pos (.inr q2)))
    clear q1 q2 HC
    go_wp2
    exact rcomment_ret bA rfl rfl rfl (.err HB.out HA.out 43 (by decide) HF.out rfl)
  | false =>
  have HC2 := Lib.hid (HC.out.trans (if_neg (by rw [q1, q2]; rintro (h | h) <;> cases h)))
  clear q1 q2 HC
  obtain ⟨VS, hVS⟩ : ∃ VS, s.extract i ee = VS := ⟨_, rfl⟩
  obtain ⟨V, hV⟩ : ∃ V, L.take n = V := ⟨_, rfl⟩
  have hvd : VS.data.toList = V := by
    have e : ee - i = n := by have := HEE.out; omega
    rw [← hVS, Lib.extract_eq, HL.out, e, HLD.out, hV]
  have hVl : V.length = n := by rw [← hV, List.length_take]; have := HN.out; omega
  have hvs : VS.size = n := by rw [Lib.size_eq, hvd, hVl]
  rw [hV] at HC2
  have hn6 : VS.size ≤ 1000000 := by have := HN.out; have := HLL.out; omega
  have hfi := fun (t : ByteArray) (ht : t.size ≤ 1000000) (ht0 : 0 < t.size) (W : World) => refFind_any VS t 0 (by omega) hn6 ht ht0 W
  rw [hvd] at hfi
  have hf1 := hfi ⟨#[45, 45, 33, 62]⟩ (by decide) (by decide)
  have hf2 := hfi ⟨#[60, 33, 45, 45]⟩ (by decide) (by decide)
  have e1 : (⟨#[45, 45, 33, 62]⟩ : ByteArray).data.toList = [45, 45, 33, 62] := rfl
  have e2 : (⟨#[60, 33, 45, 45]⟩ : ByteArray).data.toList = [60, 33, 45, 45] := rfl
  rw [e1] at hf1
  rw [e2] at hf2
  have hsuf := Lib.hasSuffix_raw VS ⟨#[60, 33, 45]⟩
  have e3 : (⟨#[60, 33, 45]⟩ : ByteArray).data.toList = [60, 33, 45] := rfl
  have e4 : (⟨#[60, 33, 45]⟩ : ByteArray).size = 3 := rfl
  have e5 : (⟨#[60, 33, 45]⟩ : ByteArray).toList = [60, 33, 45] := by rw [Lib.toList_data]
  rw [e3, e4, e5, hvd] at hsuf
  have hs1 := findAt_sign V [45, 45, 33, 62]
  have hs2 := findAt_sign V [60, 33, 45, 45]
  obtain ⟨r1, hr1⟩ : ∃ r, findAt V [45, 45, 33, 62] 0 = r := ⟨_, rfl⟩
  obtain ⟨r2, hr2⟩ : ∃ r, findAt V [60, 33, 45, 45] 0 = r := ⟨_, rfl⟩
  rw [hr1] at hf1 hs1
  rw [hr2] at hf2 hs2
  have c00 : ((0 : Nat) : Int) = 0 := rfl
  rw [c00] at hf1 hf2
  have HVD := Lib.hid hvd
  have HVSZ := Lib.hid hvs
  have HVL := Lib.hid hVl
  have HSU := Lib.hid hsuf
  have HS1 := Lib.hid hs1
  have HS2 := Lib.hid hs2
  clear hfi e1 e2 e3 e4 e5 c00 hsuf hvd hvs hVl hV hr1 hr2 hs1 hs2
  by_cases g1 : 0 ≤ r1
  · have HF := Lib.hid (HC2.out.trans (if_pos (.inl (HS1.out.1 g1))))
    clear HC2 hf2
    go_wp2_with fail
    refine (hf1 _).mono ?_
    rintro e w1 ⟨rfl, rfl⟩
    clear hf1
    go_wp2
    exact rcomment_ret bA rfl rfl rfl (.err HB.out HA.out 43 (by decide) HF.out rfl)
  go_wp2_with fail
  refine (hf1 _).mono ?_
  rintro e w1 ⟨rfl, rfl⟩
  clear hf1
  by_cases g2 : 0 ≤ r2
  · have HF := Lib.hid (HC2.out.trans (if_pos (.inr (.inl (HS2.out.1 g2)))))
    clear HC2
    go_wp2_with fail
    refine (hf2 _).mono ?_
    rintro e w1 ⟨rfl, rfl⟩
    clear hf2
    go_wp2
    exact rcomment_ret bA rfl rfl rfl (.err HB.out HA.out 43 (by decide) HF.out rfl)
  go_wp2_with fail
  refine (hf2 _).mono ?_
  rintro e w1 ⟨rfl, rfl⟩
  clear hf2
  have okk : Lib.hasSuffix V [60, 33, 45] = false → Tk.comment L = .inr (⟨4, [], [], false, V⟩, l.drop (ee + 3)) := by
    intro h
    rw [HC2.out, if_neg (by rintro (h1 | h1 | h1); exact absurd (HS1.out.2 h1) (by omega); exact absurd (HS2.out.2 h1) (by omega); rw [h] at h1; cases h1), ← HLD.out, List.drop_drop, HEE.out, Nat.add_assoc]
  have badd : Lib.hasSuffix V [60, 33, 45] = true → Tk.comment L = .inl 43 := fun h => HC2.out.trans (if_pos (.inr (.inr h)))
  have HOK := Lib.hid okk
  have HBD := Lib.hid badd
  have hpl : ee + 3 ≤ l.length := by have := HSZ.out; omega
  clear okk badd HC2
  by_cases g3 : 3 ≤ VS.size
  · have g3i : (3 : Int) ≤ (VS.size : Int) := by omega
    have hsub : ((VS.size : Int) - 3).toNat = VS.size - 3 := by omega
    have hsub0 : (0 : Int) ≤ (VS.size : Int) - 3 := by omega
    have hsub1 : (VS.size : Int) - 3 ≤ (VS.size : Int) := by omega
    have hsuf := HSU.out
    rw [decide_eq_true g3, Bool.true_and] at hsuf
    cases q3 : Lib.hasSuffix V [60, 33, 45] with
    | true =>
      rw [q3] at hsuf
      have HF := Lib.hid (HBD.out q3)
      clear q3 g3 HSU HS1 HS2
      go_wp2
      exact rcomment_ret bA rfl rfl rfl (.err HB.out HA.out 43 (by decide) HF.out rfl)
    | false =>
      rw [q3] at hsuf
      have HF := Lib.hid (HOK.out q3)
      clear q3 g3 HSU HS1 HS2
      go_wp2
      exact rcomment_ret bA rfl rfl rfl (.ok HB.out HA.out bA ⟨4, [], [], false, V⟩ (ee + 3) hpl HF.out rfl (by omega) rfl rfl rfl (ba_of HVD.out) (World.ownsRow_nil _ _ _ _))
  · have g3i : ¬ (3 : Int) ≤ (VS.size : Int) := by omega
    have hsuf := HSU.out
    rw [decide_eq_false g3, Bool.false_and] at hsuf
    have HF := Lib.hid (HOK.out hsuf.symm)
    clear hsuf g3 HSU HS1 HS2
    go_wp2
    exact rcomment_ret bA rfl rfl rfl (.ok HB.out HA.out bA ⟨4, [], [], false, V⟩ (ee + 3) hpl HF.out rfl (by omega) rfl rfl rfl (ba_of HVD.out) (World.ownsRow_nil _ _ _ _))

theorem dropW_head {p : UInt8 → Bool} {c : UInt8} {r : List UInt8} : ∀ (l : List UInt8), l.dropWhile p = c :: r → p c = false := by
  intro l
  induction l with
  | nil => intro h; cases h
  | cons x l ih =>
    intro h
    rw [List.dropWhile_cons] at h
    split at h
    · exact ih h
    · rename_i hx; injection h with h1 _; rw [← h1]; simpa using hx
/-- Where the blanks behind a place end. -/
theorem skip_at {l : List UInt8} {a k : Nat} (hak : a ≤ k) (hk : k ≤ l.length) (h : l.drop k = Tk.skip (l.drop a)) :
    (∀ (j : Nat) b, a ≤ j → j < k → l[j]? = some b → Tk.blanks.contains b = true) ∧ (∀ b, l[k]? = some b → Tk.blanks.contains b = false) := by
  have h1 : (l.drop a).takeWhile (Tk.blanks.contains ·) ++ Tk.skip (l.drop a) = l.drop a := List.takeWhile_append_dropWhile
  have h2 := congrArg List.length h1
  rw [List.length_append, ← h, List.length_drop, List.length_drop] at h2
  refine ⟨fun j b hj1 hj2 hb => ?_, fun b hb => ?_⟩
  · have h3 : ((l.drop a).takeWhile (Tk.blanks.contains ·))[j - a]? = some b := by
      have : (l.drop a)[j - a]? = some b := by rw [List.getElem?_drop]; have e : a + (j - a) = j := (by omega); rw [e]; exact hb
      rw [← h1, List.getElem?_append_left (by omega)] at this
      exact this
    exact List.all_eq_true.1 List.all_takeWhile b (List.mem_of_getElem? h3)
  · exact dropW_head (l.drop a) ((h.symm.trans (drop_atr hb)))
theorem blank_62 : Tk.blanks.contains 62 = false := by decide
/-- A doctype's data: what is left between the blanks. -/
theorem trim_at {l : List UInt8} {a k m e : Nat} (hk : k ≤ m) (hak : a ≤ k) (hme : m ≤ e) (hel : e ≤ l.length) (h1 : ∀ (j : Nat) b, a ≤ j → j < k → l[j]? = some b → Tk.blanks.contains b = true) (h2 : ∀ b, l[k]? = some b → Tk.blanks.contains b = false)
    (h3 : ∀ (j : Nat) b, m ≤ j → j < e → l[j]? = some b → Tk.blanks.contains b = true) (h4 : k < m → ∀ b, l[m - 1]? = some b → Tk.blanks.contains b = false) : Lib.trimS ((l.drop a).take (e - a)) Tk.blanks = (l.drop k).take (m - k) := by
  have at' : ∀ (n : Nat) j b, ((l.drop a).take n)[j]? = some b → j < n ∧ l[a + j]? = some b := by
    intro n j b h
    rw [List.getElem?_take] at h
    split at h
    · rename_i hj; rw [List.getElem?_drop] at h; exact ⟨hj, h⟩
    · cases h
  have hlen : ((l.drop a).take (e - a)).length = e - a := by rw [List.length_take, List.length_drop]; omega
  have hright : Lib.trimRightS ((l.drop a).take (e - a)) Tk.blanks = if k < m then (l.drop a).take (m - a) else [] := by
    by_cases hkm : k < m
    · rw [if_pos hkm, Lib.trimRightS_take _ _ (m - a) (by omega) ?_ ?_, List.take_take]
      · congr 1; omega
      · intro j b hj hb
        obtain ⟨h5, h6⟩ := at' _ _ _ hb
        exact h3 (a + j) b (by omega) (by omega) h6
      · intro b h0 hb
        obtain ⟨h5, h6⟩ := at' _ _ _ hb
        exact h4 hkm b (by have e : m - 1 = a + (m - a - 1) := (by omega); rw [e]; exact h6)
    · rw [if_neg hkm, Lib.trimRightS_take _ _ 0 (by omega) ?_ (fun b h0 => absurd h0 (by omega)), List.take_zero]
      intro j b _ hb
      obtain ⟨h5, h6⟩ := at' _ _ _ hb
      by_cases hj : a + j < k
      · exact h1 (a + j) b (by omega) hj h6
      · exact h3 (a + j) b (by omega) (by omega) h6
  unfold Lib.trimS
  rw [hright]
  by_cases hkm : k < m
  · rw [if_pos hkm, Lib.trimLeftS_drop _ _ (k - a) (by rw [List.length_take, List.length_drop]; omega) ?_ ?_, List.drop_take, List.drop_drop]
    · congr 1
      · omega
      · congr 1; omega
    · intro j b hj hb
      obtain ⟨h5, h6⟩ := at' _ _ _ hb
      exact h1 (a + j) b (by omega) (by omega) h6
    · intro b hb
      obtain ⟨h5, h6⟩ := at' _ _ _ hb
      exact h2 b (by have e : k = a + (k - a) := (by omega); rw [e]; exact h6)
  · rw [if_neg hkm]
    have e : m - k = 0 := by omega
    rw [e, List.take_zero]; rfl

set_option maxRecDepth 100000 in
set_option maxHeartbeats 8000000 in
theorem refDoctype_any (s : ByteArray) (l : List UInt8) (hl : s.data.toList = l) (i : Nat) (hi : i ≤ s.size) (hs : s.size ≤ 1000000) (w : World) :
    Calls Tryz.prog 29 #[.string s, .int .i64 (i : Int)] w (RTokPost l (Tk.mark (l.drop i)) w) := by
  have HL := Lib.hid hl
  have hsz : l.length = s.size := by rw [← hl, ← Lib.size_eq]
  have HSZ := Lib.hid hsz
  clear hl hsz
  go_enter Tryz.func29, Tryz.ntmps29
  go_upto_region 2 with (fail)
  have bA := bN w (.cells #[.int .u8 0, .string ⟨#[]⟩, .slice none 0 0, .bool false, .string ⟨#[]⟩] 46 (0, 0))
  have HB := Lib.hid ((Below.refl w.heap.size w).alloc (Nat.le_refl _) (.cells #[.int .u8 0, .string ⟨#[]⟩, .slice none 0 0, .bool false, .string ⟨#[]⟩] 46 (0, 0)))
  generalize w.alloc (.cells #[.int .u8 0, .string ⟨#[]⟩, .slice none 0 0, .bool false, .string ⟨#[]⟩] 46 (0, 0)) = W at *
  obtain ⟨A, hA⟩ : ∃ A, w.heap.size = A := ⟨_, rfl⟩
  have HA : Hid (w.heap.size ≤ A) := Nat.le_of_eq hA
  rw [hA] at bA ⊢
  clear hA
  have r0 : W.cell? ⟨A, 0, none⟩ = some (.int .u8 0) := blk_cell bA 0
  have r1 : W.cell? ⟨A, 1, none⟩ = some (.string ⟨#[]⟩) := blk_cell bA 1
  have r2 : W.cell? ⟨A, 2, none⟩ = some (.slice none 0 0) := blk_cell bA 2
  have r3 : W.cell? ⟨A, 3, none⟩ = some (.bool false) := blk_cell bA 3
  have r4 : W.cell? ⟨A, 4, none⟩ = some (.string ⟨#[]⟩) := blk_cell bA 4
  have rf := fun j => blk_free bA j
  have h9s : ((⟨#[60, 33, 100, 111, 99, 116, 121, 112, 101]⟩ : ByteArray).size : Int) = 9 := rfl
  by_cases h9 : s.size < i + 9
  · have h9i : (s.size : Int) < (i : Int) + 9 := by omega
    have HF : Hid (Tk.mark (l.drop i) = .inl 43) := by show _ = _; unfold Tk.mark; rw [if_pos (.inl (by rw [List.length_drop]; have := HSZ.out; omega))]
    clear h9
    go_wp2
    exact rdoctype_ret bA rfl rfl rfl (.err HB.out HA.out 43 (by decide) HF.out rfl)
  have h9i : ¬ (s.size : Int) < (i : Int) + 9 := by omega
  have hi9 : i + 9 ≤ s.size := by omega
  have h9n : ((i : Int) + 9).toNat = i + 9 := by omega
  have h9a : (0 : Int) ≤ (i : Int) + 9 := by omega
  have h9b : (i : Int) ≤ (i : Int) + 9 := by omega
  have h9c : (i : Int) + 9 ≤ (s.size : Int) := by omega
  obtain ⟨X, hX⟩ : ∃ X, s.extract i (i + 9) = X := ⟨_, rfl⟩
  have hXd : X.data.toList = (l.drop i).take 9 := by rw [← hX, Lib.extract_eq, HL.out]; simp
  have hXs : X.size ≤ 1000000 := by rw [Lib.size_eq, hXd, List.length_take]; omega
  have hsm := fun W : World => refSmall_any X W (by omega)
  rw [hXd] at hsm
  obtain ⟨S, hS⟩ : ∃ S, Tk.small ((l.drop i).take 9) = S := ⟨_, rfl⟩
  rw [hS] at hsm
  have HM0 : Hid (Tk.mark (l.drop i) = if S ≠ Tk.head then .inl 43 else if Tk.past [62] (l.drop (i + 9)) = [] then .inl 43 else .inr (⟨5, [], [], false, Lib.trimS (Tk.upto [62] (l.drop (i + 9))) Tk.blanks⟩, (Tk.past [62] (l.drop (i + 9))).drop 1)) := by
    show _ = _
    unfold Tk.mark
    rw [hS, List.drop_drop]
    have e : ¬ (l.drop i).length < 9 := by rw [List.length_drop]; have := HSZ.out; omega
    simp only [e, false_or]
  clear h9 hS hXd hXs
  go_wp2_with fail
  refine (hsm _).mono ?_
  rintro e w2 ⟨rfl, hb2⟩
  clear hsm
  have HB2 := Lib.hid (HB.out.trans (hb2.mono HB.out.size))
  have bA2 := bB bA hb2
  clear hb2 bA HB r0 r1 r2 r3 r4 rf hX
  have r0 : w2.cell? ⟨A, 0, none⟩ = some (.int .u8 0) := blk_cell bA2 0
  have r1 : w2.cell? ⟨A, 1, none⟩ = some (.string ⟨#[]⟩) := blk_cell bA2 1
  have r2 : w2.cell? ⟨A, 2, none⟩ = some (.slice none 0 0) := blk_cell bA2 2
  have r3 : w2.cell? ⟨A, 3, none⟩ = some (.bool false) := blk_cell bA2 3
  have r4 : w2.cell? ⟨A, 4, none⟩ = some (.string ⟨#[]⟩) := blk_cell bA2 4
  have rf := fun j => blk_free bA2 j
  by_cases hsh : S = [60, 33, 100, 111, 99, 116, 121, 112, 101]
  rotate_left
  · have HF := Lib.hid (HM0.out.trans (if_pos hsh))
    have hsb : (S == [60, 33, 100, 111, 99, 116, 121, 112, 101]) = false := by rw [beq_eq_false_iff_ne]; exact hsh
    have hsb2 : (S != [60, 33, 100, 111, 99, 116, 121, 112, 101]) = true := by rw [bne, hsb]; rfl
    clear hsh HM0
    go_wp2
    exact rdoctype_ret bA2 rfl rfl rfl (.err HB2.out HA.out 43 (by decide) HF.out rfl)
  have HM := Lib.hid (HM0.out.trans (if_neg (fun h => h hsh)))
  have hsb : (S == [60, 33, 100, 111, 99, 116, 121, 112, 101]) = true := by rw [beq_iff_eq]; exact hsh
  have hsb2 : (S != [60, 33, 100, 111, 99, 116, 121, 112, 101]) = false := by rw [bne, hsb]; rfl
  clear hsh HM0
  have hFP := findAt_past (l := l) (q := 62) (i := i + 9) (by have := HSZ.out; omega)
  have hfind := fun W : World => refFind_any s ⟨#[62]⟩ (i + 9) hi9 hs (by decide) (by decide) W
  have e2 : (⟨#[62]⟩ : ByteArray).data.toList = [62] := rfl
  have e9 : ((i + 9 : Nat) : Int) = (i : Int) + 9 := by omega
  rw [HL.out, e2, e9] at hfind
  clear e2
  go_wp2_with fail
  rcases hFP with ⟨hf1, hf2⟩ | ⟨ee, hf1, hf2, hf3, hf4⟩
  · rw [hf1] at hfind
    have HF := Lib.hid (HM.out.trans (if_pos hf2))
    clear hf1 hf2 HM
    refine (hfind _).mono ?_
    rintro e w3 ⟨rfl, rfl⟩
    clear hfind
    go_wp2
    exact rdoctype_ret bA2 rfl rfl rfl (.err HB2.out HA.out 43 (by decide) HF.out rfl)
  rw [hf1] at hfind
  have hne2 : Tk.past [62] (l.drop (i + 9)) ≠ [] := by
    rw [← hf4]; intro h; have := congrArg List.length h; rw [List.length_drop] at this; simp at this; omega
  have HUP : Hid ((l.drop (i + 9)).take (ee - (i + 9)) = Tk.upto [62] (l.drop (i + 9))) := cut_upto hf2 (by omega) hf4
  have HM2 : Hid (Tk.mark (l.drop i) = .inr (⟨5, [], [], false, Lib.trimS ((l.drop (i + 9)).take (ee - (i + 9))) Tk.blanks⟩, l.drop (ee + 1))) := by
    show _ = _; rw [HM.out, if_neg hne2, HUP.out, ← hf4, List.drop_drop]
  have HE62 : Hid (l[ee]? = some 62) := by
    have h := past_head (q := 62) (l := l.drop (i + 9)) (e := ee - (i + 9)) (by rw [List.drop_drop, ← hf4]; congr 1; omega) (by rw [List.length_drop]; omega)
    rw [List.getElem?_drop] at h
    have e : i + 9 + (ee - (i + 9)) = ee := by omega
    rw [e] at h; exact h
  have hee0 : ¬ (ee : Int) < 0 := by omega
  have hees : ee < s.size := by have := HSZ.out; omega
  clear hf1 hf4 hne2 HM HUP hf3
  refine (hfind _).mono ?_
  rintro e w3 ⟨rfl, rfl⟩
  clear hfind
  have hskip := fun W : World => refSkip_any s l HL.out (i + 9) hi9 hs W
  rw [e9] at hskip
  go_wp2_with fail
  refine (hskip _).mono ?_
  rintro e w3 ⟨k, rfl, hk9, hks, hdk, rfl⟩
  clear hskip e9
  obtain ⟨hb1, hb2⟩ := skip_at hk9 (by have := HSZ.out; omega) hdk
  have hke : k ≤ ee := by
    rcases Nat.lt_or_ge ee k with h | h
    · have := hb1 ee 62 hf2 h HE62.out; rw [blank_62] at this; cases this
    · exact h
  have HB1 := Lib.hid hb1
  have HBK := Lib.hid hb2
  clear hdk hb1 hb2
  go_wp2_with fail
  go_loopg [10] ee (fun g v wr => ∃ m : Nat, v = .int .i64 (m : Int) ∧ k ≤ m ∧ m ≤ ee ∧ m ≤ g ∧ wr = w2 ∧ Hid (∀ (j : Nat) b, m ≤ j → j < ee → l[j]? = some b → Tk.blanks.contains b = true))
  case atStart => exact ⟨ee, rfl, hke, Nat.le_refl _, Nat.le_refl _, rfl, fun j b h1 h2 => absurd h1 (by omega)⟩
  case round =>
    obtain ⟨m, rfl, hkm, hme, hmg, rfl, HBL⟩ := hrel
    have fin : (k < m → ∀ b, l[m - 1]? = some b → Tk.blanks.contains b = false) → Tk.mark (l.drop i) = .inr (⟨5, [], [], false, (l.drop k).take (m - k)⟩, l.drop (ee + 1)) := by
      intro h
      rw [HM2.out, trim_at hkm hk9 hme (by have := HSZ.out; omega) HB1.out HBK.out HBL.out h]
    have HFN := Lib.hid fin
    clear fin
    have hmin : min (k : Int) (m : Int) = (k : Int) := by omega
    have hkmi : (k : Int) ≤ (m : Int) := by omega
    have hmsi : (m : Int) ≤ (s.size : Int) := by omega
    have HEX : Hid (s.extract k m = ⟨((l.drop k).take (m - k)).toArray⟩) := by show _ = _; rw [Lib.extract_eq, HL.out]
    have hql : ee + 1 ≤ l.length := by have := HSZ.out; omega
    by_cases hmk : k < m
    · have hmki : (k : Int) < (m : Int) := by omega
      obtain ⟨m', rfl⟩ : ∃ m', m = m' + 1 := ⟨m - 1, by omega⟩
      obtain ⟨g, rfl⟩ : ∃ g, gk = g + 1 := ⟨gk - 1, by omega⟩
      have hw : IntKind.i64.wrap (((m' + 1 : Nat) : Int) - 1) = (m' : Int) := by
        rw [IntKind.wrap_i64]; omega
      have hlti : (m' : Int) < (s.size : Int) := by omega
      have hlt : m' < s.size := by omega
      obtain ⟨c, hc⟩ : ∃ c : UInt8, s[m'] = c := ⟨_, rfl⟩
      have HC : Hid (l[m']? = some c) := by show _ = _; rw [← hc, ← HL.out]; exact Lib.data_getElem? s m' hlt
      have hlast : (m' + 1) - 1 = m' := by omega
      have hm1 : ((m' + 1 : Nat) : Int) - 1 = (m' : Int) := by omega
      go_wp2_with fail
      refine (refBlank_any c _).mono ?_
      rintro e w4 ⟨rfl, rfl⟩
      clear hc
      cases hbl : Tk.blanks.contains c with
      | true =>
        have HBL2 : Hid (∀ (j : Nat) b, m' ≤ j → j < ee → l[j]? = some b → Tk.blanks.contains b = true) := by
          intro j b h1 h2 hb
          rcases Nat.lt_or_ge m' j with h | h
          · exact HBL.out j b h h2 hb
          · obtain rfl : j = m' := by omega
            rw [HC.out] at hb; cases hb; exact hbl
        clear hbl HBL HFN HEX hmin
        go_wp2_with fail
        go_roundg g
        case measure => omega
        case rel => exact ⟨m', by simp, by omega, by omega, by omega, rfl, HBL2⟩
      | false =>
        have HF := Lib.hid (HFN.out (fun _ b hb => by rw [hlast, HC.out] at hb; cases hb; exact hbl))
        have hmin2 : (min (k : Int) ((m' : Int) + 1)).toNat = k := by omega
        clear hbl HBL HFN HC
        go_wp2
        exact rdoctype_ret bA2 rfl rfl rfl (.ok HB2.out HA.out bA2 ⟨5, [], [], false, _⟩ (ee + 1) hql HF.out rfl (by omega) rfl rfl rfl (by rw [← HEX.out]) (World.ownsRow_nil _ _ _ _))
    · have hmki : ¬ (k : Int) < (m : Int) := by omega
      have HF := Lib.hid (HFN.out (fun h => absurd h hmk))
      clear HBL HFN hmk
      go_wp2
      exact rdoctype_ret bA2 rfl rfl rfl (.ok HB2.out HA.out bA2 ⟨5, [], [], false, _⟩ (ee + 1) hql HF.out rfl (by omega) rfl rfl rfl HEX.out (World.ownsRow_nil _ _ _ _))

theorem RTokPost.pass {l : List UInt8} {res : Sum Nat (Tk.Tok × List UInt8)} {w W : World} {e : Ending} {w' : World} {A : Nat} {x0 x1 x2 x3 x4 : Value} (hB : Below w.heap.size w W) (hA : w.heap.size ≤ A) (b : W.heap[A]? = some (.cells #[x0, x1, x2, x3, x4] 46 (0, 0))) (h : RTokPost l res W e w') :
    ∃ (K : Int) (N : ByteArray) (a : Option Addr) (n c : Nat) (SF : Bool) (D : ByteArray) (p k : Int), e = .returned (.tuple #[.agg #[.int .u8 K, .string N, .slice a n c, .bool SF, .string D], .int .i64 p, .int .i64 k]) ∧ w'.heap[A]? = some (.cells #[x0, x1, x2, x3, x4] 46 (0, 0)) ∧
      RTokPost l res w (.returned (.tuple #[.agg #[.int .u8 K, .string N, .slice a n c, .bool SF, .string D], .int .i64 p, .int .i64 k])) (put5 w' A (.int .u8 K) (.string N) (.slice a n c) (.bool SF) (.string D)) := by
  obtain ⟨hb, K, N, a, n, c, SF, D, p, k, rfl, hr⟩ := h
  have b' := bB b hb
  have hB' := hB.trans (hb.mono hB.size)
  refine ⟨K, N, a, n, c, SF, D, p, k, rfl, b', ?_⟩
  rcases hr with ⟨k', h0, hk, hres⟩ | ⟨hk, t, q, hp, hq, hres, h1, h2, h3, h4, ho⟩
  · exact .err hB' hA k' h0 hres hk
  · exact .ok hB' hA b' t q hq hres hk hp h1 h2 h3 h4 (own_mono ho hB.size)
theorem getD_at {l : List UInt8} {i j : Nat} {d : UInt8} (h : l[i + j]? = some d) : (l.drop i).getD j 0 = d := by
  rw [List.getD_eq_getElem?_getD, List.getElem?_drop, h]; rfl

set_option maxRecDepth 100000 in
set_option maxHeartbeats 8000000 in
theorem refOneTok_any (s : ByteArray) (l : List UInt8) (hl : s.data.toList = l) (i : Nat) (hi : i < s.size) (hs : s.size ≤ 1000000) (w : World) :
    Calls Tryz.prog 12 #[.string s, .int .i64 (i : Int)] w (RTokPost l (Tk.one decT (l.drop i)) w) := by
  have HL := Lib.hid hl
  have hsz : l.length = s.size := by rw [← hl, ← Lib.size_eq]
  have HSZ := Lib.hid hsz
  clear hl hsz
  have HONE : Hid (Tk.one decT (l.drop i) = if Tk.begins (l.drop i) = false then .inr (Tk.text decT (l.drop i))
    else if Tk.letter ((l.drop i).getD 1 0) = true then Tk.tag decT 1 ((l.drop i).drop 1)
    else if (l.drop i).getD 1 0 = 47 then (if (l.drop i).length = 2 ∨ Tk.letter ((l.drop i).getD 2 0) = false then .inl 40 else Tk.tag decT 2 ((l.drop i).drop 2))
    else if Lib.hasPrefix (l.drop i) [60, 33, 45, 45] = true then Tk.comment ((l.drop i).drop 4)
    else Tk.mark (l.drop i)) := rfl
  go_enter Tryz.func12, Tryz.ntmps12
  go_wp2_with fail
  have bA := bN w (.cells #[.int .u8 0, .string ⟨#[]⟩, .slice none 0 0, .bool false, .string ⟨#[]⟩] 46 (0, 0))
  have HB := Lib.hid ((Below.refl w.heap.size w).alloc (Nat.le_refl _) (.cells #[.int .u8 0, .string ⟨#[]⟩, .slice none 0 0, .bool false, .string ⟨#[]⟩] 46 (0, 0)))
  generalize w.alloc (.cells #[.int .u8 0, .string ⟨#[]⟩, .slice none 0 0, .bool false, .string ⟨#[]⟩] 46 (0, 0)) = W at *
  obtain ⟨A, hA⟩ : ∃ A, w.heap.size = A := ⟨_, rfl⟩
  have HA : Hid (w.heap.size ≤ A) := Nat.le_of_eq hA
  rw [hA] at bA ⊢
  clear hA
  have r0 : W.cell? ⟨A, 0, none⟩ = some (.int .u8 0) := blk_cell bA 0
  have r1 : W.cell? ⟨A, 1, none⟩ = some (.string ⟨#[]⟩) := blk_cell bA 1
  have r2 : W.cell? ⟨A, 2, none⟩ = some (.slice none 0 0) := blk_cell bA 2
  have r3 : W.cell? ⟨A, 3, none⟩ = some (.bool false) := blk_cell bA 3
  have r4 : W.cell? ⟨A, 4, none⟩ = some (.string ⟨#[]⟩) := blk_cell bA 4
  have rf := fun j => blk_free bA j
  refine (refBegins_any s l HL.out i (by omega) hs _).mono ?_
  rintro e w1 ⟨rfl, rfl⟩
  cases hbg : Tk.begins (l.drop i) with
  | true =>
    have H1 := Lib.hid (HONE.out.trans (if_neg (by rw [hbg]; decide)))
    have h2 := Tk.begins_two_le hbg
    rw [List.length_drop] at h2
    have hi1 : i + 1 < s.size := by have := HSZ.out; omega
    have hi2 : i + 2 ≤ s.size := by omega
    have hi1i : (i : Int) + 1 < (s.size : Int) := by omega
    have hi1n : ((i : Int) + 1).toNat = i + 1 := by omega
    have hi1a : (0 : Int) ≤ (i : Int) + 1 := by omega
    clear HONE hbg h2
    obtain ⟨d, hd⟩ : ∃ b : UInt8, s[i + 1] = b := ⟨_, rfl⟩
    have HD : Hid (l[i + 1]? = some d) := by show _ = _; rw [← hd, ← HL.out]; exact Lib.data_getElem? s (i + 1) hi1
    rw [getD_at HD.out] at H1
    go_wp2_with fail
    refine (refLetter_any d _).mono ?_
    rintro e w1 ⟨rfl, rfl⟩
    cases hlet : Tk.letter d with
    | true =>
      have HF : Hid (Tk.one decT (l.drop i) = Tk.tag decT 1 (l.drop (i + 1))) := by
        show _ = _; rw [H1.out, if_pos hlet, List.drop_drop]
      clear hlet H1 hd
      go_wp2_with fail
      refine (refTag_any s l HL.out (i + 1) (by omega) hs 1 (.inl rfl) _).mono ?_
      rintro e w2 hp
      rw [← HF.out] at hp
      obtain ⟨K, N, a, n, c, SF, D, p, k, rfl, bA2, hfin⟩ := hp.pass HB.out HA.out bA
      have HFIN := Lib.hid hfin
      clear r0 r1 r2 r3 r4 rf bA hp hfin
      have r0 : w2.cell? ⟨A, 0, none⟩ = some (.int .u8 0) := blk_cell bA2 0
      have r1 : w2.cell? ⟨A, 1, none⟩ = some (.string ⟨#[]⟩) := blk_cell bA2 1
      have r2 : w2.cell? ⟨A, 2, none⟩ = some (.slice none 0 0) := blk_cell bA2 2
      have r3 : w2.cell? ⟨A, 3, none⟩ = some (.bool false) := blk_cell bA2 3
      have r4 : w2.cell? ⟨A, 4, none⟩ = some (.string ⟨#[]⟩) := blk_cell bA2 4
      have rf := fun j => blk_free bA2 j
      go_wp2
      exact rone_ret bA2 rfl rfl rfl HFIN.out
    | false =>
    have H2 := Lib.hid (H1.out.trans (if_neg (by rw [hlet]; decide)))
    clear hlet H1
    have e47 := u8_beq d 47 (by decide)
    cases h47 : ((d.toNat : Int) == 47) with
    | true =>
      have hd47 : d = 47 := by have := e47.trans h47; rw [beq_iff_eq] at this; exact this
      have H3 := Lib.hid (H2.out.trans (if_pos hd47))
      clear H2 e47 hd47 HD
      by_cases hend : i + 2 = s.size
      · have HF := Lib.hid (H3.out.trans (if_pos (.inl (by rw [List.length_drop]; have := HSZ.out; omega))))
        have hb : ((i : Int) + 2 == (s.size : Int)) = true := by rw [beq_iff_eq]; omega
        clear H3 hend
        go_wp2
        exact rone_ret bA rfl rfl rfl (.err HB.out HA.out 40 (by decide) HF.out rfl)
      have hb : ((i : Int) + 2 == (s.size : Int)) = false := by rw [beq_eq_false_iff_ne]; omega
      have hi3 : i + 2 < s.size := by omega
      have hi3i : (i : Int) + 2 < (s.size : Int) := by omega
      have hi3n : ((i : Int) + 2).toNat = i + 2 := by omega
      have hi3a : (0 : Int) ≤ (i : Int) + 2 := by omega
      have hlen : ¬ (l.drop i).length = 2 := by rw [List.length_drop]; have := HSZ.out; omega
      obtain ⟨d2, hd2⟩ : ∃ b : UInt8, s[i + 2] = b := ⟨_, rfl⟩
      have HD2 : Hid (l[i + 2]? = some d2) := by show _ = _; rw [← hd2, ← HL.out]; exact Lib.data_getElem? s (i + 2) hi3
      rw [getD_at HD2.out] at H3
      have HLEN := Lib.hid hlen
      clear hend hlen
      go_wp2_with fail
      refine (refLetter_any d2 _).mono ?_
      rintro e w1 ⟨rfl, rfl⟩
      cases hlet : Tk.letter d2 with
      | false =>
        have HF := Lib.hid (H3.out.trans (if_pos (.inr hlet)))
        clear H3 hlet
        go_wp2
        exact rone_ret bA rfl rfl rfl (.err HB.out HA.out 40 (by decide) HF.out rfl)
      | true =>
        have HF : Hid (Tk.one decT (l.drop i) = Tk.tag decT 2 (l.drop (i + 2))) := by
          show _ = _; rw [H3.out, if_neg (by rintro (h | h); exact HLEN.out h; rw [hlet] at h; cases h), List.drop_drop]
        clear hlet H3 hd hd2
        go_wp2_with fail
        refine (refTag_any s l HL.out (i + 2) (by omega) hs 2 (.inr rfl) _).mono ?_
        rintro e w2 hp
        rw [← HF.out] at hp
        obtain ⟨K, N, a, n, c, SF, D, p, k, rfl, bA2, hfin⟩ := hp.pass HB.out HA.out bA
        have HFIN := Lib.hid hfin
        clear r0 r1 r2 r3 r4 rf bA hp hfin
        have r0 : w2.cell? ⟨A, 0, none⟩ = some (.int .u8 0) := blk_cell bA2 0
        have r1 : w2.cell? ⟨A, 1, none⟩ = some (.string ⟨#[]⟩) := blk_cell bA2 1
        have r2 : w2.cell? ⟨A, 2, none⟩ = some (.slice none 0 0) := blk_cell bA2 2
        have r3 : w2.cell? ⟨A, 3, none⟩ = some (.bool false) := blk_cell bA2 3
        have r4 : w2.cell? ⟨A, 4, none⟩ = some (.string ⟨#[]⟩) := blk_cell bA2 4
        have rf := fun j => blk_free bA2 j
        go_wp2
        exact rone_ret bA2 rfl rfl rfl HFIN.out
    | false =>
    have H3 := Lib.hid (H2.out.trans (if_neg (by intro h; rw [h] at h47; exact absurd h47 (by decide))))
    clear H2 e47 HD
    go_wp2_with fail
    clear hd
    have hat := fun W : World => refAt_any s ⟨#[60, 33, 45, 45]⟩ i (by omega) hs (by decide) W
    have e0 : (⟨#[60, 33, 45, 45]⟩ : ByteArray).data.toList = [60, 33, 45, 45] := rfl
    rw [HL.out, e0] at hat
    refine (hat _).mono ?_
    rintro e w1 ⟨rfl, rfl⟩
    clear hat e0
    cases hp4 : Lib.hasPrefix (l.drop i) [60, 33, 45, 45] with
    | true =>
      have hlen4 : i + 4 ≤ s.size := by
        have := pre_len hp4
        rw [List.length_drop] at this; simp at this; have := HSZ.out; omega
      have HF : Hid (Tk.one decT (l.drop i) = Tk.comment (l.drop (i + 4))) := by
        show _ = _; rw [H3.out, if_pos hp4, List.drop_drop]
      clear hp4 H3
      go_wp2_with fail
      refine (refComment_any s l HL.out (i + 4) hlen4 hs _).mono ?_
      rintro e w2 hp
      rw [← HF.out] at hp
      obtain ⟨K, N, a, n, c, SF, D, p, k, rfl, bA2, hfin⟩ := hp.pass HB.out HA.out bA
      have HFIN := Lib.hid hfin
      clear r0 r1 r2 r3 r4 rf bA hp hfin
      have r0 : w2.cell? ⟨A, 0, none⟩ = some (.int .u8 0) := blk_cell bA2 0
      have r1 : w2.cell? ⟨A, 1, none⟩ = some (.string ⟨#[]⟩) := blk_cell bA2 1
      have r2 : w2.cell? ⟨A, 2, none⟩ = some (.slice none 0 0) := blk_cell bA2 2
      have r3 : w2.cell? ⟨A, 3, none⟩ = some (.bool false) := blk_cell bA2 3
      have r4 : w2.cell? ⟨A, 4, none⟩ = some (.string ⟨#[]⟩) := blk_cell bA2 4
      have rf := fun j => blk_free bA2 j
      go_wp2
      exact rone_ret bA2 rfl rfl rfl HFIN.out
    | false =>
      have HF : Hid (Tk.one decT (l.drop i) = Tk.mark (l.drop i)) := by
        show _ = _; rw [H3.out, if_neg (by rw [hp4]; decide)]
      clear hp4 H3
      go_wp2_with fail
      refine (refDoctype_any s l HL.out i (by omega) hs _).mono ?_
      rintro e w2 hp
      rw [← HF.out] at hp
      obtain ⟨K, N, a, n, c, SF, D, p, k, rfl, bA2, hfin⟩ := hp.pass HB.out HA.out bA
      have HFIN := Lib.hid hfin
      clear r0 r1 r2 r3 r4 rf bA hp hfin
      have r0 : w2.cell? ⟨A, 0, none⟩ = some (.int .u8 0) := blk_cell bA2 0
      have r1 : w2.cell? ⟨A, 1, none⟩ = some (.string ⟨#[]⟩) := blk_cell bA2 1
      have r2 : w2.cell? ⟨A, 2, none⟩ = some (.slice none 0 0) := blk_cell bA2 2
      have r3 : w2.cell? ⟨A, 3, none⟩ = some (.bool false) := blk_cell bA2 3
      have r4 : w2.cell? ⟨A, 4, none⟩ = some (.string ⟨#[]⟩) := blk_cell bA2 4
      have rf := fun j => blk_free bA2 j
      go_wp2
      exact rone_ret bA2 rfl rfl rfl HFIN.out
  | false =>
    have H1 : Hid (Tk.one decT (l.drop i) = .inr (⟨3, [], [], false, decT ((l.drop i).take (Tk.run (l.drop (i + 1)) + 1)) false⟩, l.drop (i + (Tk.run (l.drop (i + 1)) + 1)))) := by
      show _ = _
      rw [HONE.out, if_pos hbg]; unfold Tk.text; rw [List.drop_drop, List.drop_drop]
    clear HONE hbg
    go_wp2_with fail
    go_loopg [7] s.size (fun g v wr => ∃ m : Nat, v = .int .i64 (m : Int) ∧ i + 1 ≤ m ∧ m ≤ s.size ∧ s.size ≤ m + g ∧ wr = W ∧ Hid (i + 1 + Tk.run (l.drop (i + 1)) = m + Tk.run (l.drop m)))
    case atStart => exact ⟨i + 1, rfl, Nat.le_refl _, by omega, by omega, rfl, rfl⟩
    case round =>
      obtain ⟨m, rfl, him, hms, hmg, rfl, HR⟩ := hrel
      have done : Tk.run (l.drop m) = 0 → Tk.one decT (l.drop i) = .inr (⟨3, [], [], false, decT ((l.drop i).take (m - i)) false⟩, l.drop m) := by
        intro h
        have h1 := HR.out
        rw [h] at h1
        have e : Tk.run (l.drop (i + 1)) + 1 = m - i := by omega
        have e2 : i + (m - i) = m := by omega
        rw [H1.out, e, e2]
      have HDN := Lib.hid done
      clear done
      obtain ⟨VS, hVS⟩ : ∃ VS, s.extract i m = VS := ⟨_, rfl⟩
      have HVD : Hid (VS.data.toList = (l.drop i).take (m - i)) := by show _ = _; rw [← hVS, Lib.extract_eq, HL.out]
      have hvs : VS.size ≤ 1000000 := by rw [Lib.size_eq, HVD.out, List.length_take, List.length_drop]; have := HSZ.out; omega
      have hdec := fun W : World => refDecode_any VS _ HVD.out false W hvs
      obtain ⟨D, hD⟩ : ∃ D, decT ((l.drop i).take (m - i)) false = D := ⟨_, rfl⟩
      have hD' : Tk.dec nmT otT ((l.drop i).take (m - i)) false = D := hD
      rw [hD'] at hdec
      rw [hD] at HDN
      have himi : (i : Int) ≤ (m : Int) := by omega
      have hmsi : (m : Int) ≤ (s.size : Int) := by omega
      have hml : m ≤ l.length := by have := HSZ.out; omega
      clear hD hD' hvs HVD
      by_cases hm : m < s.size
      · have hmi : (m : Int) < (s.size : Int) := by omega
        obtain ⟨g, rfl⟩ : ∃ g, gk = g + 1 := ⟨gk - 1, by omega⟩
        go_wp2_with fail
        refine (refBegins_any s l HL.out m hms hs _).mono ?_
        rintro e w1 ⟨rfl, rfl⟩
        cases hb : Tk.begins (l.drop m) with
        | false =>
          have HR2 : Hid (i + 1 + Tk.run (l.drop (i + 1)) = (m + 1) + Tk.run (l.drop (m + 1))) := by
            have h1 := HR.out
            obtain ⟨c, hc⟩ : ∃ c, l[m]? = some c := ⟨l[m]'(by have := HSZ.out; omega), List.getElem?_eq_getElem _⟩
            rw [drop_atr hc] at h1 hb
            rw [run_step hb] at h1
            show _ = _; omega
          clear hb HR HDN hdec hVS
          go_wp2_with fail
          go_roundg g
          case measure => omega
          case rel => exact ⟨m + 1, rfl, by omega, by omega, by omega, rfl, HR2⟩
        | true =>
          have HF := Lib.hid (HDN.out (run_begins hb))
          clear hb HR HDN
          go_wp2_with fail
          refine (hdec _).mono ?_
          rintro e w2 ⟨rfl, hb2⟩
          have HB2 := Lib.hid (HB.out.trans (hb2.mono HB.out.size))
          have bA2 := bB bA hb2
          clear r0 r1 r2 r3 r4 rf bA hb2 hdec
          have r0 : w2.cell? ⟨A, 0, none⟩ = some (.int .u8 0) := blk_cell bA2 0
          have r1 : w2.cell? ⟨A, 1, none⟩ = some (.string ⟨#[]⟩) := blk_cell bA2 1
          have r2 : w2.cell? ⟨A, 2, none⟩ = some (.slice none 0 0) := blk_cell bA2 2
          have r3 : w2.cell? ⟨A, 3, none⟩ = some (.bool false) := blk_cell bA2 3
          have r4 : w2.cell? ⟨A, 4, none⟩ = some (.string ⟨#[]⟩) := blk_cell bA2 4
          have rf := fun j => blk_free bA2 j
          go_wp2
          exact rone_ret bA2 rfl rfl rfl (.ok HB2.out HA.out bA2 ⟨3, [], [], false, D⟩ m hml HF.out rfl rfl rfl rfl rfl rfl (World.ownsRow_nil _ _ _ _))
      · have hmi : ¬ (m : Int) < (s.size : Int) := by omega
        have HF := Lib.hid (HDN.out (by rw [List.drop_eq_nil_of_le (by have := HSZ.out; omega)]; rfl))
        clear HR HDN
        go_wp2_with fail
        refine (hdec _).mono ?_
        rintro e w2 ⟨rfl, hb2⟩
        have HB2 := Lib.hid (HB.out.trans (hb2.mono HB.out.size))
        have bA2 := bB bA hb2
        clear r0 r1 r2 r3 r4 rf bA hb2 hdec
        have r0 : w2.cell? ⟨A, 0, none⟩ = some (.int .u8 0) := blk_cell bA2 0
        have r1 : w2.cell? ⟨A, 1, none⟩ = some (.string ⟨#[]⟩) := blk_cell bA2 1
        have r2 : w2.cell? ⟨A, 2, none⟩ = some (.slice none 0 0) := blk_cell bA2 2
        have r3 : w2.cell? ⟨A, 3, none⟩ = some (.bool false) := blk_cell bA2 3
        have r4 : w2.cell? ⟨A, 4, none⟩ = some (.string ⟨#[]⟩) := blk_cell bA2 4
        have rf := fun j => blk_free bA2 j
        go_wp2
        exact rone_ret bA2 rfl rfl rfl (.ok HB2.out HA.out bA2 ⟨3, [], [], false, D⟩ m hml HF.out rfl rfl rfl rfl rfl rfl (World.ownsRow_nil _ _ _ _))
end Go.Proofs.YtaohdicilfabeaaGreatDoor

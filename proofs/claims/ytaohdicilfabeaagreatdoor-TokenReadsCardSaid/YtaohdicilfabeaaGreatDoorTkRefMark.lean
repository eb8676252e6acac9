/- The answer's doctype (selvedgeref04), walked. -/
import Derived.Test.YtaohdicilfabeaaGreatDoorTkRefComment
namespace Go.Proofs.YtaohdicilfabeaaGreatDoor
open Go.RowKit
set_option linter.unusedVariables false
set_option linter.unusedSimpArgs false

theorem dropW_head {p : UInt8 → Bool} {c : UInt8} {r : List UInt8} : ∀ (l : List UInt8), l.dropWhile p = c :: r → p c = false := by
  intro l
  induction l with
  | nil => intro h; cases h
  | cons x l ih =>
    intro h
    rw [List.dropWhile_cons] at h
    split at h
    · exact ih h
    · rename_i hx; injection h with h1 _; rw [← h1]; simpa using hx
/-- Where the blanks behind a place end. -/
theorem skip_at {l : List UInt8} {a k : Nat} (hak : a ≤ k) (hk : k ≤ l.length) (h : l.drop k = Tk.skip (l.drop a)) :
    (∀ (j : Nat) b, a ≤ j → j < k → l[j]? = some b → Tk.blanks.contains b = true) ∧ (∀ b, l[k]? = some b → Tk.blanks.contains b = false) := by
  have h1 : (l.drop a).takeWhile (Tk.blanks.contains ·) ++ Tk.skip (l.drop a) = l.drop a := List.takeWhile_append_dropWhile
  have h2 := congrArg List.length h1
  rw [List.length_append, ← h, List.length_drop, List.length_drop] at h2
  refine ⟨fun j b hj1 hj2 hb => ?_, fun b hb => ?_⟩
  · have h3 : ((l.drop a).takeWhile (Tk.blanks.contains ·))[j - a]? = some b := by
      have : (l.drop a)[j - a]? = some b := by rw [List.getElem?_drop]; have e : a + (j - a) = j := (by omega); rw [e]; exact hb
      rw [← h1, List.getElem?_append_left (by omega)] at this
      exact this
    exact List.all_eq_true.1 List.all_takeWhile b (List.mem_of_getElem? h3)
  · exact dropW_head (l.drop a) ((h.symm.trans (drop_atr hb)))
theorem blank_62 : Tk.blanks.contains 62 = false := by decide
/-- A doctype's data: what is left between the blanks. -/
theorem trim_at {l : List UInt8} {a k m e : Nat} (hk : k ≤ m) (hak : a ≤ k) (hme : m ≤ e) (hel : e ≤ l.length) (h1 : ∀ (j : Nat) b, a ≤ j → j < k → l[j]? = some b → Tk.blanks.contains b = true) (h2 : ∀ b, l[k]? = some b → Tk.blanks.contains b = false)
    (h3 : ∀ (j : Nat) b, m ≤ j → j < e → l[j]? = some b → Tk.blanks.contains b = true) (h4 : k < m → ∀ b, l[m - 1]? = some b → Tk.blanks.contains b = false) : Lib.trimS ((l.drop a).take (e - a)) Tk.blanks = (l.drop k).take (m - k) := by
  have at' : ∀ (n : Nat) j b, ((l.drop a).take n)[j]? = some b → j < n ∧ l[a + j]? = some b := by
    intro n j b h
    rw [List.getElem?_take] at h
    split at h
    · rename_i hj; rw [List.getElem?_drop] at h; exact ⟨hj, h⟩
    · cases h
  have hlen : ((l.drop a).take (e - a)).length = e - a := by rw [List.length_take, List.length_drop]; omega
  have hright : Lib.trimRightS ((l.drop a).take (e - a)) Tk.blanks = if k < m then (l.drop a).take (m - a) else [] := by
    by_cases hkm : k < m
    · rw [if_pos hkm, Lib.trimRightS_take _ _ (m - a) (by omega) ?_ ?_, List.take_take]
      · congr 1; omega
      · intro j b hj hb
        obtain ⟨h5, h6⟩ := at' _ _ _ hb
        exact h3 (a + j) b (by omega) (by omega) h6
      · intro b h0 hb
        obtain ⟨h5, h6⟩ := at' _ _ _ hb
        exact h4 hkm b (by have e : m - 1 = a + (m - a - 1) := (by omega); rw [e]; exact h6)
    · rw [if_neg hkm, Lib.trimRightS_take _ _ 0 (by omega) ?_ (fun b h0 => absurd h0 (by omega)), List.take_zero]
      intro j b _ hb
      obtain ⟨h5, h6⟩ := at' _ _ _ hb
      by_cases hj : a + j < k
      · exact h1 (a + j) b (by omega) hj h6
      · exact h3 (a + j) b (by omega) (by omega) h6
  unfold Lib.trimS
  rw [hright]
  by_cases hkm : k < m
  · rw [if_pos hkm, Lib.trimLeftS_drop _ _ (k - a) (by rw [List.length_take, List.length_drop]; omega) ?_ ?_, List.drop_take, List.drop_drop]
    · congr 1
      · omega
      · congr 1; omega
    · intro j b hj hb
      obtain ⟨h5, h6⟩ := at' _ _ _ hb
      exact h1 (a + j) b (by omega) (by omega) h6
    · intro b hb
      obtain ⟨h5, h6⟩ := at' _ _ _ hb
      exact h2 b (by have e : k = a + (k - a) := (by omega); rw [e]; exact h6)
  · rw [if_neg hkm]
    have e : m - k = 0 := by omega
    rw [e, List.take_zero]; rfl

set_option maxRecDepth 100000 in
set_option maxHeartbeats 8000000 in
theorem refDoctype_any (s : ByteArray) (l : List UInt8) (hl : s.data.toList = l) (i : Nat) (hi : i ≤ s.size) (hs : s.size ≤ 1000000) (w : World) :
    Calls Tryz.prog 29 #[.string s, .int .i64 (i : Int)] w (RTokPost l (Tk.mark (l.drop i)) w) := by
  have HL := Lib.hid hl
  have hsz : l.length = s.size := by rw [← hl, ← Lib.size_eq]
  have HSZ := Lib.hid hsz
  clear hl hsz
  go_enter Tryz.func29, Tryz.ntmps29
  go_upto_region 2 with (fail)
  have bA := bN w (.cells #[.int .u8 0, .string ⟨#[]⟩, .slice none 0 0, .bool false, .string ⟨#[]⟩] 46 (0, 0))
  have HB := Lib.hid ((Below.refl w.heap.size w).alloc (Nat.le_refl _) (.cells #[.int .u8 0, .string ⟨#[]⟩, .slice none 0 0, .bool false, .string ⟨#[]⟩] 46 (0, 0)))
  generalize w.alloc (.cells #[.int .u8 0, .string ⟨#[]⟩, .slice none 0 0, .bool false, .string ⟨#[]⟩] 46 (0, 0)) = W at *
  obtain ⟨A, hA⟩ : ∃ A, w.heap.size = A := ⟨_, rfl⟩
  have HA : Hid (w.heap.size ≤ A) := Nat.le_of_eq hA
  rw [hA] at bA ⊢
  clear hA
  have r0 : W.cell? ⟨A, 0, none⟩ = some (.int .u8 0) := blk_cell bA 0
  have r1 : W.cell? ⟨A, 1, none⟩ = some (.string ⟨#[]⟩) := blk_cell bA 1
  have r2 : W.cell? ⟨A, 2, none⟩ = some (.slice none 0 0) := blk_cell bA 2
  have r3 : W.cell? ⟨A, 3, none⟩ = some (.bool false) := blk_cell bA 3
  have r4 : W.cell? ⟨A, 4, none⟩ = some (.string ⟨#[]⟩) := blk_cell bA 4
  have rf := fun j => blk_free bA j
  have h9s : ((⟨#[60, 33, 100, 111, 99, 116, 121, 112, 101]⟩ : ByteArray).size : Int) = 9 := rfl
  by_cases h9 : s.size < i + 9
  · have h9i : (s.size : Int) < (i : Int) + 9 := by omega
    have HF : Hid (Tk.mark (l.drop i) = .inl 43) := by show _ = _; unfold Tk.mark; rw [if_pos (.inl (by rw [List.length_drop]; have := HSZ.out; omega))]
    clear h9
    go_wp2
    exact rdoctype_ret bA rfl rfl rfl (.err HB.out HA.out 43 (by decide) HF.out rfl)
  have h9i : ¬ (s.size : Int) < (i : Int) + 9 := by omega
  have hi9 : i + 9 ≤ s.size := by omega
  have h9n : ((i : Int) + 9).toNat = i + 9 := by omega
  have h9a : (0 : Int) ≤ (i : Int) + 9 := by omega
  have h9b : (i : Int) ≤ (i : Int) + 9 := by omega
  have h9c : (i : Int) + 9 ≤ (s.size : Int) := by omega
  obtain ⟨X, hX⟩ : ∃ X, s.extract i (i + 9) = X := ⟨_, rfl⟩
  have hXd : X.data.toList = (l.drop i).take 9 := by rw [← hX, Lib.extract_eq, HL.out]; simp
  have hXs : X.size ≤ 1000000 := by rw [Lib.size_eq, hXd, List.length_take]; omega
  have hsm := fun W : World => refSmall_any X W (by omega)
  rw [hXd] at hsm
  obtain ⟨S, hS⟩ : ∃ S, Tk.small ((l.drop i).take 9) = S := ⟨_, rfl⟩
  rw [hS] at hsm
  have HM0 : Hid (Tk.mark (l.drop i) = if S ≠ Tk.head then .inl 43 else if Tk.past [62] (l.drop (i + 9)) = [] then .inl 43 else .inr (⟨5, [], [], false, Lib.trimS (Tk.upto [62] (l.drop (i + 9))) Tk.blanks⟩, (Tk.past [62] (l.drop (i + 9))).drop 1)) := by
    show _ = _
    unfold Tk.mark
    rw [hS, List.drop_drop]
    have e : ¬ (l.drop i).length < 9 := by rw [List.length_drop]; have := HSZ.out; omega
    simp only [e, false_or]
  clear h9 hS hXd hXs
  go_wp2_with fail
  refine (hsm _).mono ?_
  rintro e w2 ⟨rfl, hb2⟩
  clear hsm
  have HB2 := Lib.hid (HB.out.trans (hb2.mono HB.out.size))
  have bA2 := bB bA hb2
  clear hb2 bA HB r0 r1 r2 r3 r4 rf hX
  have r0 : w2.cell? ⟨A, 0, none⟩ = some (.int .u8 0) := blk_cell bA2 0
  have r1 : w2.cell? ⟨A, 1, none⟩ = some (.string ⟨#[]⟩) := blk_cell bA2 1
  have r2 : w2.cell? ⟨A, 2, none⟩ = some (.slice none 0 0) := blk_cell bA2 2
  have r3 : w2.cell? ⟨A, 3, none⟩ = some (.bool false) := blk_cell bA2 3
  have r4 : w2.cell? ⟨A, 4, none⟩ = some (.string ⟨#[]⟩) := blk_cell bA2 4
  have rf := fun j => blk_free bA2 j
  by_cases hsh : S = [60, 33, 100, 111, 99, 116, 121, 112, 101]
  rotate_left
  · have HF := Lib.hid (HM0.out.trans (if_pos hsh))
    have hsb : (S == [60, 33, 100, 111, 99, 116, 121, 112, 101]) = false := by rw [beq_eq_false_iff_ne]; exact hsh
    have hsb2 : (S != [60, 33, 100, 111, 99, 116, 121, 112, 101]) = true := by rw [bne, hsb]; rfl
    clear hsh HM0
    go_wp2
    exact rdoctype_ret bA2 rfl rfl rfl (.err HB2.out HA.out 43 (by decide) HF.out rfl)
  have HM := Lib.hid (HM0.out.trans (if_neg (fun h => h hsh)))
  have hsb : (S == [60, 33, 100, 111, 99, 116, 121, 112, 101]) = true := by rw [beq_iff_eq]; exact hsh
  have hsb2 : (S != [60, 33, 100, 111, 99, 116, 121, 112, 101]) = false := by rw [bne, hsb]; rfl
  clear hsh HM0
  have hFP := findAt_past (l := l) (q := 62) (i := i + 9) (by have := HSZ.out; omega)
  have hfind := fun W : World => refFind_any s ⟨#[62]⟩ (i + 9) hi9 hs (by decide) (by decide) W
  have e2 : (⟨#[62]⟩ : ByteArray).data.toList = [62] := rfl
  have e9 : ((i + 9 : Nat) : Int) = (i : Int) + 9 := by omega
  rw [HL.out, e2, e9] at hfind
  clear e2
  go_wp2_with fail
  rcases hFP with ⟨hf1, hf2⟩ | ⟨ee, hf1, hf2, hf3, hf4⟩
  · rw [hf1] at hfind
    have HF := Lib.hid (HM.out.trans (if_pos hf2))
    clear hf1 hf2 HM
    refine (hfind _).mono ?_
    rintro e w3 ⟨rfl, rfl⟩
    clear hfind
    go_wp2
    exact rdoctype_ret bA2 rfl rfl rfl (.err HB2.out HA.out 43 (by decide) HF.out rfl)
  rw [hf1] at hfind
  have hne2 : Tk.past [62] (l.drop (i + 9)) ≠ [] := by
    rw [← hf4]; intro h; have := congrArg List.length h; rw [List.length_drop] at this; simp at this; omega
  have HUP : Hid ((l.drop (i + 9)).take (ee - (i + 9)) = Tk.upto [62] (l.drop (i + 9))) := cut_upto hf2 (by omega) hf4
  have HM2 : Hid (Tk.mark (l.drop i) = .inr (⟨5, [], [], false, Lib.trimS ((l.drop (i + 9)).take (ee - (i + 9))) Tk.blanks⟩, l.drop (ee + 1))) := by
    show _ = _; rw [HM.out, if_neg hne2, HUP.out, ← hf4, List.drop_drop]
  have HE62 : Hid (l[ee]? = some 62) := by
    have h := past_head (q := 62) (l := l.drop (i + 9)) (e := ee - (i + 9)) (by rw [List.drop_drop, ← hf4]; congr 1; omega) (by rw [List.length_drop]; omega)
    rw [List.getElem?_drop] at h
    have e : i + 9 + (ee - (i + 9)) = ee := by omega
    rw [e] at h; exact h
  have hee0 : ¬ (ee : Int) < 0 := by omega
  have hees : ee < s.size := by have := HSZ.out; omega
  clear hf1 hf4 hne2 HM HUP hf3
  refine (hfind _).mono ?_
  rintro e w3 ⟨rfl, rfl⟩
  clear hfind
  have hskip := fun W : World => refSkip_any s l HL.out (i + 9) hi9 hs W
  rw [e9] at hskip
  go_wp2_with fail
  refine (hskip _).mono ?_
  rintro e w3 ⟨k, rfl, hk9, hks, hdk, rfl⟩
  clear hskip e9
  obtain ⟨hb1, hb2⟩ := skip_at hk9 (by have := HSZ.out; omega) hdk
  have hke : k ≤ ee := by
    rcases Nat.lt_or_ge ee k with h | h
    · have := hb1 ee 62 hf2 h HE62.out; rw [blank_62] at this; cases this
    · exact h
  have HB1 := Lib.hid hb1
  have HBK := Lib.hid hb2
  clear hdk hb1 hb2
  go_wp2_with fail
  go_loopg [10] ee (fun g v wr => ∃ m : Nat, v = .int .i64 (m : Int) ∧ k ≤ m ∧ m ≤ ee ∧ m ≤ g ∧ wr = w2 ∧ Hid (∀ (j : Nat) b, m ≤ j → j < ee → l[j]? = some b → Tk.blanks.contains b = true))
  case atStart => exact ⟨ee, rfl, hke, Nat.le_refl _, Nat.le_refl _, rfl, fun j b h1 h2 => absurd h1 (by omega)⟩
  case round =>
    obtain ⟨m, rfl, hkm, hme, hmg, rfl, HBL⟩ := hrel
    have fin : (k < m → ∀ b, l[m - 1]? = some b → Tk.blanks.contains b = false) → Tk.mark (l.drop i) = .inr (⟨5, [], [], false, (l.drop k).take (m - k)⟩, l.drop (ee + 1)) := by
      intro h
      rw [HM2.out, trim_at hkm hk9 hme (by have := HSZ.out; omega) HB1.out HBK.out HBL.out h]
    have HFN := Lib.hid fin
    clear fin
    have hmin : min (k : Int) (m : Int) = (k : Int) := by omega
    have hkmi : (k : Int) ≤ (m : Int) := by omega
    have hmsi : (m : Int) ≤ (s.size : Int) := by omega
    have HEX : Hid (s.extract k m = ⟨((l.drop k).take (m - k)).toArray⟩) := by show _ = _; rw [Lib.extract_eq, HL.out]
    have hql : ee + 1 ≤ l.length := by have := HSZ.out; omega
    by_cases hmk : k < m
    · have hmki : (k : Int) < (m : Int) := by omega
      obtain ⟨m', rfl⟩ : ∃ m', m = m' + 1 := ⟨m - 1, by omega⟩
      obtain ⟨g, rfl⟩ : ∃ g, gk = g + 1 := ⟨gk - 1, by omega⟩
      have hw : IntKind.i64.wrap (((m' + 1 : Nat) : Int) - 1) = (m' : Int) := by
        rw [IntKind.wrap_i64]; omega
      have hlti : (m' : Int) < (s.size : Int) := by omega
      have hlt : m' < s.size := by omega
      obtain ⟨c, hc⟩ : ∃ c : UInt8, s[m'] = c := ⟨_, rfl⟩
      have HC : Hid (l[m']? = some c) := by show _ = _; rw [← hc, ← HL.out]; exact Lib.data_getElem? s m' hlt
      have hlast : (m' + 1) - 1 = m' := by omega
      have hm1 : ((m' + 1 : Nat) : Int) - 1 = (m' : Int) := by omega
      go_wp2_with fail
      refine (refBlank_any c _).mono ?_
      rintro e w4 ⟨rfl, rfl⟩
      clear hc
      cases hbl : Tk.blanks.contains c with
      | true =>
        have HBL2 : Hid (∀ (j : Nat) b, m' ≤ j → j < ee → l[j]? = some b → Tk.blanks.contains b = true) := by
          intro j b h1 h2 hb
          rcases Nat.lt_or_ge m' j with h | h
          · exact HBL.out j b h h2 hb
          · obtain rfl : j = m' := by omega
            rw [HC.out] at hb; cases hb; exact hbl
        clear hbl HBL HFN HEX hmin
        go_wp2_with fail
        go_roundg g
        case measure => omega
        case rel => exact ⟨m', by simp, by omega, by omega, by omega, rfl, HBL2⟩
      | false =>
        have HF := Lib.hid (HFN.out (fun _ b hb => by rw [hlast, HC.out] at hb; cases hb; exact hbl))
        have hmin2 : (min (k : Int) ((m' : Int) + 1)).toNat = k := by omega
        clear hbl HBL HFN HC
        go_wp2
        exact rdoctype_ret bA2 rfl rfl rfl (.ok HB2.out HA.out bA2 ⟨5, [], [], false, _⟩ (ee + 1) hql HF.out rfl (by omega) rfl rfl rfl (by rw [← HEX.out]) (World.ownsRow_nil _ _ _ _))
    · have hmki : ¬ (k : Int) < (m : Int) := by omega
      have HF := Lib.hid (HFN.out (fun h => absurd h hmk))
      clear HBL HFN hmk
      go_wp2
      exact rdoctype_ret bA2 rfl rfl rfl (.ok HB2.out HA.out bA2 ⟨5, [], [], false, _⟩ (ee + 1) hql HF.out rfl (by omega) rfl rfl rfl HEX.out (World.ownsRow_nil _ _ _ _))
end Go.Proofs.YtaohdicilfabeaaGreatDoor

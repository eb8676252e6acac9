/- The answer's attr (selvedgeref04), walked: an attribute, as the program reads it. -/
import Derived.Test.YtaohdicilfabeaaGreatDoorTkRefDec
import Derived.Test.YtaohdicilfabeaaGreatDoorTkWorks
namespace Go.Proofs.YtaohdicilfabeaaGreatDoor
open Go.RowKit
set_option linter.unusedVariables false
set_option linter.unusedSimpArgs false

def RAttrPost (l : List UInt8) (i : Nat) (w : World) (e : Ending) (w' : World) : Prop :=
  Below w.heap.size w w' ∧ ∃ (x y : ByteArray) (p : Nat) (k : Int), e = .returned (.tuple #[.agg #[.string x, .string y], .int .i64 (p : Int), .int .i64 k]) ∧ p ≤ l.length ∧
    ((∃ k' : Nat, k' ≠ 0 ∧ k = k' ∧ Tk.attr decT (l.drop i) = .inl k') ∨ (k = 0 ∧ ∃ a, Tk.attr decT (l.drop i) = .inr (a, l.drop p) ∧ x = ⟨a.name.toArray⟩ ∧ y = ⟨a.value.toArray⟩))
theorem rattr_three {post : Ending → World → Prop} {t : Array Value} {W : World} {A : Nat} {X Y X0 Y0 : Value} {p k : Int} {T : TypeId}
    (b : W.heap[A]? = some (.cells #[X0, Y0] T (0, 0))) (h4 : t[4]? = some (.pointer (some ⟨A, 0, none⟩))) (h5 : t[5]? = some (.int .i64 p)) (h6 : t[6]? = some (.int .i64 k)) (hT : T = 35)
    (hq : post (.returned (.tuple #[.agg #[X, Y], .int .i64 p, .int .i64 k])) ((W.setCell ⟨A, 0, none⟩ X).setCell ⟨A, 1, none⟩ Y)) :
    bodyPost Tryz.prog Tryz.f45 post Exit.ret { tmps := t, defers := [] } ((W.setCell ⟨A, 0, none⟩ X).setCell ⟨A, 1, none⟩ Y) := by
  have bR := bP (bP b 0 X rfl) 1 Y rfl
  generalize (W.setCell ⟨A, 0, none⟩ X).setCell ⟨A, 1, none⟩ Y = W4 at *
  have r0 : W4.cell? ⟨A, 0, none⟩ = some X := blk_cell bR 0
  have r1 : W4.cell? ⟨A, 1, none⟩ = some Y := blk_cell bR 1
  exact bodyPost_ret (v := .tuple #[.agg #[X, Y], .int .i64 p, .int .i64 k]) (by simp [results, Tryz.results45, go_sem, r0, r1, h4, h5, h6]) rfl hq
theorem rattr_fin {l : List UInt8} {i : Nat} {w W : World} {t : Array Value} {A : Nat} {X0 Y0 : Value} {x y : ByteArray} {p : Nat} {p' k : Int}
    (b : W.heap[A]? = some (.cells #[X0, Y0] 35 (0, 0))) (hA : w.heap.size ≤ A) (hb : Below w.heap.size w W) (h4 : t[4]? = some (.pointer (some ⟨A, 0, none⟩))) (h5 : t[5]? = some (.int .i64 p')) (h6 : t[6]? = some (.int .i64 k)) (hp' : p' = p) (hp : p ≤ l.length)
    (hc : (∃ k' : Nat, k' ≠ 0 ∧ k = k' ∧ Tk.attr decT (l.drop i) = .inl k') ∨ (k = 0 ∧ ∃ a, Tk.attr decT (l.drop i) = .inr (a, l.drop p) ∧ x = ⟨a.name.toArray⟩ ∧ y = ⟨a.value.toArray⟩)) :
    bodyPost Tryz.prog Tryz.f45 (RAttrPost l i w) Exit.ret { tmps := t, defers := [] } ((W.setCell ⟨A, 0, none⟩ (.string x)).setCell ⟨A, 1, none⟩ (.string y)) := by
  subst hp'
  exact rattr_three b h4 h5 h6 rfl ⟨(hb.setCell (p := ⟨A, 0, none⟩) hA _).setCell (p := ⟨A, 1, none⟩) hA _, x, y, p, k, rfl, hp, hc⟩
theorem cut_upto {l c : List UInt8} {i k : Nat} (hik : i ≤ k) (hk : k ≤ l.length) (h : l.drop k = Tk.past c (l.drop i)) : (l.drop i).take (k - i) = Tk.upto c (l.drop i) := by
  have h1 : Tk.upto c (l.drop i) ++ Tk.past c (l.drop i) = l.drop i := List.takeWhile_append_dropWhile
  have h2 := congrArg List.length h1
  rw [List.length_append, ← h, List.length_drop, List.length_drop] at h2
  have h3 : (Tk.upto c (l.drop i)).length = k - i := by omega
  rw [← h3]; exact (upto_take c (l.drop i)).1
theorem ext_upto {s : ByteArray} {l c : List UInt8} {i k : Nat} (hl : s.data.toList = l) (hik : i ≤ k) (hk : k ≤ l.length) (h : l.drop k = Tk.past c (l.drop i)) : s.extract i k = ⟨(Tk.upto c (l.drop i)).toArray⟩ := by
  rw [Lib.extract_eq, hl, cut_upto hik hk h]
theorem past_head {q : UInt8} {l : List UInt8} {e : Nat} (h : Tk.past [q] l = l.drop e) (he : e < l.length) : l[e]? = some q := by
  have h0 : Tk.past [q] l ≠ [] := by rw [h]; intro h2; have := congrArg List.length h2; rw [List.length_drop] at this; simp at this; omega
  obtain ⟨c, r, hc⟩ := List.exists_cons_of_ne_nil h0
  have hq : c = q := by
    have : ∀ (l : List UInt8), Tk.past [q] l = c :: r → c = q := by
      intro l
      induction l with
      | nil => intro h; cases h
      | cons x l ih =>
        intro h
        unfold Tk.past at h ih
        rw [List.dropWhile_cons] at h
        split at h
        · exact ih h
        · rename_i hx; injection h with h1 _; simp at hx; rw [← h1]; exact hx
    exact this l hc
  have : (l.drop e)[0]? = some q := by rw [← h, hc, hq]; rfl
  rw [List.getElem?_drop] at this; exact this
/-- Where a byte is: what is behind it. -/
theorem findAt_past {l : List UInt8} {q : UInt8} {i : Nat} (hi : i ≤ l.length) : (findAt l [q] i = -1 ∧ Tk.past [q] (l.drop i) = []) ∨ ∃ e : Nat, findAt l [q] i = (e : Int) ∧ i ≤ e ∧ e < l.length ∧ l.drop e = Tk.past [q] (l.drop i) := by
  by_cases h : Tk.past [q] (l.drop i) = []
  · left
    refine ⟨findAt_miss hi (fun j h1 h2 => ?_), h⟩
    rw [hasPrefix_one]
    rw [Bool.eq_false_iff]; intro h3
    rw [beq_iff_eq] at h3
    have hm : q ∈ l.drop i := by
      have : (l.drop i)[j - i]? = some q := by rw [List.getElem?_drop]; have e : i + (j - i) = j := (by omega); rw [e]; exact h3
      exact List.mem_of_getElem? this
    have : ∀ (l : List UInt8), Tk.past [q] l = [] → q ∉ l := by
      intro l
      induction l with
      | nil => intro _; simp
      | cons x l ih =>
        intro h
        unfold Tk.past at h ih
        rw [List.dropWhile_cons] at h
        split at h
        · rename_i hx
          intro hm
          rcases List.mem_cons.1 hm with rfl | hm
          · simp at hx
          · exact ih h hm
        · cases h
    exact this _ h hm
  · right
    have hs : Tk.past [q] (l.drop i) <:+ l.drop i := List.dropWhile_suffix _
    have h1 := upto_take [q] (l.drop i)
    have hlen : (Tk.upto [q] (l.drop i)).length < (l.drop i).length := by
      have h2 := congrArg List.length h1.2
      rw [List.length_drop] at h2
      have := List.length_pos_iff.2 h
      omega
    have hd : l.drop (i + (Tk.upto [q] (l.drop i)).length) = Tk.past [q] (l.drop i) := by rw [← List.drop_drop]; exact h1.2
    have hlen' := hlen
    rw [List.length_drop] at hlen'
    refine ⟨i + (Tk.upto [q] (l.drop i)).length, findAt_hit (by omega) (by omega) ?_ (fun j h2 h3 => ?_), by omega, by omega, hd⟩
    · rw [hasPrefix_one]
      have := past_head (q := q) (l := l.drop i) (e := (Tk.upto [q] (l.drop i)).length) h1.2.symm hlen
      rw [List.getElem?_drop] at this
      rw [this]; simp
    · rw [hasPrefix_one, Bool.eq_false_iff]; intro h4
      rw [beq_iff_eq] at h4
      have h5 : (Tk.upto [q] (l.drop i))[j - i]? = some q := by
        rw [← h1.1, List.getElem?_take_of_lt (by omega), List.getElem?_drop]
        have e : i + (j - i) = j := by omega
        rw [e]; exact h4
      have h6 := List.all_eq_true.1 (List.all_takeWhile (p := fun c => !([q] : List UInt8).contains c) (l := l.drop i)) q (List.mem_of_getElem? h5)
      simp at h6
theorem pre_byte {l : List UInt8} {k : Nat} {c : UInt8} (h : l[k]? = some c) (q : UInt8) : Lib.hasPrefix (l.drop k) [q] = (c == q) := by
  rw [hasPrefix_one, h, Bool.eq_iff_iff]; simp
/-- Is it a quote? -/
def isQuote (x : Option UInt8) : Bool := match x with
  | some c => (c.toNat : Int) == 34 || (c.toNat : Int) == 39
  | none => false
theorem quote_byte {x : Option UInt8} (h : isQuote x = true) : ∃ c, x = some c ∧ (c = 34 ∨ c = 39) := by
  cases x with
  | none => cases h
  | some c =>
    refine ⟨c, rfl, ?_⟩
    unfold isQuote at h
    rw [Bool.or_eq_true, beq_iff_eq, beq_iff_eq] at h
    rcases h with h | h
    · left; apply UInt8.toNat_inj.1; show c.toNat = 34; omega
    · right; apply UInt8.toNat_inj.1; show c.toNat = 39; omega
theorem not_quote {l : List UInt8} {k : Nat} (h : isQuote (l[k]?) = false) : Lib.hasPrefix (l.drop k) [34] = false ∧ Lib.hasPrefix (l.drop k) [39] = false := by
  rw [hasPrefix_one, hasPrefix_one]
  cases hx : l[k]? with
  | none => exact ⟨rfl, rfl⟩
  | some c =>
    rw [hx] at h
    unfold isQuote at h
    rw [Bool.or_eq_false_iff] at h
    have e1 := u8_beq c 34 (by decide)
    have e2 := u8_beq c 39 (by decide)
    exact ⟨by rw [Bool.eq_false_iff]; intro h2; rw [beq_iff_eq] at h2; cases h2; exact absurd h.1 (by decide), by rw [Bool.eq_false_iff]; intro h2; rw [beq_iff_eq] at h2; cases h2; exact absurd h.2 (by decide)⟩
theorem bad_no {v : List UInt8} {m : Nat} (h : ∀ (j : Nat) b, j < m → v[j]? = some b → ([34, 39, 60, 61, 96] : List UInt8).contains b = false) (hm : v.length ≤ m) : bad v = false := by
  unfold bad
  rw [List.any_eq_false]
  intro x hx
  obtain ⟨j, hj⟩ := List.getElem?_of_mem hx
  rw [h j x (by have := (List.getElem?_eq_some_iff.1 hj).1; omega) hj]; decide
theorem bad_yes {v : List UInt8} {m : Nat} {b : UInt8} (hb : v[m]? = some b) (h : ([34, 39, 60, 61, 96] : List UInt8).contains b = true) : bad v = true := by
  unfold bad; rw [List.any_eq_true]; exact ⟨b, List.mem_of_getElem? hb, h⟩
theorem five_ints (b : UInt8) : ([34, 39, 60, 61, 96] : List UInt8).contains b = (((b.toNat : Int) == 34) || ((b.toNat : Int) == 39) || ((b.toNat : Int) == 60) || ((b.toNat : Int) == 61) || ((b.toNat : Int) == 96)) := by
  revert b
  have h : ∀ n : Fin 256, ([34, 39, 60, 61, 96] : List UInt8).contains (UInt8.ofNat n) = ((((UInt8.ofNat n).toNat : Int) == 34) || (((UInt8.ofNat n).toNat : Int) == 39) || (((UInt8.ofNat n).toNat : Int) == 60) || (((UInt8.ofNat n).toNat : Int) == 61) || (((UInt8.ofNat n).toNat : Int) == 96)) := by decide +kernel
  intro b
  have h' := h ⟨b.toNat, b.toNat_lt⟩
  simpa only [UInt8.ofNat_toNat] using h'

set_option maxRecDepth 100000 in
set_option maxHeartbeats 8000000 in
theorem refAttr_any (s : ByteArray) (l : List UInt8) (hl : s.data.toList = l) (i : Nat) (hi : i ≤ s.size) (hs : s.size ≤ 1000000) (w : World) :
    Calls Tryz.prog 45 #[.string s, .int .i64 (i : Int)] w (RAttrPost l i w) := by
  have HL := Lib.hid hl
  have hsz : l.length = s.size := by rw [← hl, ← Lib.size_eq]
  have HSZ := Lib.hid hsz
  clear hl hsz
  go_enter Tryz.func45, Tryz.ntmps45
  go_wp2_with fail
  have b2 := bN w (.cells #[.string ⟨#[]⟩, .string ⟨#[]⟩] 35 (0, 0))
  have HB2 := Lib.hid ((Below.refl w.heap.size w).alloc (Nat.le_refl _) (.cells #[.string ⟨#[]⟩, .string ⟨#[]⟩] 35 (0, 0)))
  generalize w.alloc (.cells #[.string ⟨#[]⟩, .string ⟨#[]⟩] 35 (0, 0)) = W2 at *
  obtain ⟨A2, hA2⟩ : ∃ A2, w.heap.size = A2 := ⟨_, rfl⟩
  rw [hA2] at b2 ⊢
  have HA2 := Lib.hid hA2
  clear hA2
  refine (refWord_any s ⟨#[61, 47, 62]⟩ l HL.out i hi hs (by decide) _).mono ?_
  rintro e w1 ⟨k, rfl, hik, hks, hdk, rfl⟩
  have HDK : Hid (l.drop k = Tk.past (Tk.blanks ++ [61, 47, 62]) (l.drop i)) := hdk
  have HEX : Hid (s.extract i k = ⟨(Tk.attrName (l.drop i)).toArray⟩) := ext_upto HL.out hik (by have := HSZ.out; omega) hdk
  have hiki : (i : Int) ≤ (k : Int) := by omega
  have hksi : (k : Int) ≤ (s.size : Int) := by omega
  clear hdk
  have hnl := attrName_len (l.drop i)
  have hnl2 : (Tk.small (Tk.attrName (l.drop i))).length ≤ 1000000 := by rw [List.length_drop] at hnl; have := HSZ.out; omega
  have hnl3 : (Tk.attrName (l.drop i)).length ≤ 1000000 := by
    have : (Tk.small (Tk.attrName (l.drop i))).length = (Tk.attrName (l.drop i)).length := by simp [Tk.small]
    omega
  have hsm := fun W : World => refSmall_any ⟨(Tk.attrName (l.drop i)).toArray⟩ W (by show (Tk.attrName (l.drop i)).toArray.size ≤ _; simp; omega)
  have e0 : (⟨(Tk.attrName (l.drop i)).toArray⟩ : ByteArray).data.toList = Tk.attrName (l.drop i) := by simp
  rw [e0] at hsm
  rw [← HEX.out] at hsm
  clear hnl hnl3 e0
  obtain ⟨NM, hNM⟩ : ∃ NM, Tk.small (Tk.attrName (l.drop i)) = NM := ⟨_, rfl⟩
  have HNM := Lib.hid hNM
  rw [hNM] at hsm hnl2
  clear hNM
  go_wp2_with fail
  refine (hsm _).mono ?_
  rintro e w3 ⟨rfl, hb3⟩
  have HB3 := Lib.hid (HB2.out.trans (hb3.mono HB2.out.size))
  have b3 := bB b2 hb3
  have hlt3 : A2 < w3.heap.size := blk_lt b3
  clear hsm hb3 b2 HB2
  have HOF : Hid (∀ W : World, Calls Tryz.prog 43 #[.string ⟨NM.toArray⟩, .string ⟨#[45, 95]⟩] W fun e w' => e = .returned (.bool (Tk.made NM [45, 95])) ∧ W = w') := fun W => refOf_any ⟨NM.toArray⟩ ⟨#[45, 95]⟩ NM (by simp) (by show NM.toArray.size ≤ _; simp; omega) (by decide) W
  go_wp2_with fail
  have b4 := bN w3 (.cells #[.string ⟨NM.toArray⟩, .string ⟨#[]⟩] 35 (0, 0))
  have b2 := bA b3 (.cells #[.string ⟨NM.toArray⟩, .string ⟨#[]⟩] 35 (0, 0))
  have HB4 := Lib.hid (HB3.out.alloc HB3.out.size (.cells #[.string ⟨NM.toArray⟩, .string ⟨#[]⟩] 35 (0, 0)))
  clear b3 HB3
  generalize w3.alloc (.cells #[.string ⟨NM.toArray⟩, .string ⟨#[]⟩] 35 (0, 0)) = W4 at *
  generalize w3.heap.size = A4 at *
  have hne : A2 ≠ A4 := by omega
  have c40 : W4.cell? ⟨A4, 0, none⟩ = some (.string ⟨NM.toArray⟩) := blk_cell b4 0
  have c41 : W4.cell? ⟨A4, 1, none⟩ = some (.string ⟨#[]⟩) := blk_cell b4 1
  have f41 := blk_free b4 1
  have c20 : W4.cell? ⟨A2, 0, none⟩ = some (.string ⟨#[]⟩) := blk_cell b2 0
  have c21 : W4.cell? ⟨A2, 1, none⟩ = some (.string ⟨#[]⟩) := blk_cell b2 1
  have f20 := blk_free b2 0
  have f21 := blk_free b2 1
  refine (HOF.out _).mono ?_
  rintro e w' ⟨rfl, rfl⟩
  cases hm : Tk.made NM [45, 95] with
  | false =>
    have HF : Hid (Tk.attr decT (l.drop i) = .inl 41) := by show _ = _; unfold Tk.attr; rw [HNM.out, if_pos hm]
    clear hm
    go_wp2
    exact rattr_fin b2 (by rw [HA2.out]; exact Nat.le_refl _) HB4.out rfl rfl rfl rfl (by have := HSZ.out; omega) (.inl ⟨41, by decide, rfl, HF.out⟩)
  | true =>
    have HM := Lib.hid hm
    clear hm
    go_wp2_with fail
    refine (refSkip_any s l HL.out k hks hs _).mono ?_
    rintro e w5 ⟨k5, rfl, hk5, hks5, hd5, rfl⟩
    have HD5 : Hid (l.drop k5 = Tk.attrRest (l.drop i)) := by show _ = _; rw [hd5, HDK.out]; rfl
    clear hd5 HDK
    -- is there a value?
    have noVal : Lib.hasPrefix (l.drop k5) [61] = false → Tk.attr decT (l.drop i) = .inr (⟨NM, []⟩, l.drop k5) := by
      intro h
      unfold Tk.attr
      rw [HNM.out, if_neg (by rw [HM.out]; decide), ← HD5.out, if_neg (by rw [h]; decide)]
    have HNV := Lib.hid noVal
    have isVal : Lib.hasPrefix (l.drop k5) [61] = true → (∀ k, Tk.value (Tk.skip (l.drop (k5 + 1))) = .inl k → Tk.attr decT (l.drop i) = .inl k) ∧ (∀ v r, Tk.value (Tk.skip (l.drop (k5 + 1))) = .inr (v, r) → Tk.attr decT (l.drop i) = .inr (⟨NM, decT v true⟩, r)) := by
      intro h
      have h1 := attr_of_value decT (l := l.drop i) (by rw [HNM.out]; exact HM.out) (by rw [← HD5.out]; exact h)
      rw [← HD5.out, List.drop_drop, HNM.out] at h1
      exact h1
    have HIV := Lib.hid isVal
    clear noVal isVal HD5 HM
    by_cases hend : k5 = s.size
    · have hb : ((k5 : Int) == (s.size : Int)) = true := by rw [hend]; simp
      have HF := Lib.hid (HNV.out (by rw [List.drop_eq_nil_of_le (by have := HSZ.out; omega)]; rfl))
      clear hend
      go_wp2
      exact rattr_fin b2 (by rw [HA2.out]; exact Nat.le_refl _) HB4.out rfl rfl rfl rfl (by have := HSZ.out; omega) (.inr ⟨rfl, _, HF.out, rfl, rfl⟩)
    have hb : ((k5 : Int) == (s.size : Int)) = false := by rw [beq_eq_false_iff_ne]; omega
    have hlt : k5 < s.size := by omega
    have hlti : (k5 : Int) < (s.size : Int) := by omega
    clear hend
    obtain ⟨c, hc⟩ : ∃ c : UInt8, s[k5] = c := ⟨_, rfl⟩
    have HC : Hid (l[k5]? = some c) := by show _ = _; rw [← hc, ← HL.out]; exact Lib.data_getElem? s k5 hlt
    have h61 := u8_beq c 61 (by decide)
    cases hq : ((c.toNat : Int) == 61) with
    | false =>
      have hqn : ((c.toNat : Int) != 61) = true := by rw [bne, hq]; rfl
      have HF := Lib.hid (HNV.out (by rw [pre_byte HC.out]; exact h61.trans hq))
      clear h61
      go_wp2
      exact rattr_fin b2 (by rw [HA2.out]; exact Nat.le_refl _) HB4.out rfl rfl rfl rfl (by have := HSZ.out; omega) (.inr ⟨rfl, _, HF.out, rfl, rfl⟩)
    | true =>
      have hqn : ((c.toNat : Int) != 61) = false := by rw [bne, hq]; rfl
      have HV := Lib.hid (HIV.out (by rw [pre_byte HC.out]; exact h61.trans hq))
      clear h61 HIV HNV
      go_wp2_with fail
      refine (refSkip_any s l HL.out (k5 + 1) (by omega) hs _).mono ?_
      rintro e w6 ⟨k8, rfl, hk8, hks8, hd8, rfl⟩
      rw [← hd8] at HV
      clear hd8 hc HC hlt hlti hb hq hqn
      -- the quotes
      have quote : ∀ (q : UInt8), (Lib.hasPrefix (l.drop k8) [34] = true ∧ q = 34) ∨ (Lib.hasPrefix (l.drop k8) [34] = false ∧ Lib.hasPrefix (l.drop k8) [39] = true ∧ q = 39) → Tk.value (l.drop k8) = if Tk.past [q] (l.drop (k8 + 1)) = [] then .inl 41 else .inr (Tk.upto [q] (l.drop (k8 + 1)), (Tk.past [q] (l.drop (k8 + 1))).drop 1) := by
        intro q h
        have := value_q h
        rw [List.drop_drop] at this; exact this
      have HQV := Lib.hid quote
      clear quote
      obtain ⟨Q, hQ⟩ : ∃ Q, isQuote (l[k8]?) = Q := ⟨_, rfl⟩
      have HQ := Lib.hid hQ
      clear hQ
      go_upto_region 9 with (fail)
      go_cut [62] (fun b wx => wx = W4 ∧ b = .bool Q)
      case first =>
        by_cases hk : k8 < s.size
        · have hki : (k8 : Int) < (s.size : Int) := by omega
          obtain ⟨c, hc⟩ : ∃ c : UInt8, s[k8] = c := ⟨_, rfl⟩
          have h1 : l[k8]? = some c := by rw [← hc, ← HL.out]; exact Lib.data_getElem? s k8 hk
          have hq : ((c.toNat : Int) == 34 || (c.toNat : Int) == 39) = Q := by rw [← HQ.out, h1]; rfl
          clear h1
          cases h34 : ((c.toNat : Int) == 34) with
          | true =>
            rw [h34] at hq
            obtain rfl : true = Q := hq
            go_wp2_with fail
            go_meet
            exact ⟨rfl, rfl⟩
          | false =>
            rw [h34, Bool.false_or] at hq
            subst hq
            go_wp2_with fail
            go_meet
            exact ⟨rfl, rfl⟩
        · have hki : ¬ (k8 : Int) < (s.size : Int) := by omega
          have hq : Q = false := by rw [← HQ.out, List.getElem?_eq_none (by have := HSZ.out; omega)]; rfl
          subst hq
          go_wp2_with fail
          go_meet
          exact ⟨rfl, rfl⟩
      obtain ⟨rfl, rfl⟩ := hcut
      have b4w := Lib.hid b4
      have b2w := Lib.hid b2
      cases Q
      rotate_left
      · -- a quoted value
        obtain ⟨c, h1, hcq⟩ := quote_byte HQ.out
        have hk : k8 < s.size := by have := (List.getElem?_eq_some_iff.1 h1).1; have := HSZ.out; omega
        have HVQ : Hid (Tk.value (l.drop k8) = if Tk.past [c] (l.drop (k8 + 1)) = [] then .inl 41 else .inr (Tk.upto [c] (l.drop (k8 + 1)), (Tk.past [c] (l.drop (k8 + 1))).drop 1)) := by
          refine HQV.out c ?_
          rcases hcq with rfl | rfl
          · exact .inl ⟨by rw [pre_byte h1]; rfl, rfl⟩
          · exact .inr ⟨by rw [pre_byte h1]; rfl, by rw [pre_byte h1]; rfl, rfl⟩
        have hone := one_byte s k8 c (by rw [HL.out]; exact h1)
        have hfind := fun W : World => refFind_any s (s.extract k8 (k8 + 1)) (k8 + 1) (by omega) hs (by omega) (by omega) W
        rw [HL.out, hone.1] at hfind
        have hk1 : (k8 : Int) + 1 ≤ (s.size : Int) := by omega
        have hk2 : ((k8 : Int) + 1).toNat = k8 + 1 := by omega
        have hk3 : (k8 : Int) ≤ (k8 : Int) + 1 := by omega
        have hk4 : (0 : Int) ≤ (k8 : Int) + 1 := by omega
        have hFP := findAt_past (l := l) (q := c) (i := k8 + 1) (by have := HSZ.out; omega)
        clear hone h1 hcq HQV
        rcases hFP with ⟨hf1, hf2⟩ | ⟨e, hf1, hf2, hf3, hf4⟩
        · rw [hf1] at hfind
          have HF := Lib.hid (HV.out.1 41 (by rw [HVQ.out, if_pos hf2]))
          clear hf1 hf2 HVQ HV
          go_wp2_with fail
          refine (hfind _).mono ?_
          rintro e w' ⟨rfl, rfl⟩
          clear hfind
          go_wp2
          exact rattr_fin b2w.out (by rw [HA2.out]; exact Nat.le_refl _) HB4.out rfl rfl rfl rfl (by have := HSZ.out; omega) (.inl ⟨41, by decide, rfl, HF.out⟩)
        · rw [hf1] at hfind
          have hne2 : Tk.past [c] (l.drop (k8 + 1)) ≠ [] := by
            rw [← hf4]; intro h; have := congrArg List.length h; rw [List.length_drop] at this; simp at this; omega
          have HF := Lib.hid (HV.out.2 _ _ (by rw [HVQ.out, if_neg hne2, ← hf4, List.drop_drop]))
          have HEX2 : Hid (s.extract (k8 + 1) e = ⟨(Tk.upto [c] (l.drop (k8 + 1))).toArray⟩) := ext_upto HL.out hf2 (by omega) hf4
          have hul : (Tk.upto [c] (l.drop (k8 + 1))).length ≤ 1000000 := by
            have := upto_len [c] (l.drop (k8 + 1)); rw [List.length_drop] at this; have := HSZ.out; omega
          have hdec := fun W : World => refDecode_any ⟨(Tk.upto [c] (l.drop (k8 + 1))).toArray⟩ (Tk.upto [c] (l.drop (k8 + 1))) (by simp) true W (by show (Tk.upto [c] (l.drop (k8 + 1))).toArray.size ≤ _; simp; omega)
          rw [← HEX2.out] at hdec
          have he1 : (e : Int) ≤ (s.size : Int) := by have := HSZ.out; omega
          have he2 : (k8 : Int) + 1 ≤ (e : Int) := by omega
          have hes : e + 1 ≤ l.length := by omega
          have hes2 : e ≤ 1000000 := by have := HSZ.out; omega
          obtain ⟨D, hD⟩ : ∃ D, decT (Tk.upto [c] (l.drop (k8 + 1))) true = D := ⟨_, rfl⟩
          have hD' : Tk.dec nmT otT (Tk.upto [c] (l.drop (k8 + 1))) true = D := hD
          rw [hD'] at hdec
          rw [hD] at HF
          clear hf1 hf2 hf3 hf4 hne2 HVQ HV hul hD hD'
          go_wp2_with fail
          refine (hfind _).mono ?_
          rintro e w' ⟨rfl, rfl⟩
          clear hfind
          go_wp2_with fail
          refine (hdec _).mono ?_
          rintro e w9 ⟨rfl, hb9⟩
          have HB9 := Lib.hid (HB4.out.trans (hb9.mono HB4.out.size))
          have b9 := bB b4w.out hb9
          have b29 := bB b2w.out hb9
          clear hb9 hdec b4w b2w c40 c41 c20 c21 f20 f21 f41
          have c40 : w9.cell? ⟨A4, 0, none⟩ = some (.string ⟨NM.toArray⟩) := blk_cell b9 0
          have c41 : w9.cell? ⟨A4, 1, none⟩ = some (.string ⟨#[]⟩) := blk_cell b9 1
          have f41 := blk_free b9 1
          have c20 : w9.cell? ⟨A2, 0, none⟩ = some (.string ⟨#[]⟩) := blk_cell b29 0
          have c21 : w9.cell? ⟨A2, 1, none⟩ = some (.string ⟨#[]⟩) := blk_cell b29 1
          have f20 := blk_free b29 0
          have f21 := blk_free b29 1
          have hA4 : w.heap.size ≤ A4 := by rw [HA2.out]; omega
          go_wp2
          exact rattr_fin (bS b29 A4 1 _ hne) (by rw [HA2.out]; exact Nat.le_refl _) (HB9.out.setCell (p := ⟨A4, 1, none⟩) hA4 _) rfl rfl rfl (by first | rfl | simp) hes (.inr ⟨rfl, _, HF.out, rfl, rfl⟩)
      · -- a bare value
        have HNQ : Hid (Tk.value (l.drop k8) = if Tk.upto (Tk.blanks ++ [62]) (l.drop k8) = [] ∨ bad (Tk.upto (Tk.blanks ++ [62]) (l.drop k8)) = true then .inl 41 else .inr (Tk.upto (Tk.blanks ++ [62]) (l.drop k8), Tk.past (Tk.blanks ++ [62]) (l.drop k8))) := by
          show Tk.value (l.drop k8) = _
          obtain ⟨n1, n2⟩ := not_quote HQ.out
          unfold Tk.value bad; rw [if_neg (by rw [n1]; decide), if_neg (by rw [n2]; decide)]
        clear HQV HQ
        go_wp2_with fail
        refine (refWord_any s ⟨#[62]⟩ l HL.out k8 hks8 hs (by decide) _).mono ?_
        rintro e w' ⟨e, rfl, hke, hes, hde, rfl⟩
        have hde' : l.drop e = Tk.past (Tk.blanks ++ [62]) (l.drop k8) := hde
        have HEX2 : Hid (s.extract k8 e = ⟨(Tk.upto (Tk.blanks ++ [62]) (l.drop k8)).toArray⟩) := ext_upto HL.out hke (by have := HSZ.out; omega) hde'
        rw [← hde'] at HNQ
        obtain ⟨V, hV⟩ : ∃ V, Tk.upto (Tk.blanks ++ [62]) (l.drop k8) = V := ⟨_, rfl⟩
        have hvl : V.length ≤ 1000000 := by
          rw [← hV]
          have := upto_len (Tk.blanks ++ [62]) (l.drop k8); rw [List.length_drop] at this; have := HSZ.out; omega
        rw [hV] at HNQ HEX2
        clear hde hde' hV
        obtain ⟨VS, hVS⟩ : ∃ VS, s.extract k8 e = VS := ⟨_, rfl⟩
        have HVS : Hid (VS.data.toList = V) := by show _ = _; rw [← hVS, HEX2.out]
        have HVL : Hid (V.length = VS.size) := by show _ = _; rw [← HVS.out, ← Lib.size_eq]
        have hke1 : (k8 : Int) ≤ (e : Int) := by omega
        have hke2 : (e : Int) ≤ (s.size : Int) := by omega
        by_cases hv0 : V = []
        · have HF := Lib.hid (HV.out.1 41 (by rw [HNQ.out, if_pos (.inl hv0)]))
          have hVe : VS.toList.isEmpty = true := by rw [Lib.toList_data, HVS.out, hv0]; rfl
          clear hv0 HNQ HV
          go_wp2
          exact rattr_fin b2w.out (by rw [HA2.out]; exact Nat.le_refl _) HB4.out rfl rfl rfl rfl (by have := HSZ.out; omega) (.inl ⟨41, by decide, rfl, HF.out⟩)
        have hVe : VS.toList.isEmpty = false := by rw [Lib.toList_data, HVS.out]; simpa using hv0
        have HV0 := Lib.hid hv0
        clear hv0
        have hvs : VS.size ≤ 1000000 := by have := HVL.out; omega
        go_wp2_with fail
        go_loopg [12] VS.size (fun g v wr => ∃ m : Nat, v = .int .i64 (m : Int) ∧ m + g = VS.size ∧ wr = wc ∧ Hid (∀ (j : Nat) b, j < m → V[j]? = some b → ([34, 39, 60, 61, 96] : List UInt8).contains b = false))
        case atStart => exact ⟨0, rfl, by omega, rfl, fun j b hj _ => by omega⟩
        case round =>
          obtain ⟨m, rfl, hmg, rfl, HN⟩ := hrel
          by_cases hmk : m < VS.size
          · obtain ⟨g, rfl⟩ : ∃ g, gk = g + 1 := ⟨gk - 1, by omega⟩
            have hmi : (m : Int) < (VS.size : Int) := by omega
            obtain ⟨b, hb⟩ : ∃ b : UInt8, VS[m] = b := ⟨_, rfl⟩
            have HBL : Hid (V[m]? = some b) := by show _ = _; rw [← hb, ← HVS.out]; exact Lib.data_getElem? VS m hmk
            have HFI := Lib.hid (five_ints b)
            have bads : ([34, 39, 60, 61, 96] : List UInt8).contains b = true → Tk.attr decT (l.drop i) = .inl 41 := fun h => HV.out.1 41 (by rw [HNQ.out, if_pos (.inr (bad_yes HBL.out h))])
            have HBA := Lib.hid bads
            clear bads
            cases h1 : ((b.toNat : Int) == 34) with
            | true =>
              have HF := Lib.hid (HBA.out (by rw [HFI.out, h1]; rfl))
              clear HN HFI HBA HNQ HV
              go_wp2
              exact rattr_fin b2w.out (by rw [HA2.out]; exact Nat.le_refl _) HB4.out rfl rfl rfl rfl (by have := HSZ.out; omega) (.inl ⟨41, by decide, rfl, HF.out⟩)
            | false =>
            cases h2 : ((b.toNat : Int) == 39) with
            | true =>
              have HF := Lib.hid (HBA.out (by rw [HFI.out, h1, h2]; rfl))
              clear HN HFI HBA HNQ HV
              go_wp2
              exact rattr_fin b2w.out (by rw [HA2.out]; exact Nat.le_refl _) HB4.out rfl rfl rfl rfl (by have := HSZ.out; omega) (.inl ⟨41, by decide, rfl, HF.out⟩)
            | false =>
            cases h3 : ((b.toNat : Int) == 60) with
            | true =>
              have HF := Lib.hid (HBA.out (by rw [HFI.out, h1, h2, h3]; rfl))
              clear HN HFI HBA HNQ HV
              go_wp2
              exact rattr_fin b2w.out (by rw [HA2.out]; exact Nat.le_refl _) HB4.out rfl rfl rfl rfl (by have := HSZ.out; omega) (.inl ⟨41, by decide, rfl, HF.out⟩)
            | false =>
            cases h4 : ((b.toNat : Int) == 61) with
            | true =>
              have HF := Lib.hid (HBA.out (by rw [HFI.out, h1, h2, h3, h4]; rfl))
              clear HN HFI HBA HNQ HV
              go_wp2
              exact rattr_fin b2w.out (by rw [HA2.out]; exact Nat.le_refl _) HB4.out rfl rfl rfl rfl (by have := HSZ.out; omega) (.inl ⟨41, by decide, rfl, HF.out⟩)
            | false =>
            cases h5 : ((b.toNat : Int) == 96) with
            | true =>
              have HF := Lib.hid (HBA.out (by rw [HFI.out, h1, h2, h3, h4, h5]; rfl))
              clear HN HFI HBA HNQ HV
              go_wp2
              exact rattr_fin b2w.out (by rw [HA2.out]; exact Nat.le_refl _) HB4.out rfl rfl rfl rfl (by have := HSZ.out; omega) (.inl ⟨41, by decide, rfl, HF.out⟩)
            | false =>
              have HN2 : Hid (∀ (j : Nat) b, j < m + 1 → V[j]? = some b → ([34, 39, 60, 61, 96] : List UInt8).contains b = false) := by
                intro j x hj hx
                rcases Nat.lt_or_ge j m with h | h
                · exact HN.out j x h hx
                · obtain rfl : j = m := by omega
                  rw [HBL.out] at hx; cases hx
                  rw [HFI.out, h1, h2, h3, h4, h5]; rfl
              clear HN HFI HBA
              go_wp2_with fail
              go_roundg g
              case measure => omega
              case rel => exact ⟨m + 1, by simp, by omega, rfl, HN2⟩
          · have hmi : ¬ (m : Int) < (VS.size : Int) := by omega
            have hbad := bad_no HN.out (by have := HVL.out; omega)
            have HF := Lib.hid (HV.out.2 _ _ (by rw [HNQ.out, if_neg (by rintro (h | h); exact HV0.out h; rw [hbad] at h; cases h)]))
            have hdec := fun W : World => refDecode_any VS V HVS.out true W hvs
            obtain ⟨D, hD⟩ : ∃ D, decT V true = D := ⟨_, rfl⟩
            have hD' : Tk.dec nmT otT V true = D := hD
            rw [hD'] at hdec
            rw [hD] at HF
            clear hD hD' hbad HN HNQ HV
            go_wp2_with fail
            refine (hdec _).mono ?_
            rintro e w9 ⟨rfl, hb9⟩
            have HB9 := Lib.hid (HB4.out.trans (hb9.mono HB4.out.size))
            have b9 := bB b4w.out hb9
            have b29 := bB b2w.out hb9
            clear hb9 hdec b4w b2w c40 c41 c20 c21 f20 f21 f41
            have c40 : w9.cell? ⟨A4, 0, none⟩ = some (.string ⟨NM.toArray⟩) := blk_cell b9 0
            have c41 : w9.cell? ⟨A4, 1, none⟩ = some (.string ⟨#[]⟩) := blk_cell b9 1
            have f41 := blk_free b9 1
            have c20 : w9.cell? ⟨A2, 0, none⟩ = some (.string ⟨#[]⟩) := blk_cell b29 0
            have c21 : w9.cell? ⟨A2, 1, none⟩ = some (.string ⟨#[]⟩) := blk_cell b29 1
            have f20 := blk_free b29 0
            have f21 := blk_free b29 1
            have hA4 : w.heap.size ≤ A4 := by rw [HA2.out]; omega
            go_wp2
            exact rattr_fin (bS b29 A4 1 _ hne) (by rw [HA2.out]; exact Nat.le_refl _) (HB9.out.setCell (p := ⟨A4, 1, none⟩) hA4 _) rfl rfl rfl rfl (by have := HSZ.out; omega) (.inr ⟨rfl, _, HF.out, rfl, rfl⟩)
end Go.Proofs.YtaohdicilfabeaaGreatDoor

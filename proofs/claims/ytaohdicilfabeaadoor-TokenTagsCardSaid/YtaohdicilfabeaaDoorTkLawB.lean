/- TokenTags, walked: whatever the name, it answers true. -/
import Derived.Test.YtaohdicilfabeaaDoorTkLaw
import Derived.Test.YtaohdicilfabeaaDoorTkRefLeaf
namespace Go.Proofs.YtaohdicilfabeaaDoor
open Go.RowKit
set_option linter.unusedVariables false
set_option linter.unusedSimpArgs false

theorem tags_bytes (s : ByteArray) (l : List UInt8) (hl : s.data.toList = l) : ((((((⟨#[60]⟩ : ByteArray) ++ s) ++ ⟨#[62, 60, 47]⟩ ++ s) ++ ⟨#[62, 60]⟩) ++ s) ++ ⟨#[47, 62]⟩).data.toList = Tk.tagsOf l := by
  subst hl; unfold Tk.tagsOf; simp
/-- Letters and digits so far. -/
def Worded (l : List UInt8) (k : Nat) : Prop := ∀ (j : Nat) x, j < k → l[j]? = some x → Tk.letter x = true ∨ Tk.digit x = true
theorem worded_succ {l : List UInt8} {k : Nat} {b : UInt8} (h : Worded l k) (hb : l[k]? = some b) (hl : Tk.letter b = true ∨ Tk.digit b = true) : Worded l (k + 1) := by
  intro j x hj hx
  rcases Nat.lt_or_ge j k with h1 | h1
  · exact h j x h1 hx
  · obtain rfl : j = k := by omega
    rw [hb] at hx; cases hx; exact hl
theorem worded_word {l : List UInt8} {k : Nat} {b : UInt8} (h : Worded l k) (hk : l.length ≤ k) (hb : l[0]? = some b) (hl : Tk.letter b = true) : Tk.word l := by
  refine ⟨fun x hx => ?_, ?_⟩
  · obtain ⟨j, hj⟩ := List.getElem?_of_mem hx
    exact h j x (by have := (List.getElem?_eq_some_iff.1 hj).1; omega) hj
  · cases l with
    | nil => cases hb
    | cons c r => simp at hb; subst hb; exact ⟨c, r, rfl, hl⟩

set_option maxRecDepth 100000 in
set_option maxHeartbeats 2000000 in
theorem tokenTags_any (s : ByteArray) (w : World) (hgl : Gl nmT otT w) (hs : s.size ≤ 140737488351232) :
    Calls Tryd.prog 5 #[.string s] w (LawPost w) := by
  have HGL := Lib.hid hgl
  have h5 := hgl.lt
  obtain ⟨l, hl⟩ : ∃ l, s.data.toList = l := ⟨_, rfl⟩
  have HL := Lib.hid hl
  have HSZ : Hid (l.length = s.size) := by show _ = _; rw [← hl, ← Lib.size_eq]
  clear hgl hl
  by_cases hbig : 200 < s.size
  · have hb : 200 < (s.size : Int) := by omega
    clear hbig
    go_enter Tryd.func5, Tryd.ntmps5
    go_wp2_with fail
    refine (works_law w _ HGL.out (Below.refl _ _)).mono ?_
    rintro e w1 ⟨rfl, hw⟩
    have HW := Lib.hid hw
    clear hw
    go_wp2
    go_ret
    exact ⟨rfl, HW.out⟩
  have hb : ¬ 200 < (s.size : Int) := by omega
  by_cases he : l = []
  · have hse : s = ⟨#[]⟩ := by rw [← Lib.mk_data s, HL.out, he]
    subst hse
    clear he hbig
    go_enter Tryd.func5, Tryd.ntmps5
    go_wp2_with fail
    refine (works_law w _ HGL.out (Below.refl _ _)).mono ?_
    rintro e w1 ⟨rfl, hw⟩
    have HW := Lib.hid hw
    clear hw
    go_wp2
    go_ret
    exact ⟨rfl, HW.out⟩
  have hse : s.toList.isEmpty = false := by
    rw [Lib.toList_data, HL.out]; simpa using he
  have hpos : 0 < s.size := by have := List.length_pos_iff.2 he; have := HSZ.out; omega
  clear he
  have hpi : (0 : Int) < (s.size : Int) := by omega
  obtain ⟨b0, hb0⟩ : ∃ b : UInt8, s[0] = b := ⟨_, rfl⟩
  have HB0 : Hid (l[0]? = some b0) := by show _ = _; rw [← hb0, ← HL.out]; exact Lib.data_getElem? s 0 hpos
  obtain ⟨q, hq⟩ : ∃ q, Tk.letter b0 = q := ⟨_, rfl⟩
  have hlet := refLetter_any b0 w
  rw [hq] at hlet
  cases q
  · clear hq
    go_enter Tryd.func5, Tryd.ntmps5
    go_wp2_with fail
    refine hlet.mono ?_
    rintro e w1 ⟨rfl, rfl⟩
    clear hlet
    go_wp2_with fail
    refine (works_law w _ HGL.out (Below.refl _ _)).mono ?_
    rintro e w1 ⟨rfl, hw⟩
    have HW := Lib.hid hw
    clear hw
    go_wp2
    go_ret
    exact ⟨rfl, HW.out⟩
  have HQ := Lib.hid hq
  clear hq
  go_enter Tryd.func5, Tryd.ntmps5
  go_wp2_with fail
  refine hlet.mono ?_
  rintro e w1 ⟨rfl, rfl⟩
  clear hlet hb0
  go_wp2_with fail
  go_loopg [3] s.size (fun g i wr => ∃ k : Nat, i = .int .i64 (k : Int) ∧ k + g = s.size ∧ wr = w ∧ Hid (Worded l k))
  case atStart => exact ⟨0, rfl, by omega, rfl, fun j x hj _ => by omega⟩
  case round =>
    obtain ⟨k, rfl, hkg, rfl, HF⟩ := hrel
    by_cases hk : k < s.size
    · obtain ⟨g, rfl⟩ : ∃ g, gk = g + 1 := ⟨gk - 1, by omega⟩
      have hki : (k : Int) < (s.size : Int) := by omega
      obtain ⟨b, hbb⟩ : ∃ b : UInt8, s[k] = b := ⟨_, rfl⟩
      have HBL : Hid (l[k]? = some b) := by show _ = _; rw [← hbb, ← HL.out]; exact Lib.data_getElem? s k hk
      have hlet := refLetter_any b wr
      have hdig := refDigit_any b wr
      obtain ⟨q, hq⟩ : ∃ q, Tk.letter b = q := ⟨_, rfl⟩
      obtain ⟨r, hr⟩ : ∃ r, Tk.digit b = r := ⟨_, rfl⟩
      have HQR : Hid (Tk.letter b = q ∧ Tk.digit b = r) := ⟨hq, hr⟩
      rw [hq] at hlet
      rw [hr] at hdig
      clear hq hr
      cases q
      · cases r
        · go_wp2_with fail
          refine hlet.mono ?_
          rintro e w1 ⟨rfl, rfl⟩
          clear hlet
          go_wp2_with fail
          refine hdig.mono ?_
          rintro e w1 ⟨rfl, rfl⟩
          clear hdig
          go_wp2_with fail
          refine (works_law wr _ HGL.out (Below.refl _ _)).mono ?_
          rintro e w1 ⟨rfl, hw⟩
          have HW := Lib.hid hw
          clear hw
          go_wp2
          go_ret
          exact ⟨rfl, HW.out⟩
        · go_wp2_with fail
          refine hlet.mono ?_
          rintro e w1 ⟨rfl, rfl⟩
          clear hlet
          go_wp2_with fail
          refine hdig.mono ?_
          rintro e w1 ⟨rfl, rfl⟩
          clear hdig
          go_wp2_with fail
          go_roundg g
          case measure => omega
          case rel => exact ⟨k + 1, by simp, by omega, rfl, worded_succ HF.out HBL.out (.inr HQR.out.2)⟩
      · go_wp2_with fail
        refine hlet.mono ?_
        rintro e w1 ⟨rfl, rfl⟩
        clear hlet hdig
        go_wp2_with fail
        go_roundg g
        case measure => omega
        case rel => exact ⟨k + 1, by simp, by omega, rfl, worded_succ HF.out HBL.out (.inl HQR.out.1)⟩
    · have hki : ¬ (k : Int) < (s.size : Int) := by omega
      have hword := worded_word HF.out (by have := HSZ.out; omega) HB0.out HQ.out
      have HT := Lib.hid (Tk.tags_tokens decT hword (by have := HSZ.out; omega))
      clear hword HF
      go_wp2_with fail
      refine (refSmall_any s _ hs).mono ?_
      rintro e w1 ⟨rfl, hb1⟩
      rw [HL.out]
      generalize Tk.small l = m at *
      have HB1 := Lib.hid hb1
      clear hb1
      go_wp2_with fail
      refine (toks_any _ (Tk.tagsOf l) (tags_bytes s l HL.out) _ (HGL.out.below HB1.out h5)).mono ?_
      rintro e w2 ⟨hb2, v2, ts2, e2, p2, rfl, ht2, ho2⟩
      rw [HT.out] at ht2
      obtain ⟨rfl, rfl, rfl⟩ : ts2 = _ ∧ e2 = _ ∧ p2 = _ := by
        injection ht2 with a b; injection b with b c; exact ⟨a.symm, b.symm, c.symm⟩
      obtain ⟨a2, c2, rfl⟩ := ho2.shape
      obtain ⟨g1, av0, rfl, hg1, hA0, k00, k01, k02, k03, k04⟩ := ho2.at 0 _ rfl
      obtain ⟨g2, av1, hg2, _, hA1, k10, k11, k12, k13, k14⟩ := ho2.at 1 _ rfl
      obtain ⟨g3, av2, hg3, _, hA2, k20, k21, k22, k23, k24⟩ := ho2.at 2 _ rfl
      obtain rfl : g1 = g2 := by injection hg2 with h; injection h
      obtain rfl : g1 = g3 := by injection hg3 with h; injection h
      obtain ⟨x0, y0, rfl⟩ := own_shape hA0
      obtain ⟨x1, y1, rfl⟩ := own_shape hA1
      obtain ⟨x2, y2, rfl⟩ := own_shape hA2
      have HB := Lib.hid (HB1.out.trans (hb2.mono HB1.out.size))
      clear ht2 ho2 hb2 hA0 hA1 hA2 hg2 hg3 HT
      go_wp2_with fail
      go_loopg [8] 3 (fun g i wr' => wr' = w2 ∧ ((i = .int .i64 0 ∧ g = 3) ∨ (i = .int .i64 1 ∧ g = 2) ∨ (i = .int .i64 2 ∧ g = 1) ∨ (i = .int .i64 3 ∧ g = 0)))
      case atStart => exact ⟨rfl, .inl ⟨rfl, rfl⟩⟩
      case round =>
        obtain ⟨rfl, hi⟩ := hrel
        rcases hi with ⟨rfl, rfl⟩ | ⟨rfl, rfl⟩ | ⟨rfl, rfl⟩ | ⟨rfl, rfl⟩
        · go_wp2_with fail
          go_roundg 2
          case measure => omega
          case rel => exact ⟨rfl, .inr (.inl ⟨rfl, rfl⟩)⟩
        · go_wp2_with fail
          go_roundg 1
          case measure => omega
          case rel => exact ⟨rfl, .inr (.inr (.inl ⟨rfl, rfl⟩))⟩
        · go_wp2_with fail
          go_roundg 0
          case measure => omega
          case rel => exact ⟨rfl, .inr (.inr (.inr ⟨rfl, rfl⟩))⟩
        · go_wp2_with fail
          refine (works_law _ _ HGL.out HB.out).mono ?_
          rintro e w3 ⟨rfl, hw⟩
          have HW := Lib.hid hw
          clear hw
          go_wp2
          go_ret
          exact ⟨rfl, HW.out⟩
end Go.Proofs.YtaohdicilfabeaaDoor

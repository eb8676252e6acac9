/- TokenPlain, walked: whatever the text, it answers true. -/
import Derived.Test.YtaohdicilfabeaaDoorTkLaw
import Derived.Test.YtaohdicilfabeaaDoorTkHas
namespace Go.Proofs.YtaohdicilfabeaaDoor
open Go.RowKit

set_option maxRecDepth 100000 in
set_option maxHeartbeats 2000000 in
theorem tokenPlain_any (s : ByteArray) (w : World) (hgl : Gl nmT otT w) (hs : s.size ≤ 140737488351232) :
    Calls Tryd.prog 4 #[.string s] w (LawPost w) := by
  have HGL := Lib.hid hgl
  have h5 := hgl.lt
  obtain ⟨l, hl⟩ : ∃ l, s.data.toList = l := ⟨_, rfl⟩
  have HL := Lib.hid hl
  have HSZ : Hid (l.length = s.size) := by show _ = _; rw [← hl, ← Lib.size_eq]
  clear hgl hl
  by_cases hbig : 5000 < s.size
  · have hb : 5000 < (s.size : Int) := by omega
    clear hbig
    go_enter Tryd.func4, Tryd.ntmps4
    go_wp2_with fail
    refine (works_law w _ HGL.out (Below.refl _ _)).mono ?_
    rintro e w1 ⟨rfl, hw⟩
    have HW := Lib.hid hw
    clear hw
    go_wp2
    go_ret
    exact ⟨rfl, HW.out⟩
  · have hb : ¬ 5000 < (s.size : Int) := by omega
    have hhas := has_law s ⟨#[60, 38, 0]⟩ w hs (by decide)
    rw [HL.out] at hhas
    obtain ⟨q, hq⟩ : ∃ q, hasAny l (⟨#[60, 38, 0]⟩ : ByteArray).data.toList = q := ⟨_, rfl⟩
    rw [hq] at hhas
    cases q
    · have hfree := hasAny_not hq
      have hpl : Hid (Tk.tokens decT l = if l = [] then ([], 0, 0) else ([⟨3, [], [], false, l⟩], 0, 0)) := by
        show _ = _
        split
        · rename_i e; subst e; rfl
        · rename_i e
          exact Tk.plain_tokens (Tk.dec_free false fun x hx => hfree x hx 38 (by decide)) (by have := HSZ.out; omega) (fun x hx => ⟨hfree x hx 60 (by decide), hfree x hx 0 (by decide)⟩) e
      clear hfree hq hbig
      by_cases he : l = []
      · have HT := Lib.hid (hpl.out.trans (if_pos he))
        have hse : s = ⟨#[]⟩ := by rw [← Lib.mk_data s, HL.out, he]
        subst hse
        subst he
        clear hpl
        go_enter Tryd.func4, Tryd.ntmps4
        go_wp2_with fail
        refine hhas.mono ?_
        rintro e w1 ⟨rfl, n, rfl⟩
        clear hhas
        go_wp2_with fail
        refine (toks_any _ [] rfl _ (HGL.out.drews n)).mono ?_
        rintro e w2 ⟨hb2, v2, ts2, e2, p2, rfl, ht2, ho2⟩
        rw [HT.out] at ht2
        obtain ⟨rfl, rfl, rfl⟩ : ts2 = _ ∧ e2 = _ ∧ p2 = _ := by
          injection ht2 with a b; injection b with b c; exact ⟨a.symm, b.symm, c.symm⟩
        obtain ⟨a2, c2, rfl⟩ := ho2.shape
        have HB := Lib.hid ((below_draws w w.heap.size n).trans hb2)
        clear ht2 ho2 hb2
        go_wp2_with fail
        refine (works_law w _ HGL.out HB.out).mono ?_
        rintro e w3 ⟨rfl, hw⟩
        have HW := Lib.hid hw
        clear hw
        go_wp2
        go_ret
        exact ⟨rfl, HW.out⟩
      · have HT := Lib.hid (hpl.out.trans (if_neg he))
        have hse : s.toList.isEmpty = false := by
          rw [Lib.toList_data, HL.out]; simpa using he
        clear hpl he
        go_enter Tryd.func4, Tryd.ntmps4
        go_wp2_with fail
        refine hhas.mono ?_
        rintro e w1 ⟨rfl, n, rfl⟩
        clear hhas
        go_wp2_with fail
        refine (toks_any _ l HL.out _ (HGL.out.drews n)).mono ?_
        rintro e w2 ⟨hb2, v2, ts2, e2, p2, rfl, ht2, ho2⟩
        rw [HT.out] at ht2
        obtain ⟨rfl, rfl, rfl⟩ : ts2 = _ ∧ e2 = _ ∧ p2 = _ := by
          injection ht2 with a b; injection b with b c; exact ⟨a.symm, b.symm, c.symm⟩
        obtain ⟨a2, c2, rfl⟩ := ho2.shape
        obtain ⟨g1, av0, rfl, hg1, _, k00, k01, k02, k03, k04⟩ := ho2.at 0 _ rfl
        have HB := Lib.hid ((below_draws w w.heap.size n).trans hb2)
        have hss : (⟨l.toArray⟩ : ByteArray) = s := by rw [← HL.out, Lib.mk_data]
        simp only [hss] at k04
        clear ht2 ho2 hb2 hss
        go_wp2_with fail
        refine (works_law w _ HGL.out HB.out).mono ?_
        rintro e w3 ⟨rfl, hw⟩
        have HW := Lib.hid hw
        clear hw
        go_wp2
        go_ret
        exact ⟨rfl, HW.out⟩
    · clear hq hbig
      go_enter Tryd.func4, Tryd.ntmps4
      go_wp2_with fail
      refine hhas.mono ?_
      rintro e w1 ⟨rfl, n, rfl⟩
      clear hhas
      go_wp2_with fail
      refine (works_law w _ HGL.out (below_draws _ _ n)).mono ?_
      rintro e w1 ⟨rfl, hw⟩
      have HW := Lib.hid hw
      clear hw
      go_wp2
      go_ret
      exact ⟨rfl, HW.out⟩
end Go.Proofs.YtaohdicilfabeaaDoor

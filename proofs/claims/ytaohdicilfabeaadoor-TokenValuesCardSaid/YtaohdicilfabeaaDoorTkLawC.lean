/- TokenValues, walked: whatever the value, it answers true. -/
import Derived.Test.YtaohdicilfabeaaDoorTkLaw
import Derived.Test.YtaohdicilfabeaaDoorTkHas
namespace Go.Proofs.YtaohdicilfabeaaDoor
open Go.RowKit

theorem values_bytes (s : ByteArray) (l : List UInt8) (hl : s.data.toList = l) : ((((⟨#[60, 112, 32, 97, 61, 34]⟩ : ByteArray) ++ s) ++ ⟨#[34, 32, 98, 32, 61, 32, 39]⟩ ++ s) ++ ⟨#[39, 62]⟩).data.toList = Tk.valuesOf l := by
  subst hl; unfold Tk.valuesOf; simp

set_option maxRecDepth 100000 in
set_option maxHeartbeats 2000000 in
theorem tokenValues_any (s : ByteArray) (w : World) (hgl : Gl nmT otT w) (hs : s.size ≤ 140737488351232) :
    Calls Tryd.prog 6 #[.string s] w (LawPost w) := by
  have HGL := Lib.hid hgl
  have h5 := hgl.lt
  obtain ⟨l, hl⟩ : ∃ l, s.data.toList = l := ⟨_, rfl⟩
  have HL := Lib.hid hl
  have HSZ : Hid (l.length = s.size) := by show _ = _; rw [← hl, ← Lib.size_eq]
  clear hgl hl
  by_cases hbig : 2000 < s.size
  · have hb : 2000 < (s.size : Int) := by omega
    clear hbig
    go_enter Tryd.func6, Tryd.ntmps6
    go_wp2_with fail
    refine (works_law w _ HGL.out (Below.refl _ _)).mono ?_
    rintro e w1 ⟨rfl, hw⟩
    have HW := Lib.hid hw
    clear hw
    go_wp2
    go_ret
    exact ⟨rfl, HW.out⟩
  · have hb : ¬ 2000 < (s.size : Int) := by omega
    have hhas := has_law s ⟨#[34, 39, 38, 0]⟩ w hs (by decide)
    rw [HL.out] at hhas
    obtain ⟨q, hq⟩ : ∃ q, hasAny l (⟨#[34, 39, 38, 0]⟩ : ByteArray).data.toList = q := ⟨_, rfl⟩
    rw [hq] at hhas
    cases q
    · have hfree := hasAny_not hq
      have HT : Hid (Tk.tokens decT (Tk.valuesOf l) = ([⟨1, [112], [⟨[97], l⟩, ⟨[98], l⟩], false, []⟩], 0, 0)) :=
        Tk.values_tokens (Tk.dec_free true fun x hx => hfree x hx 38 (by decide)) (by have := HSZ.out; omega) (fun x hx => ⟨hfree x hx 34 (by decide), hfree x hx 39 (by decide), hfree x hx 0 (by decide)⟩)
      clear hfree hq
      go_enter Tryd.func6, Tryd.ntmps6
      go_wp2_with fail
      refine hhas.mono ?_
      rintro e w1 ⟨rfl, n, rfl⟩
      clear hhas
      go_wp2_with fail
      refine (toks_any _ (Tk.valuesOf l) (values_bytes s l HL.out) _ (HGL.out.drews n)).mono ?_
      rintro e w2 ⟨hb2, v2, ts2, e2, p2, rfl, ht2, ho2⟩
      rw [HT.out] at ht2
      obtain ⟨rfl, rfl, rfl⟩ : ts2 = _ ∧ e2 = _ ∧ p2 = _ := by
        injection ht2 with a b; injection b with b c; exact ⟨a.symm, b.symm, c.symm⟩
      obtain ⟨a2, c2, rfl⟩ := ho2.shape
      obtain ⟨g1, av0, rfl, hg1, hA, k00, k01, k02, k03, k04⟩ := ho2.at 0 _ rfl
      obtain ⟨aa, ca, rfl⟩ := own_shape hA
      obtain ⟨ga, rfl, d0, d1⟩ := attr_at hA 0 (by simp)
      obtain ⟨gb, hgb, d2, d3⟩ := attr_at hA 1 (by simp)
      obtain rfl : ga = gb := by injection hgb with h; injection h
      have HB := Lib.hid ((below_draws w w.heap.size n).trans hb2)
      have hss : (⟨l.toArray⟩ : ByteArray) = s := by rw [← HL.out, Lib.mk_data]
      simp only [List.getElem_cons_zero, List.getElem_cons_succ, hss] at d0 d1 d2 d3
      clear ht2 ho2 hb2 hss hA hgb
      go_wp2_with fail
      refine (works_law w _ HGL.out HB.out).mono ?_
      rintro e w3 ⟨rfl, hw⟩
      have HW := Lib.hid hw
      clear hw
      go_wp2
      go_ret
      exact ⟨rfl, HW.out⟩
    · clear hq hbig
      go_enter Tryd.func6, Tryd.ntmps6
      go_wp2_with fail
      refine hhas.mono ?_
      rintro e w1 ⟨rfl, n, rfl⟩
      clear hhas
      go_wp2_with fail
      refine (works_law w _ HGL.out (below_draws _ _ n)).mono ?_
      rintro e w1 ⟨rfl, hw⟩
      have HW := Lib.hid hw
      clear hw
      go_wp2
      go_ret
      exact ⟨rfl, HW.out⟩
end Go.Proofs.YtaohdicilfabeaaDoor

/- The chapter's second example (works), walked. -/
import Derived.Test.YtaohdicilfabeaaGreatDoorTkLaid
import Derived.Test.YtaohdicilfabeaaGreatDoorTkSee
import Derived.Test.YtaohdicilfabeaaGreatDoorTkIndexAny
namespace Go.Proofs.YtaohdicilfabeaaGreatDoor
open Go.RowKit

def decT : List UInt8 → Bool → List UInt8 := Tk.dec nmT otT
/-- Tokens at the program's own tables. -/
theorem toks_any (s : ByteArray) (l : List UInt8) (hl : s.data.toList = l) (w : World) (hgl : Gl nmT otT w) : Calls Tryz.prog 6 #[.string s] w (TokensPost decT l w) :=
  tokens_any (decode_said nm_len ot_len nm_range ot_range) indexAny_said s l hl w hgl
def worksA : List UInt8 := [60, 98, 114, 47, 62, 60, 33, 45, 45, 32, 120, 32, 45, 45, 62, 97]
theorem works_one : Tk.tokens decT worksA = ([⟨1, [98, 114], [], true, []⟩, ⟨4, [], [], false, [32, 120, 32]⟩, ⟨3, [], [], false, [97]⟩], 0, 0) := by decide +kernel
theorem works_two : Tk.tokens decT (worksA ++ [60, 98]) = ([], 40, 16) := by decide +kernel

set_option maxRecDepth 100000 in
set_option maxHeartbeats 2000000 in
theorem works_any (w : World) (hgl : Gl nmT otT w) :
    Calls Tryz.prog 5 #[] w fun e w' => e = .returned (.bool true) ∧ Below w.heap.size w w' := by
  have HGL := Lib.hid hgl
  have h5 := hgl.lt
  clear hgl
  go_enter Tryz.func5, Tryz.ntmps5
  go_wp2_with fail
  refine (toks_any _ worksA rfl _ HGL.out).mono ?_
  rintro e w1 ⟨hb1, v1, ts1, e1, p1, rfl, ht1, ho1⟩
  rw [works_one] at ht1
  obtain ⟨rfl, rfl, rfl⟩ : ts1 = _ ∧ e1 = _ ∧ p1 = _ := by
    injection ht1 with a b; injection b with b c; exact ⟨a.symm, b.symm, c.symm⟩
  obtain ⟨a1, c1, rfl⟩ := ho1.shape
  obtain ⟨g1, av0, rfl, hg1, _, k00, k01, k02, k03, k04⟩ := ho1.at 0 _ rfl
  obtain ⟨g2, av1, hg2, _, _, k10, k11, k12, k13, k14⟩ := ho1.at 1 _ rfl
  obtain ⟨g3, av2, hg3, _, _, k20, k21, k22, k23, k24⟩ := ho1.at 2 _ rfl
  obtain rfl : g1 = g2 := by injection hg2 with h; injection h
  obtain rfl : g1 = g3 := by injection hg3 with h; injection h
  have hlt := hg1.2
  clear ht1 hg2 hg3
  go_wp2_with fail
  refine (toks_any _ (worksA ++ [60, 98]) rfl _ (HGL.out.below hb1 h5)).mono ?_
  rintro e w2 ⟨hb2, v2, ts2, e2, p2, rfl, ht2, ho2⟩
  rw [works_two] at ht2
  obtain ⟨rfl, rfl, rfl⟩ : ts2 = _ ∧ e2 = _ ∧ p2 = _ := by
    injection ht2 with a b; injection b with b c; exact ⟨a.symm, b.symm, c.symm⟩
  have keep : ∀ {k : Nat} {v : Value}, w1.cell? ⟨g1, k, none⟩ = some v → w2.cell? ⟨g1, k, none⟩ = some v := fun h => (World.cell?_of_block (hb2.block g1 hlt)).trans h
  have m03 := keep k03
  have m01 := keep k01
  have m14 := keep k14
  have m24 := keep k24
  have HB := Lib.hid (hb1.trans (hb2.mono hb1.size))
  clear ht2 ho1 ho2 k00 k01 k02 k03 k04 k10 k11 k12 k13 k14 k20 k21 k22 k23 k24 hb1 hb2
  go_wp2_with fail
  go_ret
  exact ⟨rfl, HB.out⟩
end Go.Proofs.YtaohdicilfabeaaGreatDoor

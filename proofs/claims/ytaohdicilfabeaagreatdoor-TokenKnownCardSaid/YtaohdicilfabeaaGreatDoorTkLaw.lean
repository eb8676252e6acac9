/- What the laws' walks share. -/
import Derived.Test.YtaohdicilfabeaaGreatDoorTkWorks
import Derived.Test.YtaohdicilfabeaaGreatDoorTkLaws
namespace Go.Proofs.YtaohdicilfabeaaGreatDoor
open Go.RowKit

theorem Gl.drews {nm : List (List UInt8 × Int × Bool)} {ot : List Int} {w : World} (h : Gl nm ot w) (n : Nat) : Gl nm ot (w.drewN n) := ⟨h.lt, h.maxLen, h.name, h.other⟩
theorem below_draws (w : World) (B n : Nat) : Below B w (w.drewN n) := ⟨rfl, rfl, rfl, Nat.le_refl _, fun _ _ => rfl⟩
/-- What a law says of a call: true, and nothing below has been written. -/
def LawPost (w : World) (e : Ending) (w' : World) : Prop := e = .returned (.bool true) ∧ Below w.heap.size w w'
theorem works_law (w w1 : World) (hgl : Gl nmT otT w) (hb : Below w.heap.size w w1) : Calls Tryz.prog 5 #[] w1 fun e w' => e = .returned (.bool true) ∧ Below w.heap.size w w' :=
  (works_any w1 (hgl.below hb hgl.lt)).mono fun _ _ ⟨he, hw⟩ => ⟨he, hb.trans (hw.mono hb.size)⟩

end Go.Proofs.YtaohdicilfabeaaGreatDoor

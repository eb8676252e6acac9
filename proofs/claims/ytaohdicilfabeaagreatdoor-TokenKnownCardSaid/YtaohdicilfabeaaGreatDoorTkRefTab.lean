/- The answer's tables (selvedgeref03: Names, replaced), walked. -/
import Derived.Test.YtaohdicilfabeaaGreatDoorTkLeaf
import Derived.Test.YtaohdicilfabeaaGreatDoorTkLaid
namespace Go.Proofs.YtaohdicilfabeaaGreatDoor
open Go.RowKit
set_option linter.unusedVariables false
set_option linter.unusedSimpArgs false

/-- The order of the answer's names. -/
def namesOrder : List Nat := [6, 30, 18, 42, 0, 3, 2, 4, 1, 5, 34, 9, 41, 56, 51, 10, 23, 37, 52, 47, 12, 40, 39, 32, 44, 54, 13, 7, 15, 14, 53, 58, 57, 27, 48, 35, 31, 29, 50, 25, 46, 8, 19, 28, 49, 16, 24, 55, 45, 11, 20, 38, 33, 21, 36, 26, 17, 22, 43]
def nm2T : List (List UInt8 × Int × Bool) := namesOrder.map fun i => nmT.getD i ([], 0, false)
/-- The characters of numbers that are others. -/
def repT : List (Int × Int) := (List.range 32).filterMap fun i => if otT.getD i 0 = 0 then none else some ((128 : Int) + (i : Int), otT.getD i 0)
def repCells : List Value := repT.flatMap fun x => [.int .i32 x.1, .int .i32 x.2]
set_option maxHeartbeats 8000000 in
set_option maxRecDepth 100000 in
theorem refReplaced_any (w : World) :
    Calls Tryz.prog 93 #[] w fun e w' => e = .returned (.slice (some ⟨w.heap.size, 0, none⟩) 27 27) ∧ w' = w.alloc (.cells repCells.toArray 111 (0, 0)) := by
  go_enter Tryz.func93, Tryz.ntmps93
  go_wp2
  go_ret
  exact ⟨rfl, congrArg (fun c => w.alloc (.cells c 111 (0, 0))) (by kernel_rfl)⟩
def nm2Cells : List Value := nm2T.flatMap fun x => [.string ⟨x.1.toArray⟩, .int .i32 x.2.1, .bool x.2.2]
theorem wp_of_run {P : Program} {o : Oper} {a : Act} {w w' : World} {K : Act → World → Prop} {Q : Exit → Act → World → Prop} {v : Value} (h : (execOp a.eval o).run P w = .ok (.value v) w') (hk : K (a.put o.dst v) w') : Oper.wp P o a w K Q := by
  unfold Oper.wp; rw [h]; exact hk
set_option maxHeartbeats 8000000 in
set_option maxRecDepth 100000 in
theorem refNames_any (w : World) :
    Calls Tryz.prog 73 #[] w fun e w' => e = .returned (.slice (some ⟨w.heap.size, 0, none⟩) 59 59) ∧ w' = w.alloc (.cells nm2Cells.toArray 92 (0, 0)) := by
  go_enter Tryz.func73, Tryz.ntmps73
  go_wp2
  refine wp_of_run (v := .slice (some ⟨w.heap.size, 0, none⟩) 59 59) (w' := w.alloc (.cells nm2Cells.toArray 92 (0, 0))) (by kernel_rfl) ?_
  go_wp2
  go_ret
  exact ⟨rfl, rfl⟩
end Go.Proofs.YtaohdicilfabeaaGreatDoor

/- The package's tables, out of what the row says of them. -/
import Derived.Test.YtaohdicilfabeaaGreatDoorRows
import Derived.Test.YtaohdicilfabeaaGreatDoorTkDecode
import Derived.OpenShut
import Derived.FnData
import Derived.LaidMore
import Derived.Stop.Joined
import Derived.Shelf.Vars
import Derived.ProofKit
namespace Go.Proofs.YtaohdicilfabeaaGreatDoor
open Go.ChangeShapes Go.WideShapes Go.ChangeAt Go.WideMaps Go.WideElems Go.RowKit

/-- A row of the names' table. -/
def nameD {H : Type} (x : List UInt8 × Int × Bool) : DataW H := .agg [.lit (.string x.1), .lit (.int .i32 x.2.1), .lit (.bool x.2.2)]
def nameOf {H : Type} : DataW H → List UInt8 × Int × Bool
  | .agg [.lit (.string s), .lit (.int _ r), .lit (.bool b)] => (s, r, b)
  | _ => ([], 0, false)
def intOf {H : Type} : DataW H → Int
  | .lit (.int _ r) => r
  | _ => 0
def partsOf {H : Type} : DataW H → List (DataW H)
  | .agg l => l
  | _ => []
def nmT : List (List UInt8 × Int × Bool) := (partsOf (Rows.laid_selvedge_charref_names (H := Unit))).map nameOf
def otT : List Int := (partsOf (Rows.laid_selvedge_charref_others (H := Unit))).map intOf
theorem nm_len : nmT.length = 59 := by decide +kernel
theorem ot_len : otT.length = 32 := by decide +kernel
theorem nm_range : ∀ x ∈ nmT, 0 ≤ x.2.1 ∧ x.2.1 ≤ 1114111 := by decide +kernel
theorem ot_range : ∀ x ∈ otT, 0 ≤ x ∧ x ≤ 65535 := by decide +kernel
theorem nm_laid {H : Type} : (Rows.laid_selvedge_charref_names : DataW H) = .agg (nmT.map nameD) := by rfl
theorem ot_laid {H : Type} : (Rows.laid_selvedge_charref_others : DataW H) = .agg (otT.map fun x => .lit (.int .i32 x)) := by rfl

theorem take_one {cs : List Value} {k : Nat} {v : Value} (h : (cs.drop k).take 1 = [v]) : cs[k]? = some v := by
  have : ((cs.drop k).take 1)[0]? = some v := by rw [h]; rfl
  simpa using this
theorem fst_at {H : Type} {xs : List (DataW H × List MemPlace)} {ds : List (DataW H)} (hx : xs.map (·.1) = ds) {i : Nat} {d : DataW H} (hd : ds[i]? = some d) : ∃ p, xs[i]? = some (d, p) := by
  subst hx
  rw [List.getElem?_map, Option.map_eq_some_iff] at hd
  obtain ⟨⟨a, b⟩, h1, h2⟩ := hd
  exact ⟨b, by rw [h1]; simp only at h2; rw [h2]⟩
section
variable {H : Type} {enc : TypeId × Value → H} {w : World} {base : Nat} {spare : Nat → Bool} {held : Bool} {fuel : Nat} {cs : List Value} {ps : List MemPlace}
theorem others_read (h : DataW.trod enc Tryz.prog w base spare held fuel 117 cs = some ((Rows.laid_selvedge_charref_others : DataW H), ps)) (i : Nat) (x : Int) (hi : otT[i]? = some x) : cs[i]? = some (.int .i32 x) := by
  obtain ⟨xs, m, rfl, hx, hlen, hn, hel⟩ := DataW.trod_array Tryz.underlying117 h
  rw [ot_laid] at hx
  simp only [Prod.mk.injEq, DataW.agg.injEq] at hx
  obtain ⟨p, hp⟩ := fst_at (i := i) hx.1.symm (by rw [List.getElem?_map, hi]; rfl)
  have hi32 : i < 32 := by have := (List.getElem?_eq_some_iff.1 hi).1; rw [ot_len] at this; exact this
  have c1 : Tryz.prog.cellsOf 21 = 1 := by kernel_rfl
  have he := hel i hi32
  rw [c1, hp, Nat.mul_one] at he
  obtain ⟨k, e1, e2, _⟩ := DataW.trod_int Tryz.underlying21 he
  simp only [Prod.mk.injEq, DataW.lit.injEq, Lit.int.injEq] at e2
  rw [take_one e1, e2.1.2]
theorem names_read (h : DataW.trod enc Tryz.prog w base spare held fuel 100 cs = some ((Rows.laid_selvedge_charref_names : DataW H), ps)) (i : Nat) (x : List UInt8 × Int × Bool) (hi : nmT[i]? = some x) :
    cs[3 * i]? = some (.string ⟨x.1.toArray⟩) ∧ cs[3 * i + 1]? = some (.int .i32 x.2.1) ∧ cs[3 * i + 2]? = some (.bool x.2.2) := by
  obtain ⟨xs, m, rfl, hx, hlen, hn, hel⟩ := DataW.trod_array Tryz.underlying100 h
  rw [nm_laid] at hx
  simp only [Prod.mk.injEq, DataW.agg.injEq] at hx
  obtain ⟨p, hp⟩ := fst_at (i := i) hx.1.symm (by rw [List.getElem?_map, hi]; rfl)
  have hi59 : i < 59 := by have := (List.getElem?_eq_some_iff.1 hi).1; rw [nm_len] at this; exact this
  have c3 : Tryz.prog.cellsOf 99 = 3 := by kernel_rfl
  have he := hel i hi59
  rw [c3, hp] at he
  obtain ⟨ys, m2, rfl, hy, hlen2, hn2, hel2⟩ := DataW.trod_struct Tryz.underlying99 he
  unfold nameD at hy
  simp only [Prod.mk.injEq, DataW.agg.injEq] at hy
  obtain ⟨p0, h0⟩ := fst_at (i := 0) hy.1.symm rfl
  obtain ⟨p1, h1⟩ := fst_at (i := 1) hy.1.symm rfl
  obtain ⟨p2, h2⟩ := fst_at (i := 2) hy.1.symm rfl
  have e0 := hel2 0 _ rfl
  have e1 := hel2 1 _ rfl
  have e2 := hel2 2 _ rfl
  rw [h0] at e0
  rw [h1] at e1
  rw [h2] at e2
  obtain ⟨s0, a0, b0, _⟩ := DataW.trod_string Tryz.underlying9 e0
  obtain ⟨k1, a1, b1, _⟩ := DataW.trod_int Tryz.underlying21 e1
  obtain ⟨k2, a2, b2⟩ := DataW.trod_bool Tryz.underlying4 e2
  have c9 : Tryz.prog.cellsOf 9 = 1 := by kernel_rfl
  have c21 : Tryz.prog.cellsOf 21 = 1 := by kernel_rfl
  have c4 : Tryz.prog.cellsOf 4 = 1 := by kernel_rfl
  have a0' : (((cs.drop (i * 3)).take 3).drop 0).take (Tryz.prog.cellsOf 9) = [.string s0] := a0
  have a1' : (((cs.drop (i * 3)).take 3).drop 1).take (Tryz.prog.cellsOf 21) = [.int .i32 k1] := a1
  have a2' : (((cs.drop (i * 3)).take 3).drop 2).take (Tryz.prog.cellsOf 4) = [.bool k2] := a2
  rw [c9] at a0'
  rw [c21] at a1'
  rw [c4] at a2'
  have f : ∀ {k : Nat} {v : Value}, k < 3 → ((cs.drop (i * 3)).take 3)[k]? = some v → cs[3 * i + k]? = some v := by
    intro k v hk hv
    rw [List.getElem?_take_of_lt hk, List.getElem?_drop, Nat.mul_comm i 3] at hv
    exact hv
  simp only [Prod.mk.injEq, DataW.lit.injEq, Lit.string.injEq, Lit.int.injEq, Lit.bool.injEq] at b0 b1 b2
  have hs0 : s0 = ⟨x.1.toArray⟩ := by rw [b0.1]
  exact ⟨by rw [← hs0]; exact f (by omega) (take_one a0'), by rw [b1.1.2]; exact f (by omega) (take_one a1'), by rw [b2.1]; exact f (by omega) (take_one a2')⟩
end
def laidT : List (String × DataW Unit) := [("unicode/utf8.acceptRanges", Rows.laid_unicode_utf8_acceptRanges), ("selvedge/charref.names", Rows.laid_selvedge_charref_names), ("selvedge/charref.others", Rows.laid_selvedge_charref_others), ("unicode/utf8.first", Rows.laid_unicode_utf8_first)]
theorem gNames : Tryz.prog.globalNamed "selvedge/charref.names" = some 1 := by kernel_rfl
theorem gOthers : Tryz.prog.globalNamed "selvedge/charref.others" = some 2 := by kernel_rfl
theorem tNames : (Tryz.prog.globals[1]?).map (·.type) = some 100 := by kernel_rfl
theorem tOthers : (Tryz.prog.globals[2]?).map (·.type) = some 117 := by kernel_rfl
theorem gl_of {W : World} (h : laidMetH Tryz.prog laidT W) (hs : W.ShapedOpen Tryz.prog) (h5 : 5 ≤ W.heap.size) : Gl nmT otT W := by
  have hm : ∃ m, W.cell? ⟨0, 0, none⟩ = some (.int .i64 m) :=
    cell_of_shapedOpen_int (zero := #[.int .i64 0]) (t := 3) hs (of_decide_eq_true (by kernel_rfl)) (by kernel_rfl) rfl (by kernel_rfl) (by kernel_rfl) Tryz.underlying3
  unfold laidT at h
  rw [MakeChecks.laidMetH_plain _ _ _ (by kernel_rfl)] at h
  obtain ⟨ps, ⟨g0, t0, cs0, f0, p0, q0, hg0, ht0, hv0, hd0, ⟨g1, t1, cs1, f1, p1, q1, hg1, ht1, hv1, hd1, ⟨g2, t2, cs2, f2, p2, q2, hg2, ht2, hv2, hd2, _⟩, _⟩, _⟩, _⟩ := h
  obtain rfl := Option.some.inj (gNames.symm.trans hg1)
  obtain rfl := Option.some.inj (gOthers.symm.trans hg2)
  obtain rfl := Option.some.inj (tNames.symm.trans ht1)
  obtain rfl := Option.some.inj (tOthers.symm.trans ht2)
  have cell : ∀ {n : String} {g : Nat} {cs : Array Value} {k : Nat} {v : Value}, Tryz.prog.globalNamed n = some g → W.var? Tryz.prog n = some cs → cs.toList[k]? = some v → W.cell? ⟨g, k, none⟩ = some v := by
    intro n g cs k v hg hv hk
    rw [World.var?_cell hg hv k, ← hk, Array.getElem?_toList]
  refine ⟨h5, hm, fun i x hi => ?_, fun i x hi => ?_⟩
  · obtain ⟨a, b, c⟩ := names_read hd1 i x hi
    exact ⟨cell gNames hv1 a, cell gNames hv1 b, cell gNames hv1 c⟩
  · exact cell gOthers hv2 (others_read hd2 i x hi)
end Go.Proofs.YtaohdicilfabeaaGreatDoor

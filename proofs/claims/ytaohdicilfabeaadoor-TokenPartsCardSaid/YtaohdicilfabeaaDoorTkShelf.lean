/- Go's library functions that the token layer calls, by the library's contracts, at this translation's numbers. -/
import Derived.Test.YtaohdicilfabeaaDoorTkLays
import Derived.Test.YtaohdicilfabeaaDoorTkPlain
import Derived.WalkKit
import Derived.Deep.Draws
namespace Go.Proofs.YtaohdicilfabeaaDoor
open Go.RowKit Go.Shelf Go.Proofs

theorem back {P : Program} {f : Nat} {args : Array Value} {w : World} {r : Ending} (h : Calls P f args w fun e w' => e = r ∧ w' = w) : Calls P f args w fun e w' => e = r ∧ w = w' :=
  h.mono fun _ _ ⟨a, b⟩ => ⟨a, b.symm⟩

theorem indexByte_any (s : ByteArray) (c : Int) (w : World) :
    Calls Tryd.prog 15 #[.string s, .int .u8 c] w fun e w' => e = .returned (.int .i64 (Lib.indexByte s.data.toList c.toNat.toUInt8)) ∧ w = w' := back (Any.strings_IndexByte Tryd.lays137 s c w)
theorem hasPrefix_any (s p : ByteArray) (w : World) :
    Calls Tryd.prog 23 #[.string s, .string p] w fun e w' => e = .returned (.bool (Lib.hasPrefix s.data.toList p.data.toList)) ∧ w = w' := back (Any.strings_HasPrefix Tryd.lays99 s p w)
theorem hasSuffix_any (s p : ByteArray) (w : World) (hs : s.size ≤ 9223372036854775807) :
    Calls Tryd.prog 32 #[.string s, .string p] w fun e w' => e = .returned (.bool (Lib.hasSuffix s.data.toList p.data.toList)) ∧ w = w' := back (Any.strings_HasSuffix Tryd.lays100 s p w hs)
theorem index_any (s sub : ByteArray) (m : Int) (w : World) (hs : s.size < 4294967281) (hm : w.cell? ⟨0, 0, none⟩ = some (.int .i64 m)) :
    Calls Tryd.prog 31 #[.string s, .string sub] w fun e w' => e = .returned (.int .i64 (Lib.index s.data.toList sub.data.toList)) ∧ w = w' := back (Any.strings_Index Tryd.lays143 s sub m w hs hm)
theorem cut_any (s sep : ByteArray) (m : Int) (w : World) (hs : s.size < 4294967281) (hm : w.cell? ⟨0, 0, none⟩ = some (.int .i64 m)) :
    Calls Tryd.prog 30 #[.string s, .string sep] w fun e w' => e = .returned (.tuple #[.string ⟨(Lib.cut s.data.toList sep.data.toList).1.toArray⟩, .string ⟨(Lib.cut s.data.toList sep.data.toList).2.1.toArray⟩, .bool (Lib.cut s.data.toList sep.data.toList).2.2]) ∧ ∃ n, w' = w.drewN n := Any.strings_Cut Tryd.lays145 s sep m w hs hm
theorem trimLeft_any (s : ByteArray) (w : World) :
    Calls Tryd.prog 64 #[.string s, .string ⟨#[9, 10, 12, 32]⟩] w fun e w' => e = .returned (.string ⟨(Tk.skip s.data.toList).toArray⟩) ∧ Below w.heap.size w w' :=
  Any.strings_TrimLeft_laid Tryd.lays161 (by kernel_rfl) s ⟨#[9, 10, 12, 32]⟩ w (by decide) (ascii_of_all (by decide))
theorem trim_any (s : ByteArray) (w : World) (hs : s.size ≤ 9223372036854775807) :
    Calls Tryd.prog 35 #[.string s, .string ⟨#[9, 10, 12, 32]⟩] w fun e w' => e = .returned (.string ⟨(Lib.trimS s.data.toList Tk.blanks).toArray⟩) ∧ Below w.heap.size w w' :=
  Any.strings_Trim_laid Tryd.lays160 (by kernel_rfl) s ⟨#[9, 10, 12, 32]⟩ w hs (by decide) (ascii_of_all (by decide))
theorem indexAny_long (s : ByteArray) (w : World) (h8 : 8 < s.size) (hs : s.size < 4294967281) :
    Calls Tryd.prog 65 #[.string s, .string ⟨#[34, 39, 60, 61, 96]⟩] w fun e w' => e = .returned (.int .i64 (Lib.indexAny s.data.toList [34, 39, 60, 61, 96])) ∧ Below w.heap.size w w' :=
  (Any.strings_IndexAny_long Tryd.lays153 (fun w => by kernel_rfl) (by kernel_rfl) s ⟨#[34, 39, 60, 61, 96]⟩ w (by decide) h8 hs (by decide) (ascii_of_all (by decide))).mono fun e w' ⟨he, hw⟩ => ⟨he, by
    subst hw; exact ((Below.refl _ _).alloc (Nat.le_refl _) _).alloc (by simp) _⟩
theorem indexRune_ascii (s : ByteArray) (r : Int) (w : World) (h0 : 0 ≤ r) (h1 : r < 128) :
    Calls Tryd.prog 79 #[.string s, .int .i32 r] w fun e w' => e = .returned (.int .i64 (Lib.indexByte s.data.toList r.toNat.toUInt8)) ∧ w = w' := back (Any.strings_IndexRune_ascii Tryd.lays152 s r w h0 h1)
theorem compare_any (a b : ByteArray) (w : World) :
    Calls Tryd.prog 61 #[.string a, .string b] w fun e w' => e = .returned (.int .i64 (Lib.compareBytes a.data.toList b.data.toList)) ∧ w = w' := back (Any.strings_Compare Tryd.lays106 a b w)
theorem validRune_any (r : Int) (w : World) :
    Calls Tryd.prog 76 #[.int .i32 r] w fun e w' => e = .returned (.bool (Lib.validRune r)) ∧ w = w' := back (Any.utf8_ValidRune Tryd.lays119 r w)
theorem cutPrefix_any (s p : ByteArray) (w : World) :
    Calls Tryd.prog 75 #[.string s, .string p] w fun e w' => e = .returned (.tuple #[.string ⟨(Lib.trimPrefix s.data.toList p.data.toList).toArray⟩, .bool (Lib.hasPrefix s.data.toList p.data.toList)]) ∧ w = w' := back (Any.strings_CutPrefix Tryd.lays103 s p w)
theorem appendRune_any (B : Nat) (v : Value) (n : Nat) (xs : List Value) (r : Int) (hr0 : -2147483648 ≤ r) (hr1 : r ≤ 2147483647) (w : World) (hown : w.ownsRowF B 5 1 v n xs) (hlen : n + 4 ≤ 140737488355328) (hBw : B ≤ w.heap.size) :
    Calls Tryd.prog 62 #[v, .int .i32 r] w fun e w' => ∃ v', e = .returned v' ∧ w'.ownsRowF B 5 1 v' (n + (Lib.runeCells r).length) (xs ++ Lib.runeCells r) ∧ ∃ o, (w.alloc o).grownBy w' v.ownBlock :=
  Any.utf8_AppendRune_row Tryd.lays242 (by kernel_rfl) B v n xs r hr0 hr1 w hown hlen hBw
theorem builderString_any (B b : Nat) (l : List UInt8) (w : World) (h : Lib.IsBuilderF 54 5 B b (Lib.byteCells l) w) (hBw : B ≤ w.heap.size) :
    Calls Tryd.prog 37 #[.pointer (some ⟨b, 0, none⟩)] w fun e w' => e = .returned (.string ⟨l.toArray⟩) ∧ Below B w w' :=
  (Any.Builder_String_any_f Tryd.lays169 Tryd.Builder_Extra_169 B b l w h hBw).mono fun _ _ ⟨he, _, hb⟩ => ⟨he, hb⟩
end Go.Proofs.YtaohdicilfabeaaDoor

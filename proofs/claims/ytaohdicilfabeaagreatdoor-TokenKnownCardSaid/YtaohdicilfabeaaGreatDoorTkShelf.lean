/- Go's library functions that the token layer calls, by the library's contracts, at this translation's numbers. -/
import Derived.Test.YtaohdicilfabeaaGreatDoorTkLays
import Derived.Test.YtaohdicilfabeaaGreatDoorTkPlain
import Derived.WalkKit
import Derived.Deep.Draws
namespace Go.Proofs.YtaohdicilfabeaaGreatDoor
open Go.RowKit Go.Shelf Go.Proofs

theorem back {P : Program} {f : Nat} {args : Array Value} {w : World} {r : Ending} (h : Calls P f args w fun e w' => e = r ∧ w' = w) : Calls P f args w fun e w' => e = r ∧ w = w' :=
  h.mono fun _ _ ⟨a, b⟩ => ⟨a, b.symm⟩

theorem indexByte_any (s : ByteArray) (c : Int) (w : World) :
    Calls Tryz.prog 10 #[.string s, .int .u8 c] w fun e w' => e = .returned (.int .i64 (Lib.indexByte s.data.toList c.toNat.toUInt8)) ∧ w = w' := back (Any.strings_IndexByte Tryz.lays137 s c w)
theorem hasPrefix_any (s p : ByteArray) (w : World) :
    Calls Tryz.prog 21 #[.string s, .string p] w fun e w' => e = .returned (.bool (Lib.hasPrefix s.data.toList p.data.toList)) ∧ w = w' := back (Any.strings_HasPrefix Tryz.lays99 s p w)
theorem hasSuffix_any (s p : ByteArray) (w : World) (hs : s.size ≤ 9223372036854775807) :
    Calls Tryz.prog 38 #[.string s, .string p] w fun e w' => e = .returned (.bool (Lib.hasSuffix s.data.toList p.data.toList)) ∧ w = w' := back (Any.strings_HasSuffix Tryz.lays100 s p w hs)
theorem index_any (s sub : ByteArray) (m : Int) (w : World) (hs : s.size < 4294967281) (hm : w.cell? ⟨0, 0, none⟩ = some (.int .i64 m)) :
    Calls Tryz.prog 37 #[.string s, .string sub] w fun e w' => e = .returned (.int .i64 (Lib.index s.data.toList sub.data.toList)) ∧ w = w' := back (Any.strings_Index Tryz.lays143 s sub m w hs hm)
theorem cut_any (s sep : ByteArray) (m : Int) (w : World) (hs : s.size < 4294967281) (hm : w.cell? ⟨0, 0, none⟩ = some (.int .i64 m)) :
    Calls Tryz.prog 36 #[.string s, .string sep] w fun e w' => e = .returned (.tuple #[.string ⟨(Lib.cut s.data.toList sep.data.toList).1.toArray⟩, .string ⟨(Lib.cut s.data.toList sep.data.toList).2.1.toArray⟩, .bool (Lib.cut s.data.toList sep.data.toList).2.2]) ∧ ∃ n, w' = w.drewN n := Any.strings_Cut Tryz.lays145 s sep m w hs hm
theorem trimLeft_any (s : ByteArray) (w : World) :
    Calls Tryz.prog 83 #[.string s, .string ⟨#[9, 10, 12, 32]⟩] w fun e w' => e = .returned (.string ⟨(Tk.skip s.data.toList).toArray⟩) ∧ Below w.heap.size w w' :=
  Any.strings_TrimLeft_laid Tryz.lays161 (by kernel_rfl) s ⟨#[9, 10, 12, 32]⟩ w (by decide) (ascii_of_all (by decide))
theorem trim_any (s : ByteArray) (w : World) (hs : s.size ≤ 9223372036854775807) :
    Calls Tryz.prog 41 #[.string s, .string ⟨#[9, 10, 12, 32]⟩] w fun e w' => e = .returned (.string ⟨(Lib.trimS s.data.toList Tk.blanks).toArray⟩) ∧ Below w.heap.size w w' :=
  Any.strings_Trim_laid Tryz.lays160 (by kernel_rfl) s ⟨#[9, 10, 12, 32]⟩ w hs (by decide) (ascii_of_all (by decide))
theorem indexAny_long (s : ByteArray) (w : World) (h8 : 8 < s.size) (hs : s.size < 4294967281) :
    Calls Tryz.prog 84 #[.string s, .string ⟨#[34, 39, 60, 61, 96]⟩] w fun e w' => e = .returned (.int .i64 (Lib.indexAny s.data.toList [34, 39, 60, 61, 96])) ∧ Below w.heap.size w w' :=
  (Any.strings_IndexAny_long Tryz.lays153 (fun w => by kernel_rfl) (by kernel_rfl) s ⟨#[34, 39, 60, 61, 96]⟩ w (by decide) h8 hs (by decide) (ascii_of_all (by decide))).mono fun e w' ⟨he, hw⟩ => ⟨he, by
    subst hw; exact ((Below.refl _ _).alloc (Nat.le_refl _) _).alloc (by simp) _⟩
theorem indexRune_ascii (s : ByteArray) (r : Int) (w : World) (h0 : 0 ≤ r) (h1 : r < 128) :
    Calls Tryz.prog 100 #[.string s, .int .i32 r] w fun e w' => e = .returned (.int .i64 (Lib.indexByte s.data.toList r.toNat.toUInt8)) ∧ w = w' := back (Any.strings_IndexRune_ascii Tryz.lays152 s r w h0 h1)
theorem compare_any (a b : ByteArray) (w : World) :
    Calls Tryz.prog 80 #[.string a, .string b] w fun e w' => e = .returned (.int .i64 (Lib.compareBytes a.data.toList b.data.toList)) ∧ w = w' := back (Any.strings_Compare Tryz.lays106 a b w)
theorem validRune_any (r : Int) (w : World) :
    Calls Tryz.prog 97 #[.int .i32 r] w fun e w' => e = .returned (.bool (Lib.validRune r)) ∧ w = w' := back (Any.utf8_ValidRune Tryz.lays119 r w)
theorem cutPrefix_any (s p : ByteArray) (w : World) :
    Calls Tryz.prog 96 #[.string s, .string p] w fun e w' => e = .returned (.tuple #[.string ⟨(Lib.trimPrefix s.data.toList p.data.toList).toArray⟩, .bool (Lib.hasPrefix s.data.toList p.data.toList)]) ∧ w = w' := back (Any.strings_CutPrefix Tryz.lays103 s p w)
theorem appendRune_any (B : Nat) (v : Value) (n : Nat) (xs : List Value) (r : Int) (hr0 : -2147483648 ≤ r) (hr1 : r ≤ 2147483647) (w : World) (hown : w.ownsRowF B 5 1 v n xs) (hlen : n + 4 ≤ 140737488355328) (hBw : B ≤ w.heap.size) :
    Calls Tryz.prog 81 #[v, .int .i32 r] w fun e w' => ∃ v', e = .returned v' ∧ w'.ownsRowF B 5 1 v' (n + (Lib.runeCells r).length) (xs ++ Lib.runeCells r) ∧ ∃ o, (w.alloc o).grownBy w' v.ownBlock :=
  Any.utf8_AppendRune_row Tryz.lays242 (by kernel_rfl) B v n xs r hr0 hr1 w hown hlen hBw
theorem builderString_any (B b : Nat) (l : List UInt8) (w : World) (h : Lib.IsBuilderF 72 5 B b (Lib.byteCells l) w) (hBw : B ≤ w.heap.size) :
    Calls Tryz.prog 51 #[.pointer (some ⟨b, 0, none⟩)] w fun e w' => e = .returned (.string ⟨l.toArray⟩) ∧ Below B w w' :=
  (Any.Builder_String_any_f Tryz.lays169 Tryz.Builder_Extra_169 B b l w h hBw).mono fun _ _ ⟨he, _, hb⟩ => ⟨he, hb⟩
end Go.Proofs.YtaohdicilfabeaaGreatDoor

/- Plain words: what the token layer computes, as functions on lists of bytes. No program, no memory. -/
import Derived.Lib.Strings
import Derived.Lib.SlTrimSet
import Derived.Lib.Bytealg
import Derived.Lib.Index
import Derived.Lib.IndexMore
namespace Go.Proofs.YtaohdicilfabeaaGreatDoor.Tk
open Go

abbrev Bs := List UInt8
def blanks : Bs := [9, 10, 12, 32]
def letter (c : UInt8) : Bool := (65 ≤ c && c ≤ 90) || (97 ≤ c && c ≤ 122)
def digit (c : UInt8) : Bool := 48 ≤ c && c ≤ 57
def low (c : UInt8) : UInt8 := if 65 ≤ c && c ≤ 90 then c + 32 else c
def small (l : Bs) : Bs := l.map low
def fit (o : Bs) (c : UInt8) : Bool := letter c || digit c || o.contains c
def made (l o : Bs) : Bool := l.all (fit o) && !l.isEmpty
def upto (stops l : Bs) : Bs := l.takeWhile (fun c => !stops.contains c)
def past (stops l : Bs) : Bs := l.dropWhile (fun c => !stops.contains c)
def skip (l : Bs) : Bs := Lib.trimLeftS l blanks

structure At where
  name : Bs
  value : Bs
  deriving DecidableEq
structure Tok where
  kind : Nat
  name : Bs
  attrs : List At
  self : Bool
  data : Bs
  deriving DecidableEq

section
variable (dec : Bs → Bool → Bs)

/-- A value's bytes, behind '=' and blanks, and what is left; or the error. -/
def value (l : Bs) : Sum Nat (Bs × Bs) :=
  if Lib.hasPrefix l [34] then (if past [34] (l.drop 1) = [] then .inl 41 else .inr (upto [34] (l.drop 1), (past [34] (l.drop 1)).drop 1))
  else if Lib.hasPrefix l [39] then (if past [39] (l.drop 1) = [] then .inl 41 else .inr (upto [39] (l.drop 1), (past [39] (l.drop 1)).drop 1))
  else if upto (blanks ++ [62]) l = [] ∨ (upto (blanks ++ [62]) l).any ([34, 39, 60, 61, 96].contains ·) = true then .inl 41
  else .inr (upto (blanks ++ [62]) l, past (blanks ++ [62]) l)

def attrName : Bs → Bs := upto (blanks ++ [61, 47, 62])
/-- What is left behind an attribute's name and blanks. -/
def attrRest (l : Bs) : Bs := skip (past (blanks ++ [61, 47, 62]) l)
def attr (l : Bs) : Sum Nat (At × Bs) :=
  if made (small (attrName l)) [45, 95] = false then .inl 41
  else if Lib.hasPrefix (attrRest l) [61] then
    match value (skip ((attrRest l).drop 1)) with
    | .inl e => .inl e
    | .inr (v, r) => .inr (⟨small (attrName l), dec v true⟩, r)
  else .inr (⟨small (attrName l), []⟩, attrRest l)

/-- A tag's end: what is wrong with an end tag. -/
def finish (kind : Nat) (name : Bs) (self : Bool) (acc : List At) (r : Bs) : Sum Nat (Tok × Bs) :=
  if kind = 2 ∧ (self = true ∨ acc ≠ []) then .inl 40 else .inr (⟨kind, name, acc, self, []⟩, r)

def tagLoop (kind : Nat) (name : Bs) : Nat → Bs → List At → Sum Nat (Tok × Bs)
  | 0, _, _ => .inl 0
  | f + 1, l, acc =>
    if skip l = [] then .inl 40
    else if Lib.hasPrefix (skip l) [62] then finish kind name false acc ((skip l).drop 1)
    else if Lib.hasPrefix (skip l) [47, 62] then finish kind name true acc ((skip l).drop 2)
    else if Lib.hasPrefix (skip l) [47] then .inl 40
    else match attr dec (skip l) with
      | .inl e => .inl e
      | .inr (a, r) =>
        if acc.any (fun b => a.name = b.name) then .inl 41
        else if acc.length = 16 then .inl 3
        else tagLoop kind name f r (acc ++ [a])
def tag (kind : Nat) (l : Bs) : Sum Nat (Tok × Bs) :=
  if made (small (upto (blanks ++ [47, 62]) l)) [] = false then .inl 40
  else tagLoop dec kind (small (upto (blanks ++ [47, 62]) l)) 17 (past (blanks ++ [47, 62]) l) []

/-- A comment, behind <!--. -/
def comment (l : Bs) : Sum Nat (Tok × Bs) :=
  if Lib.index l [45, 45, 62] < 0 ∨ Lib.hasPrefix l [62] = true ∨ Lib.hasPrefix l [45, 62] = true then .inl 43
  else
    let v := l.take (Lib.index l [45, 45, 62]).toNat
    if 0 ≤ Lib.index v [45, 45, 33, 62] ∨ 0 ≤ Lib.index v [60, 33, 45, 45] ∨ Lib.hasSuffix v [60, 33, 45] = true then .inl 43
    else .inr (⟨4, [], [], false, v⟩, l.drop (v.length + 3))

def head : Bs := [60, 33, 100, 111, 99, 116, 121, 112, 101]
def mark (l : Bs) : Sum Nat (Tok × Bs) :=
  if l.length < 9 ∨ small (l.take 9) ≠ head then .inl 43
  else if past [62] (l.drop 9) = [] then .inl 43
  else .inr (⟨5, [], [], false, Lib.trimS (upto [62] (l.drop 9)) blanks⟩, (past [62] (l.drop 9)).drop 1)

def begins : Bs → Bool
  | 60 :: c :: _ => letter c || c == 47 || c == 33 || c == 63
  | _ => false
/-- How many bytes stand ahead of the next place where something begins. -/
def run : Bs → Nat
  | [] => 0
  | c :: r => if begins (c :: r) then 0 else run r + 1
def text (l : Bs) : Tok × Bs := (⟨3, [], [], false, dec (l.take (run (l.drop 1) + 1)) false⟩, l.drop (run (l.drop 1) + 1))

/-- The next token of a text that is not empty. -/
def one (l : Bs) : Sum Nat (Tok × Bs) :=
  if begins l = false then .inr (text dec l)
  else if letter (l.getD 1 0) then tag dec 1 (l.drop 1)
  else if l.getD 1 0 = 47 then (if l.length = 2 ∨ letter (l.getD 2 0) = false then .inl 40 else tag dec 2 (l.drop 2))
  else if Lib.hasPrefix l [60, 33, 45, 45] then comment (l.drop 4)
  else mark l

def go : Nat → Nat → Bs → List Tok → List Tok × Nat × Nat
  | 0, _, _, _ => ([], 0, 0)
  | f + 1, p, l, acc =>
    if l = [] then (acc, 0, 0)
    else match one dec l with
      | .inl e => ([], e, p)
      | .inr (t, r) => go f (p + (l.length - r.length)) r (acc ++ [t])
def tokens (l : Bs) : List Tok × Nat × Nat :=
  if 65536 < l.length then ([], 3, 0)
  else if 0 ≤ Lib.indexByte l 0 then ([], 42, (Lib.indexByte l 0).toNat)
  else go dec (l.length + 1) 0 l []
end
end Go.Proofs.YtaohdicilfabeaaGreatDoor.Tk

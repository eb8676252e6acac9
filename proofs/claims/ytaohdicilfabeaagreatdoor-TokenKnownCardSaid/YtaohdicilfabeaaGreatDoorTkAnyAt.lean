/- token.anyAt: where one of some ASCII bytes first stands in a text, walked: a range over a text's characters finds the same place as a look at its bytes. -/
import Derived.Test.YtaohdicilfabeaaGreatDoorTkSmall
import Derived.Lib.OthersKept
import Derived.Laws.RangeAny
import Derived.Deep.LoopGhost
namespace Go.Proofs.YtaohdicilfabeaaGreatDoor
open Go.RowKit
set_option linter.unusedVariables false
set_option linter.unusedSimpArgs false

namespace Tk
def anyAt (stops l : Bs) : Int := if past stops l = [] then -1 else ((upto stops l).length : Int)
/-- None of the first i bytes is one of c. -/
def Free (l c : Bs) (i : Nat) : Prop := ∀ j x, j < i → l[j]? = some x → c.contains x = false
theorem free_upto {l c : Bs} {i : Nat} (h : Free l c i) (hi : i ≤ l.length) : upto c l = l.take i ++ upto c (l.drop i) ∧ past c l = past c (l.drop i) := by
  induction i generalizing l with
  | zero => simp
  | succ i ih =>
    cases l with
    | nil => simp at hi
    | cons x l =>
      have hx := h 0 x (by omega) rfl
      have := ih (l := l) (fun j y hj hy => h (j + 1) y (by omega) (by simpa using hy)) (by simpa using hi)
      simp only [upto, past, List.takeWhile_cons, List.dropWhile_cons, hx, Bool.not_false, if_true, List.take_succ_cons, List.drop_succ_cons, List.cons_append] at this ⊢
      exact ⟨by rw [this.1], this.2⟩
theorem anyAt_none {l c : Bs} {i : Nat} (h : Free l c i) (hi : l.length ≤ i) : anyAt c l = -1 := by
  have h2 := (free_upto (i := l.length) (fun j x hj hx => h j x (by omega) hx) (Nat.le_refl _)).2
  unfold anyAt
  rw [h2, List.drop_length]; simp [past]
theorem anyAt_hit {l c : Bs} {i : Nat} {x : UInt8} (h : Free l c i) (hx : l[i]? = some x) (hc : c.contains x = true) : anyAt c l = i := by
  have hlt : i < l.length := (List.getElem?_eq_some_iff.1 hx).1
  have h2 := free_upto h (Nat.le_of_lt hlt)
  have e : l.drop i = x :: l.drop (i + 1) := by
    rw [List.drop_eq_getElem_cons hlt]; congr 1; exact (List.getElem?_eq_some_iff.1 hx).2
  unfold anyAt
  rw [h2.1, h2.2, e]
  simp only [past, upto, List.dropWhile_cons, List.takeWhile_cons, hc]
  simp; omega
end Tk

/-- What decoding at a place tells: an ASCII byte is itself; else no ASCII character comes out, and no ASCII byte is passed over. -/
theorem decode_two (s : ByteArray) (i : Nat) (h : i < s.size) :
    ((s[i].toNat < 128 ∧ Utf8.decode s i = (s[i].toNat, 1)) ∨
     (128 ≤ s[i].toNat ∧ 128 ≤ (Utf8.decode s i).1 ∧ 1 ≤ (Utf8.decode s i).2)) ∧
    ∀ j x, i < j → j < i + (Utf8.decode s i).2 → s.data.toList[j]? = some x → 128 ≤ x.toNat := by
  refine ⟨?_, ?_⟩
  · by_cases hb : s[i].toNat < 128
    · exact .inl ⟨hb, decode_ascii s i h hb⟩
    · exact .inr ⟨by omega, decode_high s i h (by omega)⟩
  · intro j x hij hj hx
    have hg : ∀ k y, s.data.toList[i + k]? = some y → (s.get! (i + k)).toNat = y.toNat := by
      intro k y hy
      have hlt : i + k < s.size := by have := (List.getElem?_eq_some_iff.1 hy).1; simpa using this
      have e : s.get! (i + k) = s[i + k]'hlt := by simp [ByteArray.get!, getElem!_pos, hlt]; rfl
      rw [e]
      have : s.data.toList[i + k]? = some (s[i + k]'hlt) := by
        rw [List.getElem?_eq_getElem (by simpa using hlt)]; rfl
      rw [this] at hy; cases hy; rfl
    obtain ⟨k, rfl⟩ : ∃ k, j = i + k := ⟨j - i, by omega⟩
    have hk := hg k x hx
    rw [← hk]
    have hk0 : 0 < k := by omega
    have hkn : k < (Utf8.decode s i).2 := by omega
    clear hij hj hx hk hg x
    simp only [Utf8.decode] at hkn
    repeat' split at hkn
    all_goals simp_all
    all_goals (first | omega | (obtain rfl | rfl | rfl : k = 1 ∨ k = 2 ∨ k = 3 := by omega) | skip)
    all_goals omega

theorem free_zero (l c : List UInt8) : Tk.Free l c 0 := fun j _ hj _ => by omega
theorem free_more {l c : List UInt8} {i n : Nat} {b : UInt8} (h : Tk.Free l c i) (hb : l[i]? = some b) (hn : c.contains b = false) (hs : ∀ j x, i < j → j < i + n → l[j]? = some x → 128 ≤ x.toNat) (hc : ∀ (j : Nat) b, c[j]? = some b → b.toNat < 128) : Tk.Free l c (i + n) := by
  intro j x hj hx
  rcases Nat.lt_trichotomy j i with h1 | h1 | h1
  · exact h j x h1 hx
  · subst h1; rw [hb] at hx; cases hx; exact hn
  · have h2 := hs j x h1 hj hx
    rw [Bool.eq_false_iff]
    intro h3
    obtain ⟨q, hq⟩ := List.getElem?_of_mem (List.contains_iff_mem.1 h3)
    have := hc q x hq
    omega
/-- The character r is none of the first j of c. -/
def NotYet (c : List UInt8) (r : Int) (j : Nat) : Prop := ∀ q x, q < j → c[q]? = some x → (x.toNat : Int) ≠ r

set_option maxHeartbeats 1000000 in
theorem anyAt_any (s c : ByteArray) (w : World) (hs : s.size ≤ 140737488351232) (hcs : c.size ≤ 140737488351232) (hc : ∀ (j : Nat) b, c.data.toList[j]? = some b → b.toNat < 128) :
    Calls Tryz.prog 62 #[.string s, .string c] w fun e w' => e = .returned (.int .i64 (Tk.anyAt c.data.toList s.data.toList)) ∧ Below w.heap.size w w' := by
  have HC := Lib.hid hc
  clear hc
  go_enter Tryz.func62, Tryz.ntmps62
  go_wp2
  have hB0 : Below w.heap.size w (w.iter s 0) := (Below.refl _ _).alloc (Nat.le_refl _) _
  have hI0 : (w.iter s 0).heap[w.heap.size]? = some (.stringIter s 0) := World.iter_heap w s 0
  have HB0 := Lib.hid hB0
  have HI0 := Lib.hid hI0
  clear hB0 hI0
  generalize hg' : w.heap.size = K at *
  have HG := Lib.hid hg'
  clear hg'
  generalize w.iter s 0 = W0 at *
  go_loopg [5, 6, 8] s.size (fun g _ _ _ wr => ∃ i : Nat, s.size ≤ i + g ∧ Hid (wr.heap[K]? = some (.stringIter s i)) ∧ Hid (Below K w wr) ∧ Hid (Tk.Free s.data.toList c.data.toList i))
  case atStart => exact ⟨0, by omega, HI0, HB0, free_zero _ _⟩
  case round =>
    clear HI0 HB0
    obtain ⟨i, hig, HI, HB, HF⟩ := hrel
    by_cases hi : i < s.size
    · cases gk with
      | zero => omega
      | succ g =>
        obtain ⟨r, n, hd⟩ : ∃ r n, Utf8.decode s i = (r, n) := ⟨_, _, rfl⟩
        have hdt := decode_two s i hi
        have hnx := fun ty => Lib.run_next_any_at (P := Tryz.prog) wr K s i ty HI.out hi
        rw [hd] at hdt hnx
        simp only at hdt hnx
        obtain ⟨b, hb⟩ : ∃ b : UInt8, s[i] = b := ⟨_, rfl⟩
        rw [hb] at hdt
        have hbl : s.data.toList[i]? = some b := by rw [← hb, List.getElem?_eq_getElem (by simpa using hi)]; rfl
        have HD := Lib.hid hdt
        have HBL := Lib.hid hbl
        have hI1 := Lib.hid (Lib.iterAt_heap wr K s i (i + n) HI.out)
        have hB1 := Lib.hid (Lib.below_iterAt HB.out (Nat.le_refl K) s (i + n))
        clear hdt hbl hd hb HI HB
        generalize wr.iterAt K s (i + n) = W1 at *
        go_wp2
        go_loopg [8] c.size (fun q _ wx => ∃ j : Nat, j + q = c.size ∧ wx = W1.iter c j ∧ Hid (NotYet c.data.toList r j))
        case atStart => exact ⟨0, by omega, rfl, fun q x hq _ => by omega⟩
        case round =>
          clear hnx
          obtain ⟨j, hjq, rfl, HN⟩ := hrel
          cases gk with
          | zero =>
            obtain rfl : j = c.size := by omega
            have hnx := fun ty => run_next_end (P := Tryz.prog) W1 c c.size ty (by omega)
            go_wp2
            go_roundg g
            case measure => omega
            case rel =>
              have hK : K < W1.heap.size := (Array.getElem?_eq_some_iff.1 hI1.out).1
              have hnc : c.data.toList.contains b = false := by
                rw [Bool.eq_false_iff]
                intro h3
                obtain ⟨q, hq⟩ := List.getElem?_of_mem (List.contains_iff_mem.1 h3)
                have h5 := HC.out q b hq
                have h6 := HN.out q b (by have := (List.getElem?_eq_some_iff.1 hq).1; simpa using this) hq
                rcases HD.out.1 with ⟨_, h7⟩ | ⟨h7, _⟩
                · cases h7; exact h6 rfl
                · omega
              have hn1 : 1 ≤ n := by
                rcases HD.out.1 with ⟨_, h7⟩ | ⟨_, _, h7⟩
                · cases h7; omega
                · exact h7
              exact ⟨i + n, by omega, (Below.heap_alloc W1 _ K hK).trans hI1.out, hB1.out.alloc (by omega) _, free_more HF.out HBL.out hnc HD.out.2 HC.out⟩
          | succ q =>
            have hj : j < c.size := by omega
            obtain ⟨x, hx⟩ : ∃ x : UInt8, c[j]'hj = x := ⟨_, rfl⟩
            have hxl : c.data.toList[j]? = some x := by rw [← hx, List.getElem?_eq_getElem (by simpa using hj)]; rfl
            have hx128 : x.toNat < 128 := HC.out j x hxl
            have hnx := fun ty => run_next_ascii (P := Tryz.prog) W1 c j ty hj (by rw [hx]; exact hx128)
            rw [hx] at hnx
            have HX := Lib.hid hxl
            clear hxl hx hx128
            by_cases he : (r : Int) = (x.toNat : Int)
            · have he1 : ((r : Int) == (x.toNat : Int)) = true := by simpa using he
              have HE := Lib.hid he
              clear he
              go_wp2
              go_ret
              have hbx : b = x := by
                have h1 := HC.out j x HX.out
                have h2 := HE.out
                rcases HD.out.1 with ⟨_, h7⟩ | ⟨_, h7, _⟩
                · cases h7; exact UInt8.toNat_inj.1 (by omega)
                · omega
              refine ⟨ret_int (Tk.anyAt_hit HF.out HBL.out ?_).symm, ?_⟩
              · rw [hbx]; exact List.contains_iff_mem.2 (List.mem_of_getElem? HX.out)
              · have hK : K < W1.heap.size := (Array.getElem?_eq_some_iff.1 hI1.out).1
                rw [HG.out]; exact hB1.out.alloc (by omega) _
            · have he1 : ((r : Int) == (x.toNat : Int)) = false := by simpa using he
              have HE := Lib.hid he
              clear he
              go_wp2
              go_roundg q
              case measure => omega
              case rel =>
                refine ⟨j + 1, by omega, rfl, fun q' y hq' hy => ?_⟩
                rcases Nat.lt_or_ge q' j with h | h
                · exact HN.out q' y h hy
                · obtain rfl : q' = j := by omega
                  rw [HX.out] at hy; cases hy
                  exact fun e => HE.out e.symm
    · have hnx := fun ty => Lib.run_next_end_at (P := Tryz.prog) wr K s i ty HI.out hi
      go_wp2
      go_ret
      exact ⟨ret_int (Tk.anyAt_none HF.out (by simp; omega)).symm, by rw [HG.out]; exact HB.out⟩
end Go.Proofs.YtaohdicilfabeaaGreatDoor

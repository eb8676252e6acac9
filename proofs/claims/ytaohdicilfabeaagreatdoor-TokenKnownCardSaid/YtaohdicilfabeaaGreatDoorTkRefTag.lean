/- The answer's tag (selvedgeref04), walked: a tag, as the program reads it. -/
import Derived.Test.YtaohdicilfabeaaGreatDoorTkRefAttr
namespace Go.Proofs.YtaohdicilfabeaaGreatDoor
open Go.RowKit
set_option linter.unusedVariables false
set_option linter.unusedSimpArgs false

/-- What tag, comment, doctype and one leave: a token and the place behind it, or an error. -/
def RTokPost (l : List UInt8) (res : Sum Nat (Tk.Tok × List UInt8)) (w : World) (e : Ending) (w' : World) : Prop :=
  Below w.heap.size w w' ∧ ∃ (K : Int) (N : ByteArray) (a : Option Addr) (n c : Nat) (SF : Bool) (D : ByteArray) (p k : Int),
    e = .returned (.tuple #[.agg #[.int .u8 K, .string N, .slice a n c, .bool SF, .string D], .int .i64 p, .int .i64 k]) ∧
    ((∃ k' : Nat, k' ≠ 0 ∧ k = k' ∧ res = .inl k') ∨
     (k = 0 ∧ ∃ (t : Tk.Tok) (q : Nat), p = (q : Int) ∧ q ≤ l.length ∧ res = .inr (t, l.drop q) ∧ K = (t.kind : Int) ∧ N = ⟨t.name.toArray⟩ ∧ SF = t.self ∧ D = ⟨t.data.toArray⟩ ∧ OwnA 35 w' w.heap.size (.slice a n c) t.attrs))
/-- A token's cells, all zero. -/
def tokZ : Array Value := #[.int .u8 0, .string ⟨#[]⟩, .slice none 0 0, .bool false, .string ⟨#[]⟩]
/-- Five cells of a block, written one by one. -/
def put5 (w : World) (T : Nat) (a b c d e : Value) : World := ((((w.setCell ⟨T, 0, none⟩ a).setCell ⟨T, 1, none⟩ b).setCell ⟨T, 2, none⟩ c).setCell ⟨T, 3, none⟩ d).setCell ⟨T, 4, none⟩ e
theorem put5_blk {w : World} {T : Nat} {ty : TypeId} {x0 x1 x2 x3 x4 : Value} (h : w.heap[T]? = some (.cells #[x0, x1, x2, x3, x4] ty (0, 0))) (a b c d e : Value) : (put5 w T a b c d e).heap[T]? = some (.cells #[a, b, c, d, e] ty (0, 0)) :=
  bP (bP (bP (bP (bP h 0 _ rfl) 1 _ rfl) 2 _ rfl) 3 _ rfl) 4 _ rfl
theorem put5_grown (w : World) (T : Nat) (a b c d e : Value) : w.grownBy (put5 w T a b c d e) (some T) :=
  gS (gS (gS (gS (gS (gRefl w _) T 0 a (.inl rfl)) T 1 b (.inl rfl)) T 2 c (.inl rfl)) T 3 d (.inl rfl)) T 4 e (.inl rfl)
theorem below_put5 {w w' : World} {B : Nat} (h : Below B w w') (T : Nat) (hT : B ≤ T) (a b c d e : Value) : Below B w (put5 w' T a b c d e) :=
  ((((h.setCell (p := ⟨T, 0, none⟩) hT a).setCell (p := ⟨T, 1, none⟩) hT b).setCell (p := ⟨T, 2, none⟩) hT c).setCell (p := ⟨T, 3, none⟩) hT d).setCell (p := ⟨T, 4, none⟩) hT e
theorem RTokPost.err {l : List UInt8} {res : Sum Nat (Tk.Tok × List UInt8)} {w W : World} {A : Nat} (hb : Below w.heap.size w W) (hA : w.heap.size ≤ A) (k' : Nat) (hk0 : k' ≠ 0) (hr : res = .inl k') {K p k : Int} {N D : ByteArray} {a : Option Addr} {n c : Nat} {SF : Bool} (hk : k = k') :
    RTokPost l res w (.returned (.tuple #[.agg #[.int .u8 K, .string N, .slice a n c, .bool SF, .string D], .int .i64 p, .int .i64 k])) (put5 W A (.int .u8 K) (.string N) (.slice a n c) (.bool SF) (.string D)) :=
  ⟨below_put5 hb A hA _ _ _ _ _, K, N, a, n, c, SF, D, p, k, rfl, .inl ⟨k', hk0, hk, hr⟩⟩
theorem RTokPost.ok {l : List UInt8} {res : Sum Nat (Tk.Tok × List UInt8)} {w W : World} {A : Nat} {cs : Array Value} (hb : Below w.heap.size w W) (hA : w.heap.size ≤ A) (b : W.heap[A]? = some (.cells cs 46 (0, 0))) (t : Tk.Tok) (q : Nat) (hq : q ≤ l.length) (hr : res = .inr (t, l.drop q)) {K p k : Int} {N D : ByteArray} {a : Option Addr} {n c : Nat} {SF : Bool}
    (hk : k = 0) (hp : p = (q : Int)) (hK : K = (t.kind : Int)) (hN : N = ⟨t.name.toArray⟩) (hS : SF = t.self) (hD : D = ⟨t.data.toArray⟩) (ho : OwnA 35 W w.heap.size (.slice a n c) t.attrs) :
    RTokPost l res w (.returned (.tuple #[.agg #[.int .u8 K, .string N, .slice a n c, .bool SF, .string D], .int .i64 p, .int .i64 k])) (put5 W A (.int .u8 K) (.string N) (.slice a n c) (.bool SF) (.string D)) :=
  ⟨below_put5 hb A hA _ _ _ _ _, K, N, a, n, c, SF, D, p, k, rfl, .inr ⟨hk, t, q, hp, hq, hr, hK, hN, hS, hD, own_far ho (put5_grown W A _ _ _ _ _) b (by decide)⟩⟩
theorem rtag_ret {post : Ending → World → Prop} {t : Array Value} {W : World} {A : Nat} {x0 x1 x2 x3 x4 y0 y1 y2 y3 y4 : Value} {p k : Int}
    (b : W.heap[A]? = some (.cells #[x0, x1, x2, x3, x4] 46 (0, 0))) (h6 : t[6]? = some (.pointer (some ⟨A, 0, none⟩))) (h7 : t[7]? = some (.int .i64 p)) (h8 : t[8]? = some (.int .i64 k))
    (hq : post (.returned (.tuple #[.agg #[y0, y1, y2, y3, y4], .int .i64 p, .int .i64 k])) (put5 W A y0 y1 y2 y3 y4)) :
    bodyPost Tryz.prog Tryz.f26 post Exit.ret { tmps := t, defers := [] } (put5 W A y0 y1 y2 y3 y4) := by
  have bR := put5_blk b y0 y1 y2 y3 y4
  generalize put5 W A y0 y1 y2 y3 y4 = W4 at *
  have r0 : W4.cell? ⟨A, 0, none⟩ = some y0 := blk_cell bR 0
  have r1 : W4.cell? ⟨A, 1, none⟩ = some y1 := blk_cell bR 1
  have r2 : W4.cell? ⟨A, 2, none⟩ = some y2 := blk_cell bR 2
  have r3 : W4.cell? ⟨A, 3, none⟩ = some y3 := blk_cell bR 3
  have r4 : W4.cell? ⟨A, 4, none⟩ = some y4 := blk_cell bR 4
  exact bodyPost_ret (v := .tuple #[.agg #[y0, y1, y2, y3, y4], .int .i64 p, .int .i64 k]) (by simp [results, Tryz.results26, go_sem, r0, r1, r2, r3, r4, h6, h7, h8]) rfl hq

/-- On the way through a tag; w0: the world at its beginning. -/
structure Rg (w0 : World) (T A kind : Nat) (name : List UInt8) (w : World) (av : Value) (acc : List Tk.At) (sf : Bool) : Prop where
  gr : Below w0.heap.size w0 w
  blk : w.heap[T]? = some (.cells (tagCells kind name av sf) 46 (0, 0))
  res : w.heap[A]? = some (.cells tokZ 46 (0, 0))
  hA : w0.heap.size ≤ A
  hAT : A < T
  own : OwnA 35 w w0.heap.size av acc
section
variable {w0 : World} {T A kind : Nat} {name : List UInt8} {w w1 : World} {av : Value} {acc : List Tk.At} {sf : Bool}
theorem Rg.below (h : Rg w0 T A kind name w av acc sf) (hb : Below w.heap.size w w1) : Rg w0 T A kind name w1 av acc sf :=
  ⟨h.gr.trans (hb.mono h.gr.size), bB h.blk hb, bB h.res hb, h.hA, h.hAT, own_below h.own hb⟩
theorem Rg.drews (h : Rg w0 T A kind name w av acc sf) (n : Nat) : Rg w0 T A kind name (w.drewN n) av acc sf := ⟨⟨h.gr.os, h.gr.tape, h.gr.output, h.gr.size, h.gr.block⟩, h.blk, h.res, h.hA, h.hAT, h.own⟩
theorem Rg.alloc (h : Rg w0 T A kind name w av acc sf) (o : Obj) : Rg w0 T A kind name (w.alloc o) av acc sf := h.below ((Below.refl _ _).alloc (Nat.le_refl _) _)
theorem Rg.hT (h : Rg w0 T A kind name w av acc sf) : w0.heap.size ≤ T := by have := h.hA; have := h.hAT; omega
theorem Rg.selfed (h : Rg w0 T A kind name w av acc sf) : Rg w0 T A kind name (w.setCell ⟨T, 3, none⟩ (.bool true)) av acc true :=
  ⟨h.gr.setCell (p := ⟨T, 3, none⟩) h.hT _, bP h.blk 3 _ rfl, bS h.res T 3 _ (by have := h.hAT; omega), h.hA, h.hAT, own_far h.own (gS (gRefl w (some T)) T 3 _ (.inl rfl)) h.blk (by decide)⟩
theorem Rg.appended (h : Rg w0 T A kind name w av acc sf) {a : Tk.At} {av' : Value} (hg : w.grownBy w1 av.ownBlock) (ho : w1.ownsRow w0.heap.size 35 2 av' (acc.length + 1) (attrCells acc ++ [str a.name, str a.value])) :
    Rg w0 T A kind name (w1.setCell ⟨T, 2, none⟩ av') av' (acc ++ [a]) sf := by
  have hne : some T ≠ av.ownBlock := fun e => own_ne h.own h.blk (by decide) e.symm
  have hneA : some A ≠ av.ownBlock := fun e => own_ne h.own h.res (by decide) e.symm
  have hb := bG h.blk hg hne
  have hr := bG h.res hg hneA
  refine ⟨(h.gr.grown hg h.gr.size (fun g e => (h.own.lt g e).1)).setCell (p := ⟨T, 2, none⟩) h.hT _, bP hb 2 _ rfl, bS hr T 2 _ (by have := h.hAT; omega), h.hA, h.hAT, ?_⟩
  have h2 : OwnA 35 w1 w0.heap.size av' (acc ++ [a]) := by
    unfold OwnA; rw [attrCells_snoc, List.length_append]; exact ho
  exact own_far h2 (gS (gRefl w1 (some T)) T 2 _ (.inl rfl)) hb (by decide)
theorem Rg.c0 (h : Rg w0 T A kind name w av acc sf) : w.cell? ⟨T, 0, none⟩ = some (.int .u8 (kind : Int)) := blk_cell h.blk 0
theorem Rg.c1 (h : Rg w0 T A kind name w av acc sf) : w.cell? ⟨T, 1, none⟩ = some (.string ⟨name.toArray⟩) := blk_cell h.blk 1
theorem Rg.c2 (h : Rg w0 T A kind name w av acc sf) : w.cell? ⟨T, 2, none⟩ = some av := blk_cell h.blk 2
theorem Rg.c3 (h : Rg w0 T A kind name w av acc sf) : w.cell? ⟨T, 3, none⟩ = some (.bool sf) := blk_cell h.blk 3
theorem Rg.c4 (h : Rg w0 T A kind name w av acc sf) : w.cell? ⟨T, 4, none⟩ = some (.string ⟨#[]⟩) := blk_cell h.blk 4
theorem Rg.free (h : Rg w0 T A kind name w av acc sf) (i : Nat) : w.frozen? ⟨T, i, none⟩ = false := blk_free h.blk i
theorem Rg.r0 (h : Rg w0 T A kind name w av acc sf) : w.cell? ⟨A, 0, none⟩ = some (.int .u8 0) := blk_cell h.res 0
theorem Rg.r1 (h : Rg w0 T A kind name w av acc sf) : w.cell? ⟨A, 1, none⟩ = some (.string ⟨#[]⟩) := blk_cell h.res 1
theorem Rg.r2 (h : Rg w0 T A kind name w av acc sf) : w.cell? ⟨A, 2, none⟩ = some (.slice none 0 0) := blk_cell h.res 2
theorem Rg.r3 (h : Rg w0 T A kind name w av acc sf) : w.cell? ⟨A, 3, none⟩ = some (.bool false) := blk_cell h.res 3
theorem Rg.r4 (h : Rg w0 T A kind name w av acc sf) : w.cell? ⟨A, 4, none⟩ = some (.string ⟨#[]⟩) := blk_cell h.res 4
theorem Rg.rfree (h : Rg w0 T A kind name w av acc sf) (i : Nat) : w.frozen? ⟨A, i, none⟩ = false := blk_free h.res i
end

set_option maxRecDepth 100000 in
set_option maxHeartbeats 8000000 in
theorem refTag_any (s : ByteArray) (l : List UInt8) (hl : s.data.toList = l) (i : Nat) (hi : i ≤ s.size) (hs : s.size ≤ 1000000) (kind : Nat) (hkind : kind = 1 ∨ kind = 2) (w : World) :
    Calls Tryz.prog 26 #[.string s, .int .i64 (i : Int), .int .u8 (kind : Int)] w (RTokPost l (Tk.tag decT kind (l.drop i)) w) := by
  have HL := Lib.hid hl
  have hsz : l.length = s.size := by rw [← hl, ← Lib.size_eq]
  have HSZ := Lib.hid hsz
  have HK := Lib.hid hkind
  clear hl hsz hkind
  have HT : Hid (Tk.tag decT kind (l.drop i) = if Tk.made (Tk.small (Tk.upto (Tk.blanks ++ [47, 62]) (l.drop i))) [] = false then .inl 40 else Tk.tagLoop decT kind (Tk.small (Tk.upto (Tk.blanks ++ [47, 62]) (l.drop i))) 17 (Tk.past (Tk.blanks ++ [47, 62]) (l.drop i)) []) := rfl
  go_enter Tryz.func26, Tryz.ntmps26
  go_wp2_with fail
  have b2 := bN w (.cells tokZ 46 (0, 0))
  have HB2 := Lib.hid ((Below.refl w.heap.size w).alloc (Nat.le_refl _) (.cells tokZ 46 (0, 0)))
  have hW2 : w.alloc (.cells tokZ 46 (0, 0)) = w.alloc (.cells #[.int .u8 0, .string ⟨#[]⟩, .slice none 0 0, .bool false, .string ⟨#[]⟩] 46 (0, 0)) := rfl
  rw [hW2] at b2 HB2
  clear hW2
  generalize w.alloc (.cells #[.int .u8 0, .string ⟨#[]⟩, .slice none 0 0, .bool false, .string ⟨#[]⟩] 46 (0, 0)) = W2 at *
  obtain ⟨A, hA⟩ : ∃ A, w.heap.size = A := ⟨_, rfl⟩
  have HA : Hid (w.heap.size ≤ A) := Nat.le_of_eq hA
  rw [hA] at b2 ⊢
  clear hA
  refine (refWord_any s ⟨#[47, 62]⟩ l HL.out i hi hs (by decide) _).mono ?_
  rintro e w1 ⟨k, rfl, hik, hks, hdk, rfl⟩
  have hdk' : l.drop k = Tk.past (Tk.blanks ++ [47, 62]) (l.drop i) := hdk
  have HEX : Hid (s.extract i k = ⟨(Tk.upto (Tk.blanks ++ [47, 62]) (l.drop i)).toArray⟩) := ext_upto HL.out hik (by have := HSZ.out; omega) hdk'
  rw [← hdk'] at HT
  have hiki : (i : Int) ≤ (k : Int) := by omega
  have hksi : (k : Int) ≤ (s.size : Int) := by omega
  clear hdk hdk'
  have hul : (Tk.upto (Tk.blanks ++ [47, 62]) (l.drop i)).length ≤ 1000000 := by
    have := upto_len (Tk.blanks ++ [47, 62]) (l.drop i); rw [List.length_drop] at this; have := HSZ.out; omega
  have hul2 : (Tk.small (Tk.upto (Tk.blanks ++ [47, 62]) (l.drop i))).length ≤ 1000000 := by
    have : (Tk.small (Tk.upto (Tk.blanks ++ [47, 62]) (l.drop i))).length = (Tk.upto (Tk.blanks ++ [47, 62]) (l.drop i)).length := by simp [Tk.small]
    omega
  have hsm := fun W : World => refSmall_any ⟨(Tk.upto (Tk.blanks ++ [47, 62]) (l.drop i)).toArray⟩ W (by show (Tk.upto (Tk.blanks ++ [47, 62]) (l.drop i)).toArray.size ≤ _; simp; omega)
  have e0 : (⟨(Tk.upto (Tk.blanks ++ [47, 62]) (l.drop i)).toArray⟩ : ByteArray).data.toList = Tk.upto (Tk.blanks ++ [47, 62]) (l.drop i) := by simp
  rw [e0, ← HEX.out] at hsm
  clear hul e0 HEX
  obtain ⟨N, hN⟩ : ∃ N, Tk.small (Tk.upto (Tk.blanks ++ [47, 62]) (l.drop i)) = N := ⟨_, rfl⟩
  rw [hN] at hsm hul2 HT
  clear hN
  go_wp2_with fail
  refine (hsm _).mono ?_
  rintro e w3 ⟨rfl, hb3⟩
  have HB3 := Lib.hid (HB2.out.trans (hb3.mono HB2.out.size))
  have b3 := bB b2 hb3
  have hlt3 := blk_lt b3
  clear hsm hb3 b2 HB2
  have HOF : Hid (∀ W : World, Calls Tryz.prog 43 #[.string ⟨N.toArray⟩, .string ⟨#[]⟩] W fun e w' => e = .returned (.bool (Tk.made N [])) ∧ W = w') := fun W => refOf_any ⟨N.toArray⟩ ⟨#[]⟩ N (by simp) (by show N.toArray.size ≤ _; simp; omega) (by decide) W
  go_wp2_with fail
  have X0 : Rg w w3.heap.size A kind N (w3.alloc (.cells #[.int .u8 (kind : Int), .string ⟨N.toArray⟩, .slice none 0 0, .bool false, .string ⟨#[]⟩] 46 (0, 0))) (.slice none 0 0) [] false :=
    ⟨HB3.out.alloc HB3.out.size _, bN w3 _, bA b3 _, HA.out, hlt3, World.ownsRow_nil _ _ _ _⟩
  clear b3 HB3 hlt3
  generalize w3.alloc (.cells #[.int .u8 (kind : Int), .string ⟨N.toArray⟩, .slice none 0 0, .bool false, .string ⟨#[]⟩] 46 (0, 0)) = W4 at *
  generalize w3.heap.size = T at *
  have k1 := X0.c1
  refine (HOF.out _).mono ?_
  rintro e w' ⟨rfl, rfl⟩
  clear HOF
  cases hm : Tk.made N [] with
  | false =>
    have HF : Hid (Tk.tag decT kind (l.drop i) = .inl 40) := HT.out.trans (if_pos hm)
    have c0 := X0.c0
    have c2 := X0.c2
    have c3 := X0.c3
    have c4 := X0.c4
    have r0 := X0.r0
    have r1 := X0.r1
    have r2 := X0.r2
    have r3 := X0.r3
    have r4 := X0.r4
    have rf := X0.rfree
    clear hm HT
    go_wp2
    exact rtag_ret X0.res rfl rfl rfl (.err X0.gr HA.out 40 (by decide) HF.out rfl)
  | true =>
  have HT2 : Hid (Tk.tagLoop decT kind N 17 (l.drop k) [] = Tk.tag decT kind (l.drop i)) := by
    show _ = _; rw [HT.out, if_neg (by rw [hm]; decide)]
  clear HT hm
  go_upto_block 0 with (fail)
  clear k1
  have HX0 := Lib.hid X0
  clear X0
  go_cut [9] (fun v wx => ∃ (k : Nat) (av : Value) (acc : List Tk.At) (sf : Bool), v = .int .i64 (k : Int) ∧ k + 1 + sf.toNat ≤ s.size ∧ acc.length ≤ 16 ∧ Hid (Rg w T A kind N wx av acc false) ∧ Hid (l[k]? = some (if sf then 47 else 62)) ∧ Hid (Tk.finish kind N sf acc (l.drop (k + 1 + sf.toNat)) = Tk.tag decT kind (l.drop i)))
  case first =>
    go_wp2_with fail
    go_loopg [9] 17 (fun f v wr => ∃ (k : Nat) (av : Value) (acc : List Tk.At), v = .int .i64 (k : Int) ∧ k ≤ s.size ∧ acc.length + f = 17 ∧ acc.length ≤ 16 ∧ Hid (Rg w T A kind N wr av acc false) ∧ Hid (Tk.tagLoop decT kind N f (l.drop k) acc = Tk.tag decT kind (l.drop i)))
    case atStart => exact ⟨k, _, [], rfl, hks, rfl, by simp, HX0, HT2⟩
    case round =>
      clear HX0 HT2 hiki hksi hik hks
      obtain ⟨k, av, acc, rfl, hks, hgk, hacc, X, HLP⟩ := hrel
      obtain ⟨f, rfl⟩ : ∃ f, gk = f + 1 := ⟨gk - 1, by omega⟩
      have HL1 := Lib.hid (tagLoop_step decT kind N f (l.drop k) acc)
      rw [HLP.out] at HL1
      clear HLP
      go_wp2_with fail
      refine (refSkip_any s l HL.out k hks hs _).mono ?_
      rintro e w4 ⟨k4, rfl, hk4, hks4, hd4, rfl⟩
      rw [← hd4] at HL1
      clear hd4 hk4 hks
      have c0 := X.out.c0
      have c1 := X.out.c1
      have c2 := X.out.c2
      have c3 := X.out.c3
      have c4 := X.out.c4
      have r0 := X.out.r0
      have r1 := X.out.r1
      have r2 := X.out.r2
      have r3 := X.out.r3
      have r4 := X.out.r4
      have rf := X.out.rfree
      obtain ⟨aa, cap, rfl⟩ := own_shape X.out.own
      by_cases hend : k4 = s.size
      · have hb : ((k4 : Int) == (s.size : Int)) = true := by rw [beq_iff_eq]; omega
        have HF : Hid (Tk.tag decT kind (l.drop i) = .inl 40) := HL1.out.trans (if_pos (List.drop_eq_nil_of_le (by have := HSZ.out; omega)))
        clear HL1 hend
        go_wp2
        exact rtag_ret X.out.res rfl rfl rfl (.err X.out.gr HA.out 40 (by decide) HF.out rfl)
      have hb : ((k4 : Int) == (s.size : Int)) = false := by rw [beq_eq_false_iff_ne]; omega
      have hlt : k4 < s.size := by omega
      have hlti : (k4 : Int) < (s.size : Int) := by omega
      clear hend
      obtain ⟨c, hc⟩ : ∃ c : UInt8, s[k4] = c := ⟨_, rfl⟩
      have HC : Hid (l[k4]? = some c) := by show _ = _; rw [← hc, ← HL.out]; exact Lib.data_getElem? s k4 hlt
      have HL2 := Lib.hid (HL1.out.trans (if_neg (by intro h; have := congrArg List.length h; rw [List.length_drop] at this; simp at this; have := HSZ.out; omega)))
      clear HL1
      have e62 := u8_beq c 62 (by decide)
      have e47 := u8_beq c 47 (by decide)
      cases h62 : ((c.toNat : Int) == 62) with
      | true =>
        have HF := Lib.hid (HL2.out.trans (if_pos (by rw [pre_byte HC.out]; exact e62.trans h62)))
        have hc62 : c = 62 := by have := e62.trans h62; rw [beq_iff_eq] at this; exact this
        have HC2 : Hid (l[k4]? = some (if false then 47 else 62)) := by show _ = _; rw [HC.out, hc62]; rfl
        clear HL2 e62 e47 hc62 HC
        go_wp2_with fail
        go_meet
        exact ⟨k4, _, acc, false, rfl, by simp; omega, hacc, X, HC2, by show _ = _; rw [HF.out, List.drop_drop]; rfl⟩
      | false =>
        have HL3 := Lib.hid (HL2.out.trans (if_neg (by rw [pre_byte HC.out]; rw [show (c == 62) = false from e62.trans h62]; decide)))
        clear HL2 e62
        have hat := fun W : World => refAt_any s ⟨#[47, 62]⟩ k4 hks4 hs (by decide) W
        rw [HL.out] at hat
        have e0 : (⟨#[47, 62]⟩ : ByteArray).data.toList = [47, 62] := rfl
        rw [e0] at hat
        clear e0
        obtain ⟨Q, hQ⟩ : ∃ Q, Lib.hasPrefix (l.drop k4) [47, 62] = Q := ⟨_, rfl⟩
        rw [hQ] at hat HL3
        have HQ := Lib.hid hQ
        clear hQ
        go_wp2_with fail
        refine (hat _).mono ?_
        rintro e w' ⟨rfl, rfl⟩
        clear hat
        cases Q with
        | true =>
          have HF := Lib.hid (HL3.out.trans (if_pos rfl))
          obtain ⟨hp1, hp2⟩ : l[k4]? = some 47 ∧ k4 + 2 ≤ l.length := by
            have h := List.isPrefixOf_iff_prefix.1 HQ.out
            obtain ⟨t, ht⟩ := h
            have h2 := congrArg List.length ht
            rw [List.length_drop] at h2; simp at h2
            have h3 : (l.drop k4)[0]? = some 47 := by rw [← ht]; rfl
            rw [List.getElem?_drop] at h3
            exact ⟨h3, by omega⟩
          have HC2 : Hid (l[k4]? = some (if true then 47 else 62)) := hp1
          have hp3 : k4 + 2 ≤ s.size := by have := HSZ.out; omega
          clear HL3 hp1 hp2
          go_wp2_with fail
          go_meet
          exact ⟨k4, _, acc, true, rfl, by simp; omega, hacc, X, HC2, by show _ = _; rw [HF.out, List.drop_drop]; rfl⟩
        | false =>
        have HL4 := Lib.hid (HL3.out.trans (if_neg (by decide)))
        clear HL3
        cases h47 : ((c.toNat : Int) == 47) with
        | true =>
          have HF := Lib.hid (HL4.out.trans (if_pos (by rw [pre_byte HC.out]; exact e47.trans h47)))
          clear HL4 e47
          go_wp2
          exact rtag_ret X.out.res rfl rfl rfl (.err X.out.gr HA.out 40 (by decide) HF.out rfl)
        | false =>
        have HL5 := Lib.hid (HL4.out.trans (if_neg (by rw [pre_byte HC.out]; rw [show (c == 47) = false from e47.trans h47]; decide)))
        clear HL4 e47 HC
        go_wp2_with fail
        clear hc
        refine (refAttr_any s l HL.out k4 hks4 hs _).mono ?_
        clear c0 c1 c2 c3 c4 r0 r1 r2 r3 r4 rf
        rintro e w9 ⟨hb9, x, y, p9, kx, rfl, hp9, hres⟩
        have X9 := X.out.below hb9
        clear X hb9
        have HP9 := Lib.hid hp9
        rcases hres with ⟨k', hk0, rfl, hE⟩ | ⟨rfl, a, hE, rfl, rfl⟩
        · have hkb : ((k' : Int) != 0) = true := by simpa using hk0
          have HF : Hid (Tk.tag decT kind (l.drop i) = .inl k') := HL5.out.trans (by rw [hE])
          clear HL5 hE hp9
          have X10 := X9.alloc (.cells #[.string x, .string y] 35 (0, 0))
          go_upto_region 12 with (fail)
          generalize w9.alloc (.cells #[.string x, .string y] 35 (0, 0)) = W10 at *
          have c0 := X10.c0
          have c1 := X10.c1
          have c2 := X10.c2
          have c3 := X10.c3
          have c4 := X10.c4
          have r0 := X10.r0
          have r1 := X10.r1
          have r2 := X10.r2
          have r3 := X10.r3
          have r4 := X10.r4
          have rf := X10.rfree
          go_wp2
          exact rtag_ret X10.res rfl rfl rfl (.err X10.gr HA.out k' hk0 HF.out rfl)
        · have HL6 : Hid (Tk.tag decT kind (l.drop i) = if acc.any (fun b => a.name = b.name) = true then .inl 41 else if acc.length = 16 then .inl 3 else Tk.tagLoop decT kind N f (l.drop p9) (acc ++ [a])) := HL5.out.trans (by rw [hE])
          clear HL5 hE hp9
          have X10 := X9.alloc (.cells #[.string ⟨a.name.toArray⟩, .string ⟨a.value.toArray⟩] 35 (0, 0))
          have b10 := bN w9 (.cells #[.string ⟨a.name.toArray⟩, .string ⟨a.value.toArray⟩] 35 (0, 0))
          clear X9
          go_upto_region 12 with (fail)
          generalize w9.alloc (.cells #[.string ⟨a.name.toArray⟩, .string ⟨a.value.toArray⟩] 35 (0, 0)) = WA at *
          generalize w9.heap.size = B at *
          have c2 := X10.c2
          go_upto_block 3 with (fail)
          clear c2
          go_wp2_with fail
          go_loopg [14] acc.length (fun g j wr => ∃ n : Nat, j = .int .i64 (n : Int) ∧ n + g = acc.length ∧ Hid (Below WA.heap.size WA wr) ∧ Hid ((acc.take n).any (fun b => decide (a.name = b.name)) = false))
          case atStart => exact ⟨0, rfl, by omega, Below.refl _ _, rfl⟩
          case round =>
            obtain ⟨n, rfl, hng, hb, hany⟩ := hrel
            have X11 := X10.below hb.out
            have b11 := bB b10 hb.out
            have c2 := X11.c2
            have a0 : wr.cell? ⟨B, 0, none⟩ = some (.string ⟨a.name.toArray⟩) := blk_cell b11 0
            have a1 : wr.cell? ⟨B, 1, none⟩ = some (.string ⟨a.value.toArray⟩) := blk_cell b11 1
            by_cases hn : n < acc.length
            · have hnb : (n : Int) < (acc.length : Int) := by omega
              obtain ⟨g', rfl⟩ : ∃ g', gk = g' + 1 := ⟨gk - 1, by omega⟩
              obtain ⟨g, rfl, e0, e1⟩ := attr_at X11.own n hn
              obtain ⟨c, hc⟩ : ∃ c, acc[n] = c := ⟨_, rfl⟩
              rw [hc] at e0 e1
              by_cases hq : a.name = c.name
              · have hqb : (c.name == a.name) = true := by simp [hq]
                have hq2 : Hid (acc.any (fun b => decide (a.name = b.name)) = true) := List.any_eq_true.2 ⟨acc[n], List.getElem_mem hn, by rw [hc]; simp [hq]⟩
                have HF := Lib.hid (HL6.out.trans (if_pos hq2.out))
                clear HL6 hq hc hq2 hany
                go_wp2_with fail
                go_quiet (fail)
                have X12 := X11.drews nq
                generalize wr.drewN nq = W12 at *
                clear c2
                have c0 := X12.c0
                have c1 := X12.c1
                have c2 := X12.c2
                have c3 := X12.c3
                have c4 := X12.c4
                have r0 := X12.r0
                have r1 := X12.r1
                have r2 := X12.r2
                have r3 := X12.r3
                have r4 := X12.r4
                have rf := X12.rfree
                go_wp2
                exact rtag_ret X12.res rfl rfl rfl (.err X12.gr HA.out 41 (by decide) HF.out rfl)
              · have hqb : (c.name == a.name) = false := by simp; exact fun h => hq h.symm
                have hany2 : Hid ((acc.take (n + 1)).any (fun b => decide (a.name = b.name)) = false) := by
                  show _ = _
                  rw [List.take_succ_eq_append_getElem hn, List.any_append, hany.out, hc]; simp [hq]
                clear hany hq hc
                go_wp2_with fail
                go_quiet (fail)
                go_wp2_with fail
                go_roundg g'
                case measure => omega
                case rel => exact ⟨n + 1, rfl, by omega, below_drews hb.out _, hany2⟩
            · have hnb : ¬ (n : Int) < (acc.length : Int) := by omega
              have hany2 : Hid (acc.any (fun b => decide (a.name = b.name)) = false) := by
                have := hany.out; rw [List.take_of_length_le (by omega)] at this; exact this
              have HL7 := Lib.hid (HL6.out.trans (if_neg (by rw [hany2.out]; decide)))
              clear HL6 hany hany2
              by_cases h16 : acc.length = 16
              · have h16b : ((acc.length : Int) == 16) = true := by rw [h16]; rfl
                have HF := Lib.hid (HL7.out.trans (if_pos h16))
                have c0 := X11.c0
                have c1 := X11.c1
                have c3 := X11.c3
                have c4 := X11.c4
                have r0 := X11.r0
                have r1 := X11.r1
                have r2 := X11.r2
                have r3 := X11.r3
                have r4 := X11.r4
                have rf := X11.rfree
                clear HL7 h16
                go_wp2
                exact rtag_ret X11.res rfl rfl rfl (.err X11.gr HA.out 3 (by decide) HF.out rfl)
              have h16b : ((acc.length : Int) == 16) = false := by simp; omega
              have HL8 := Lib.hid (HL7.out.trans (if_neg h16))
              clear HL7
              have hlt16 : acc.length < 16 := by omega
              clear h16
              have X12 := X11.alloc (.cells #[.string ⟨a.name.toArray⟩, .string ⟨a.value.toArray⟩] 35 (0, 0))
              have hsz := X11.gr.size
              have hp9 := HP9.out
              have hp9s : p9 ≤ s.size := by have := HSZ.out; omega
              obtain ⟨i0, hi0, hz0, hz1, hz2⟩ := info_parts attrInfo
              go_wp2_with (at_builtin; refine wpList_append_lies _ (by rfl) _ _ _ (by rfl) w.heap.size 35 i0 _ 2 32 Tryz.underlying31 hi0 hz0 hz1 hz2 rfl (by omega) (.slice aa acc.length cap) acc.length (attrCells acc) (by rfl) (by exact X12.own) ⟨wr.heap.size, 0, none⟩ 1 1 [str a.name, str a.value] (by rfl) (by rfl) (by exact World.news_of_block (bN wr _)) (by simp [str, Value.oneCell']) (by omega) (by unfold maxLen; omega) (by omega) (by simp; omega) (wr.heap.size + 1) (by simp) ?_; intro gg cap7 w7 hown7 hgrow7 _ _; have b7 := bG X12.blk hgrow7 (fun e => own_ne X12.own X12.blk (by decide) e.symm); have d2 : w7.cell? ⟨T, 2, none⟩ = some _ := blk_cell b7 2; have f2 : w7.frozen? ⟨T, 2, none⟩ = false := blk_free b7 2)
              have X13 := Lib.hid (X12.appended (a := a) hgrow7 hown7)
              go_roundg f
              case measure => omega
              case rel => exact ⟨p9, _, _, rfl, hp9s, by rw [List.length_append]; simp; omega, by rw [List.length_append]; simp; omega, X13, Lib.hid HL8.out.symm⟩
  case rest =>
    clear HX0 HT2 hiki hksi hik hks
    obtain ⟨k, av, acc, sf, rfl, hks, hacc, X, HC, HFIN⟩ := hcut
    obtain ⟨aa, cap, rfl⟩ := own_shape X.out.own
    have hlt : k < s.size := by omega
    have hlti : (k : Int) < (s.size : Int) := by omega
    have HQ : Hid (k + 1 + sf.toNat ≤ l.length) := by show _ ≤ _; have := HSZ.out; omega
    have fin : (kind = 2 ∧ (sf = true ∨ acc ≠ []) → Tk.tag decT kind (l.drop i) = .inl 40) ∧ (¬ (kind = 2 ∧ (sf = true ∨ acc ≠ [])) → Tk.tag decT kind (l.drop i) = .inr (⟨kind, N, acc, sf, []⟩, l.drop (k + 1 + sf.toNat))) := ⟨fun h => HFIN.out.symm.trans (if_pos h), fun h => HFIN.out.symm.trans (if_neg h)⟩
    have HFI := Lib.hid fin
    clear fin HFIN
    have c3 := X.out.c3
    have f3 := X.out.free 3
    obtain ⟨c, hc⟩ : ∃ c : UInt8, s[k] = c := ⟨_, rfl⟩
    have hcs : c = if sf then 47 else 62 := by
      have h1 : l[k]? = some c := by rw [← hc, ← HL.out]; exact Lib.data_getElem? s k hlt
      rw [HC.out] at h1; injection h1 with h1; exact h1.symm
    clear HC
    rcases Bool.eq_false_or_eq_true sf with rfl | rfl
    · -- a tag that ends itself
      have hc47 : ((c.toNat : Int) == 47) = true := by rw [hcs]; rfl
      clear hcs
      go_upto_region 26 with (fail)
      have X2 := X.out.selfed
      clear X c3 f3 hc
      generalize wc.setCell ⟨T, 3, none⟩ (.bool true) = W3 at *
      have c0 := X2.c0
      have c1 := X2.c1
      have c2 := X2.c2
      have c3 := X2.c3
      have c4 := X2.c4
      have r0 := X2.r0
      have r1 := X2.r1
      have r2 := X2.r2
      have r3 := X2.r3
      have r4 := X2.r4
      have rf := X2.rfree
      rcases HK.out with rfl | rfl
      · have HF := Lib.hid (HFI.out.2 (by omega))
        have hkb : (((1 : Nat) : Int) == 2) = false := rfl
        clear HFI
        go_wp2
        exact rtag_ret X2.res rfl rfl rfl (.ok X2.gr HA.out X2.res ⟨1, N, acc, true, []⟩ _ HQ.out HF.out rfl (by simp) rfl rfl rfl rfl X2.own)
      · have HF := Lib.hid (HFI.out.1 ⟨rfl, .inl rfl⟩)
        have hkb : (((2 : Nat) : Int) == 2) = true := rfl
        clear HFI
        go_wp2
        exact rtag_ret X2.res rfl rfl rfl (.err X2.gr HA.out 40 (by decide) HF.out rfl)
    · have hc47 : ((c.toNat : Int) == 47) = false := by rw [hcs]; rfl
      clear hcs
      have X2 := X.out
      clear X f3
      have c0 := X2.c0
      have c1 := X2.c1
      have c2 := X2.c2
      have c4 := X2.c4
      have r0 := X2.r0
      have r1 := X2.r1
      have r2 := X2.r2
      have r3 := X2.r3
      have r4 := X2.r4
      have rf := X2.rfree
      rcases HK.out with rfl | rfl
      · have HF := Lib.hid (HFI.out.2 (by omega))
        have hkb : (((1 : Nat) : Int) == 2) = false := rfl
        clear HFI
        go_wp2
        exact rtag_ret X2.res rfl rfl rfl (.ok X2.gr HA.out X2.res ⟨1, N, acc, false, []⟩ _ HQ.out HF.out rfl (by simp) rfl rfl rfl rfl X2.own)
      · have hkb : (((2 : Nat) : Int) == 2) = true := rfl
        by_cases hac : acc = []
        · have HF := Lib.hid (HFI.out.2 (by rintro ⟨_, h | h⟩; cases h; exact h hac))
          have hp2 : ¬ (0 : Int) < (acc.length : Int) := by rw [hac]; simp
          clear HFI hac
          go_wp2
          exact rtag_ret X2.res rfl rfl rfl (.ok X2.gr HA.out X2.res ⟨2, N, acc, false, []⟩ _ HQ.out HF.out rfl (by simp) rfl rfl rfl rfl X2.own)
        · have HF := Lib.hid (HFI.out.1 ⟨rfl, .inr hac⟩)
          have hp2 : (0 : Int) < (acc.length : Int) := by have := List.length_pos_iff.2 hac; omega
          clear HFI hac
          go_wp2
          exact rtag_ret X2.res rfl rfl rfl (.err X2.gr HA.out 40 (by decide) HF.out rfl)
end Go.Proofs.YtaohdicilfabeaaGreatDoor

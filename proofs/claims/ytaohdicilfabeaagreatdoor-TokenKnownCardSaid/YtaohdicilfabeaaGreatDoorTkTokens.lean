/- Tokens, walked: it answers what Tk.tokens says, in rows of its own. -/
import Derived.Test.YtaohdicilfabeaaGreatDoorTkStep
namespace Go.Proofs.YtaohdicilfabeaaGreatDoor
open Go.RowKit

/-- What Tokens leaves. -/
def TokensPost (dec : List UInt8 → Bool → List UInt8) (l : List UInt8) (w : World) (e : Ending) (w' : World) : Prop :=
  Below w.heap.size w w' ∧ ∃ (v : Value) (toks : List Tk.Tok) (err pos : Nat), e = .returned (.tuple #[v, .int .i64 (err : Int), .int .i64 (pos : Int)]) ∧ Tk.tokens dec l = (toks, err, pos) ∧ OwnT 33 35 w' w.heap.size v toks
theorem TokensPost.mk {dec : List UInt8 → Bool → List UInt8} {l : List UInt8} {w w' : World} {e : Ending} {toks : List Tk.Tok} {err pos : Nat} (ht : Tk.tokens dec l = (toks, err, pos)) (hb : Below w.heap.size w w') {v : Value} (ho : OwnT 33 35 w' w.heap.size v toks) (x y : Int) (hx : x = err) (hy : y = pos) (he : e = .returned (.tuple #[v, .int .i64 x, .int .i64 y])) : TokensPost dec l w e w' := by
  subst hx hy; exact ⟨hb, v, toks, err, pos, he, ht, ho⟩
theorem go_step (dec : List UInt8 → Bool → List UInt8) (f p : Nat) (l : List UInt8) (acc : List Tk.Tok) : Tk.go dec (f + 1) p l acc =
    if l = [] then (acc, 0, 0)
    else match Tk.one dec l with
      | .inl e => ([], e, p)
      | .inr (t, r) => Tk.go dec f (p + (l.length - r.length)) r (acc ++ [t]) := rfl
theorem reader_new (w : World) (s : ByteArray) (l : List UInt8) (hl : s.data.toList = l) : Sta w w.heap.size w.heap.size s [] (w.alloc (.cells #[.string s, .int .i64 0, .slice none 0 0] 43 (0, 0))) 0 l (.slice none 0 0) :=
  ⟨(Below.refl _ _).alloc (Nat.le_refl _) _, ⟨bN w _, Nat.zero_le _, hl⟩, OwnT.nil _ _ _ _, Nat.le_refl _⟩

theorem call_method (k : Nat) (x : Value) (w : World) : Sem.run Tryz.prog (callFunc (methodOf k) #[x]) w = .ok (.enter (methodOf k) #[x]) w := by
  match k with
  | 0 => unfold methodOf; simp [callFunc, go_sem, Tryz.func17]; rw [if_neg (by decide), if_neg (by intro h; cases h)]
  | 1 => unfold methodOf; simp [callFunc, go_sem, Tryz.func19]; rw [if_neg (by decide), if_neg (by intro h; cases h)]
  | 2 => unfold methodOf; simp [callFunc, go_sem, Tryz.func20]; rw [if_neg (by decide), if_neg (by intro h; cases h)]
  | 3 => unfold methodOf; simp [callFunc, go_sem, Tryz.func22]; rw [if_neg (by decide), if_neg (by intro h; cases h)]
  | _ + 4 => unfold methodOf; simp [callFunc, go_sem, Tryz.func23]; rw [if_neg (by decide), if_neg (by intro h; cases h)]

set_option maxRecDepth 100000 in
set_option maxHeartbeats 2000000 in
theorem tokens_any {nm : List (List UInt8 × Int × Bool)} {ot : List Int} {dec : List UInt8 → Bool → List UInt8} (hD : DecodeSaid nm ot dec) (hI : IndexAnySaid) (s : ByteArray) (l : List UInt8) (hl : s.data.toList = l) (w : World) (hgl : Gl nm ot w) :
    Calls Tryz.prog 6 #[.string s] w (TokensPost dec l w) := by
  have hsz : s.size = l.length := by rw [← hl, ← Lib.size_eq]
  have HL := Lib.hid hl
  have HD := Lib.hid hD
  have HI := Lib.hid hI
  have HGL := Lib.hid hgl
  have h5 := hgl.lt
  clear hl hD hI hgl
  by_cases hbig : 65536 < l.length
  · have hb : 65536 < (s.size : Int) := by omega
    have HT : Hid (Tk.tokens dec l = ([], 3, 0)) := if_pos hbig
    clear hsz hbig
    go_enter Tryz.func6, Tryz.ntmps6
    go_wp2
    go_ret3
    exact .mk HT.out (Below.refl _ _) (OwnT.nil _ _ _ _) 3 0 rfl rfl rfl
  · have hb : ¬ 65536 < (s.size : Int) := by omega
    have hs : s.size ≤ 65536 := by omega
    have HT : Hid (Tk.tokens dec l = if 0 ≤ Lib.indexByte l 0 then ([], 42, (Lib.indexByte l 0).toNat) else Tk.go dec (l.length + 1) 0 l []) := if_neg hbig
    have HSZ := Lib.hid hsz
    clear hbig hsz
    go_enter Tryz.func6, Tryz.ntmps6
    go_wp2_with fail
    refine (indexByte_any s 0 _).mono ?_
    rintro e w1 ⟨he, rfl⟩
    rw [HL.out] at he
    obtain ⟨i, hi⟩ : ∃ i, Lib.indexByte l (Int.toNat 0).toUInt8 = i := ⟨_, rfl⟩
    rw [hi] at he
    have hi' : Lib.indexByte l 0 = i := hi
    rw [hi'] at HT
    clear hi hi'
    subst he
    by_cases h0 : 0 ≤ i
    · have HT2 := Lib.hid (HT.out.trans (if_pos h0))
      clear HT
      go_wp2
      go_ret3
      exact .mk HT2.out (Below.refl _ _) (OwnT.nil _ _ _ _) 42 i rfl (by omega) rfl
    · have HT2 := Lib.hid (HT.out.trans (if_neg h0))
      clear HT
      go_upto_block 0 with (fail)
      have S0 := Lib.hid (reader_new w s l HL.out)
      generalize w.alloc (.cells #[.string s, .int .i64 0, .slice none 0 0] 43 (0, 0)) = w1 at *
      generalize hRR : w.heap.size = R at *
      have HRR := Lib.hid hRR
      clear hRR
      go_wp2_with fail
      go_loopg [7] (l.length + 1) (fun f _ wr => ∃ (p : Nat) (L : List UInt8) (v : Value) (acc : List Tk.Tok), L.length < f ∧ acc.length ≤ p ∧ Hid (Sta w R R s acc wr p L v) ∧ Hid (Tk.go dec f p L acc = Tk.tokens dec l))
      case atStart => exact ⟨0, l, _, [], Nat.lt_succ_self _, Nat.le_refl _, S0, HT2.out.symm⟩
      case round =>
        clear S0
        obtain ⟨p, L, v, acc, hf, hap, S, HG⟩ := hrel
        obtain ⟨f, rfl⟩ : ∃ f, gk = f + 1 := ⟨gk - 1, by omega⟩
        have HG2 := Lib.hid (go_step dec f p L acc)
        rw [HG.out] at HG2
        clear HG
        have hle := S.out.rs.le
        have hlen := S.out.rs.len
        have k1 := S.out.rs.rd.c1
        by_cases hend : L = []
        · have HF := Lib.hid (HG2.out.trans (if_pos hend))
          have hpn : ¬ (p : Int) < (s.size : Int) := by rw [hend] at hlen; simp at hlen; omega
          have k2 := S.out.rs.rd.c2
          clear HG2 hend hlen
          go_wp2
          go_ret3
          exact .mk HF.out (by rw [HRR.out]; exact S.out.bel) (by rw [HRR.out]; exact S.out.own) 0 0 rfl rfl rfl
        · have HG3 := Lib.hid (HG2.out.trans (if_neg hend))
          have HE := Lib.hid hend
          have hpos : 0 < L.length := List.length_pos_iff.2 hend
          have hpn : (p : Int) < (s.size : Int) := by omega
          clear HG2 hend
          have HLEN := Lib.hid hlen
          clear hlen
          go_wp2_with fail
          refine (next_any R s p L v _ (by exact S.out.rs) (by omega)).mono ?_
          rintro e w2 ⟨rfl, n2, rfl⟩
          have hst := step_any HD.out HI.out R R s p L v acc (wr.drewN n2) (by exact (S.out.drews n2).re) (by exact (S.out.drews n2).gl HGL.out (by omega)) (by omega) hpos (by omega) (by omega)
          unfold methodVal
          obtain ⟨k, hk⟩ : ∃ k, methodOf (which L) = k := ⟨_, rfl⟩
          have hcall : ∀ W : World, Sem.run Tryz.prog (callFunc k #[.pointer (some ⟨R, 0, none⟩)]) W = .ok (.enter k #[.pointer (some ⟨R, 0, none⟩)]) W := by
            intro W; rw [← hk]; exact call_method _ _ _
          rw [hk] at hst ⊢
          clear hk k1
          go_wp2_with fail
          refine hst.mono ?_
          clear hst hcall
          rintro e w3 ⟨hb3, ⟨k', hk0, hres, rfl⟩ | ⟨t, r, p', v', hres, rfl, hrs, hown⟩⟩
          · have hkb : ((k' : Int) != 0) = true := by simpa using hk0
            have HF : Hid (Tk.tokens dec l = ([], k', p)) := HG3.out.trans (by rw [hres])
            have HB := Lib.hid ((S.out.drews n2).bel.trans hb3)
            clear HG3 hres hb3
            go_wp2
            go_ret3
            exact .mk HF.out (by rw [HRR.out]; exact HB.out) (OwnT.nil _ _ _ _) k' p rfl rfl rfl
          · have hlt := Tk.one_len HE.out hres
            have HG4 : Hid (Tk.go dec f (p + (L.length - r.length)) r (acc ++ [t]) = Tk.tokens dec l) := (HG3.out.trans (by rw [hres])).symm
            have hle' := hrs.le
            have hlen' := hrs.len
            have hlen := HLEN.out
            have hp' : p' = p + (L.length - r.length) := by omega
            rw [← hp'] at HG4
            have S2 := Lib.hid (⟨(S.out.drews n2).bel.trans hb3, hrs, hown, Nat.le_refl _⟩ : Sta w R R s (acc ++ [t]) w3 p' r v')
            have hf2 : r.length < f := by omega
            have hap2 : (acc ++ [t]).length ≤ p' := by rw [List.length_append]; simp; omega
            clear HG3 hres hb3 hrs hown hlt hlen' hlen hp'
            go_wp2_with fail
            go_roundg f
            case measure => omega
            case rel => exact ⟨p', r, v', acc ++ [t], hf2, hap2, S2, HG4⟩
end Go.Proofs.YtaohdicilfabeaaGreatDoor

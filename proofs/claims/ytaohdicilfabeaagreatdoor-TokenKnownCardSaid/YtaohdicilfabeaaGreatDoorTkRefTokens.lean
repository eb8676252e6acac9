/- The answer's Tokens (selvedgeref04), walked: it answers what Tk.tokens says, in rows of its own. -/
import Derived.Test.YtaohdicilfabeaaGreatDoorTkRefComment
import Derived.Test.YtaohdicilfabeaaGreatDoorTkTokens
namespace Go.Proofs.YtaohdicilfabeaaGreatDoor
open Go.RowKit
set_option linter.unusedVariables false
set_option linter.unusedSimpArgs false

theorem ib_first (c : UInt8) : ∀ (l : List UInt8) (k : Nat), l[k]? = some c → (∀ (j : Nat) b, j < k → l[j]? = some b → b ≠ c) → Lib.indexByte l c = (k : Int)
  | [], k, h, _ => by simp at h
  | x :: l, 0, h, _ => by
    have : x = c := by simpa using h
    unfold Lib.indexByte; rw [this]; simp
  | x :: l, k + 1, h, hn => by
    have hx : x ≠ c := hn 0 x (by omega) rfl
    have ih := ib_first c l k (by simpa using h) (fun j b hj hb => hn (j + 1) b (by omega) (by simpa using hb))
    unfold Lib.indexByte
    rw [ih, if_neg (by simpa using hx)]
    have : ((k : Int) == -1) = false := by rw [beq_eq_false_iff_ne]; omega
    rw [this]; simp
theorem ib_none (c : UInt8) : ∀ (l : List UInt8), (∀ (j : Nat) b, l[j]? = some b → b ≠ c) → Lib.indexByte l c = -1
  | [], _ => rfl
  | x :: l, hn => by
    have hx : x ≠ c := hn 0 x rfl
    have ih := ib_none c l (fun j b hb => hn (j + 1) b (by simpa using hb))
    unfold Lib.indexByte
    rw [ih, if_neg (by simpa using hx)]; rfl
theorem rtokInfo : (Tryz.prog.info? 46).map (fun i => (i.zero, i.size, i.bytes)) = some (some (.agg #[.int .u8 0, .string ⟨#[]⟩, .slice none 0 0, .bool false, .string ⟨#[]⟩]), 5, 72) := by kernel_rfl

/-- What the answer's Tokens leaves. -/
def RTokensPost (dec : List UInt8 → Bool → List UInt8) (l : List UInt8) (w : World) (e : Ending) (w' : World) : Prop :=
  Below w.heap.size w w' ∧ ∃ (v : Value) (toks : List Tk.Tok) (err pos : Nat), e = .returned (.tuple #[v, .int .i64 (err : Int), .int .i64 (pos : Int)]) ∧ Tk.tokens dec l = (toks, err, pos) ∧ OwnT 46 35 w' w.heap.size v toks
theorem RTokensPost.mk {dec : List UInt8 → Bool → List UInt8} {l : List UInt8} {w w' : World} {e : Ending} {toks : List Tk.Tok} {err pos : Nat} (ht : Tk.tokens dec l = (toks, err, pos)) (hb : Below w.heap.size w w') {v : Value} (ho : OwnT 46 35 w' w.heap.size v toks) (x y : Int) (hx : x = err) (hy : y = pos) (he : e = .returned (.tuple #[v, .int .i64 x, .int .i64 y])) : RTokensPost dec l w e w' := by
  subst hx hy; exact ⟨hb, v, toks, err, pos, he, ht, ho⟩

set_option maxRecDepth 100000 in
set_option maxHeartbeats 8000000 in
theorem refTokens_any (s : ByteArray) (l : List UInt8) (hl : s.data.toList = l) (w : World) :
    Calls Tryz.prog 7 #[.string s] w (RTokensPost decT l w) := by
  have hsz : s.size = l.length := by rw [← hl, ← Lib.size_eq]
  have HL := Lib.hid hl
  clear hl
  by_cases hbig : 65536 < l.length
  · have hb : 65536 < (s.size : Int) := by omega
    have HT : Hid (Tk.tokens decT l = ([], 3, 0)) := if_pos hbig
    clear hsz hbig
    go_enter Tryz.func7, Tryz.ntmps7
    go_wp2
    go_ret3
    exact .mk HT.out (Below.refl _ _) (OwnT.nil _ _ _ _) 3 0 rfl rfl rfl
  · have hb : ¬ 65536 < (s.size : Int) := by omega
    have hs : s.size ≤ 65536 := by omega
    have HT : Hid (Tk.tokens decT l = if 0 ≤ Lib.indexByte l 0 then ([], 42, (Lib.indexByte l 0).toNat) else Tk.go decT (l.length + 1) 0 l []) := if_neg hbig
    have HSZ := Lib.hid hsz
    clear hbig hsz
    go_enter Tryz.func7, Tryz.ntmps7
    go_wp2_with fail
    go_loopg [5] s.size (fun g v wr => ∃ m : Nat, v = .int .i64 (m : Int) ∧ m + g = s.size ∧ w = wr ∧ Hid (∀ (j : Nat) b, j < m → l[j]? = some b → b ≠ 0))
    case atStart => exact ⟨0, rfl, by omega, rfl, fun j b h => absurd h (by omega)⟩
    case round =>
      obtain ⟨m, rfl, hmg, rfl, HN⟩ := hrel
      by_cases hm : m < s.size
      · have hmi : (m : Int) < (s.size : Int) := by omega
        obtain ⟨g, rfl⟩ : ∃ g, gk = g + 1 := ⟨gk - 1, by omega⟩
        obtain ⟨c, hc⟩ : ∃ c : UInt8, s[m] = c := ⟨_, rfl⟩
        have HC : Hid (l[m]? = some c) := by show _ = _; rw [← hc, ← HL.out]; exact Lib.data_getElem? s m hm
        have e0 := u8_beq c 0 (by decide)
        cases h0 : ((c.toNat : Int) == 0) with
        | true =>
          have hc0 : c = 0 := by have := e0.trans h0; rw [beq_iff_eq] at this; exact this
          have hi : Lib.indexByte l 0 = (m : Int) := ib_first 0 l m (by rw [HC.out, hc0]) HN.out
          have HF : Hid (Tk.tokens decT l = ([], 42, m)) := by show _ = _; rw [HT.out, hi, if_pos (by omega), Int.toNat_natCast]
          clear hc0 hi e0 HN HT
          go_wp2
          go_ret3
          exact .mk HF.out (Below.refl _ _) (OwnT.nil _ _ _ _) 42 m rfl rfl rfl
        | false =>
          have HN2 : Hid (∀ (j : Nat) b, j < m + 1 → l[j]? = some b → b ≠ 0) := by
            intro j b hj hb
            rcases Nat.lt_or_ge j m with h | h
            · exact HN.out j b h hb
            · obtain rfl : j = m := by omega
              rw [HC.out] at hb; cases hb
              intro h; have := e0.trans h0; rw [h] at this; exact absurd this (by decide)
          clear HN e0 HT
          go_wp2_with fail
          go_roundg g
          case measure => omega
          case rel => exact ⟨m + 1, rfl, by omega, rfl, HN2⟩
      · have hmi : ¬ (m : Int) < (s.size : Int) := by omega
        have hi : Lib.indexByte l 0 = -1 := ib_none 0 l (fun j b hb => HN.out j b (by have := (List.getElem?_eq_some_iff.1 hb).1; have := HSZ.out; omega) hb)
        have HT2 : Hid (Tk.tokens decT l = Tk.go decT (l.length + 1) 0 l []) := by show _ = _; rw [HT.out, hi, if_neg (by decide)]
        clear HN HT hi
        go_wp2_with fail
        clear hm hmi hmg
        go_loopg [6, 7] (l.length + 1) (fun f x y wr => ∃ (p : Nat) (acc : List Tk.Tok), y = .int .i64 (p : Int) ∧ p ≤ s.size ∧ l.length - p < f ∧ acc.length ≤ p ∧ Hid (Below w.heap.size w wr) ∧ Hid (OwnT 46 35 wr w.heap.size x acc) ∧ Hid (Tk.go decT f p (l.drop p) acc = Tk.tokens decT l))
        case atStart => exact ⟨0, [], rfl, by omega, by omega, by simp, Below.refl _ _, OwnT.nil _ _ _ _, HT2.out.symm⟩
        case round =>
          clear HT2
          obtain ⟨p, acc, rfl, hps, hf, hap, HB, HO, HG⟩ := hrel
          obtain ⟨f, rfl⟩ : ∃ f, gk = f + 1 := ⟨gk - 1, by omega⟩
          have HG2 := Lib.hid (go_step decT f p (l.drop p) acc)
          rw [HG.out] at HG2
          clear HG
          by_cases hend : p < s.size
          · have hpi : (p : Int) < (s.size : Int) := by omega
            have hne : l.drop p ≠ [] := by intro h; have := congrArg List.length h; rw [List.length_drop] at this; simp at this; have := HSZ.out; omega
            have HG3 := Lib.hid (HG2.out.trans (if_neg hne))
            have HNE := Lib.hid hne
            clear HG2 hne
            go_wp2_with fail
            refine (refOneTok_any s l HL.out p hend (by omega) _).mono ?_
            rintro e w2 ⟨hb2, K, N, a, n, c, SF, D, pp, kk, rfl, hres⟩
            have HB2 := Lib.hid (HB.out.trans (hb2.mono HB.out.size))
            have HO2 := Lib.hid (HO.out.below hb2)
            rcases hres with ⟨k', hk0, rfl, hE⟩ | ⟨rfl, t, q, rfl, hq, hE, rfl, rfl, rfl, rfl, hown⟩
            · have hkb : ((k' : Int) != 0) = true := by simpa using hk0
              have HF : Hid (Tk.tokens decT l = ([], k', p)) := HG3.out.trans (by rw [hE])
              clear HG3 hE HB HO hb2 HO2
              go_wp2
              go_ret3
              exact .mk HF.out (HB2.out.alloc HB2.out.size _) (OwnT.nil _ _ _ _) k' p rfl rfl rfl
            · have hlt := Tk.one_len HNE.out hE
              rw [List.length_drop, List.length_drop] at hlt
              have HG4 : Hid (Tk.go decT f q (l.drop q) (acc ++ [t]) = Tk.tokens decT l) := by
                show _ = _
                rw [HG3.out, hE]
                have e : p + ((l.drop p).length - (l.drop q).length) = q := by rw [List.length_drop, List.length_drop]; have := HSZ.out; omega
                show _ = Tk.go decT f (p + ((l.drop p).length - (l.drop q).length)) (l.drop q) (acc ++ [t])
                rw [e]
              have HOA := Lib.hid (own_mono (C := w.heap.size) hown HB.out.size)
              have hpq : p < q := by omega
              have hf2 : l.length - q < f := by omega
              have hqs : q ≤ s.size := by have := HSZ.out; omega
              obtain ⟨avs, hal, hao, haa⟩ := HO2.out
              have HAO := Lib.hid hao
              have HAA := Lib.hid haa
              have hsz := HB2.out.size
              clear HG3 hE HB HO hb2 HO2 hown hlt hao haa
              obtain ⟨i0, hi0, hz0, hz1, hz2⟩ := info_parts rtokInfo
              go_upto_region 12 with (fail)
              have bX := bN w2 (.cells #[.int .u8 (t.kind : Int), .string ⟨t.name.toArray⟩, .slice a n c, .bool t.self, .string ⟨t.data.toArray⟩] 46 (0, 0))
              have hbX : Below w2.heap.size w2 (w2.alloc (.cells #[.int .u8 (t.kind : Int), .string ⟨t.name.toArray⟩, .slice a n c, .bool t.self, .string ⟨t.data.toArray⟩] 46 (0, 0))) := (Below.refl _ _).alloc (Nat.le_refl _) _
              have HOX : Hid (OwnA 35 _ w.heap.size (.slice a n c) t.attrs) := own_below HOA.out hbX
              have HAOX := Lib.hid (own_below HAO.out hbX)
              have HAAX := Lib.hid (fun (i : Nat) t av (h1 : acc[i]? = some t) (h2 : avs[i]? = some av) => own_below (HAA.out i t av h1 h2) hbX)
              have HBX := Lib.hid (HB2.out.trans (hbX.mono hsz))
              have hszX := HBX.out.size
              clear hbX HOA HAO HAA HB2
              generalize w2.alloc (.cells #[.int .u8 (t.kind : Int), .string ⟨t.name.toArray⟩, .slice a n c, .bool t.self, .string ⟨t.data.toArray⟩] 46 (0, 0)) = WX at *
              generalize w2.heap.size = T at *
              have x0 : WX.cell? ⟨T, 0, none⟩ = some (.int .u8 (t.kind : Int)) := blk_cell bX 0
              have x1 : WX.cell? ⟨T, 1, none⟩ = some (.string ⟨t.name.toArray⟩) := blk_cell bX 1
              have x2 : WX.cell? ⟨T, 2, none⟩ = some (.slice a n c) := blk_cell bX 2
              have x3 : WX.cell? ⟨T, 3, none⟩ = some (.bool t.self) := blk_cell bX 3
              have x4 : WX.cell? ⟨T, 4, none⟩ = some (.string ⟨t.data.toArray⟩) := blk_cell bX 4
              have hacc6 : acc.length ≤ 1000000 := by omega
              go_wp2_with (at_builtin; refine wpList_append_lies _ (by rfl) _ _ _ (by rfl) w.heap.size 46 i0 _ 5 72 Tryz.underlying27 hi0 hz0 hz1 hz2 rfl (by omega) u6 acc.length (tokCells acc avs) (by rfl) (by exact HAOX.out.alloc _) ⟨WX.heap.size, 0, none⟩ 1 1 (tokCell t (.slice a n c)) (by rfl) (by rfl) (by exact World.news_of_block (bN WX _)) (by simp [tokCell, str, Value.oneCell']) (by omega) (by unfold maxLen; omega) (by omega) (by simp; omega) (WX.heap.size + 1) (by simp) ?_; intro gg cap7 w7 hown7 hgrow7 _ _)
              have hbA : Below WX.heap.size WX (WX.alloc (.cells (tokCell t (.slice a n c)).toArray 46 (0, 0))) := (Below.refl _ _).alloc (Nat.le_refl _) _
              have HB7 : Hid (Below w.heap.size w w7) := (HBX.out.trans (hbA.mono hszX)).grown hgrow7 (by have := hbA.size; omega) (fun k hk => (HAOX.out.lt k hk).1)
              have HO7 := Lib.hid (OwnT.snoc (t := t) (av := .slice a n c) (by decide) hal (own_below HAOX.out hbA) (fun i t av h1 h2 => own_below (HAAX.out i t av h1 h2) hbA) (own_below HOX.out hbA) hgrow7 hown7)
              go_wp2_with fail
              go_roundg f
              case measure => omega
              case rel => exact ⟨q, acc ++ [t], rfl, hqs, hf2, by rw [List.length_append]; simp; omega, HB7, HO7, HG4⟩
          · have hpi : ¬ (p : Int) < (s.size : Int) := by omega
            have HF := Lib.hid (HG2.out.trans (if_pos (List.drop_eq_nil_of_le (by have := HSZ.out; omega))))
            clear HG2
            go_wp2
            go_ret3
            exact .mk HF.out HB.out HO.out 0 0 rfl rfl rfl
end Go.Proofs.YtaohdicilfabeaaGreatDoor

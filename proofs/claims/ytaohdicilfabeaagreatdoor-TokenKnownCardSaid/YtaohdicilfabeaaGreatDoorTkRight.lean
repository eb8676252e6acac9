/- The laws' right, walked: tokens such as may be answer true. -/
import Derived.Test.YtaohdicilfabeaaGreatDoorTkSame
import Derived.Test.YtaohdicilfabeaaGreatDoorTkSee
import Derived.Test.YtaohdicilfabeaaGreatDoorTkParts
import Derived.Test.YtaohdicilfabeaaGreatDoorTkRefLeaf
namespace Go.Proofs.YtaohdicilfabeaaGreatDoor
open Go.RowKit
set_option linter.unusedVariables false
set_option linter.unusedSimpArgs false

theorem refSmall_l (l : List UInt8) (w : World) (hs : l.length ≤ 1000000) :
    Calls Tryz.prog 31 #[.string ⟨l.toArray⟩] w fun e w' => e = .returned (.string ⟨(Tk.small l).toArray⟩) ∧ Below w.heap.size w w' :=
  refSmall_any ⟨l.toArray⟩ w (by show l.toArray.size ≤ _; simp; omega)
theorem refSmall_same (l : List UInt8) (w : World) (hs : l.length ≤ 1000000) (h : Tk.small l = l) :
    Calls Tryz.prog 31 #[.string ⟨l.toArray⟩] w fun e w' => e = .returned (.string ⟨l.toArray⟩) ∧ Below w.heap.size w w' := by
  have := refSmall_l l w hs
  rw [h] at this; exact this
/-- A world that meets S. -/
structure Wx (S : World → Prop) where
  w : World
  h : S w
instance wxSome (W : World) : Nonempty (Wx fun w' => Below W.heap.size W w') := ⟨⟨W, Below.refl _ _⟩⟩
theorem wp_region_class {P : Program} {id : Nat} {Q : Exit → Act → World → Prop} {a : Act} {w : World} {l : List Oper} (S : World → Prop) (hm : P.follows .mixedOrders = true) (hB : Region.lexB .any l.toArray = true) (hS : S { w with drawn := w.drawn + 1 })
    (h : wpQuiet P l.toArray (fun w' => ∃ x : Wx S, w' = x.w) (fun a' => ∀ w', (∃ x : Wx S, w' = x.w) → Q .normal a' w') l a) : (Code.region id l.toArray true).wp P Q a w :=
  wp_region_quiet (C := fun w' => ∃ x : Wx S, w' = x.w) hm hB ⟨⟨_, hS⟩, rfl⟩ (by simpa using h)
theorem small_class {W1 : World} (l : List UInt8) (hs : l.length ≤ 1000000) (hn : Tk.small l = l) (x : Wx (fun w' => Below W1.heap.size W1 w')) :
    Calls Tryz.prog 31 #[.string ⟨l.toArray⟩] x.w fun e w'' => e = .returned (.string ⟨l.toArray⟩) ∧ ∃ y : Wx (fun w' => Below W1.heap.size W1 w'), w'' = y.w :=
  (refSmall_same l x.w hs hn).mono fun _ w'' ⟨he, hb⟩ => ⟨he, ⟨w'', x.h.trans (hb.mono x.h.size)⟩, rfl⟩
/-- A token's copy in a block of its own. -/
def CopyAt (w : World) (T : Nat) (t : Tk.Tok) (av : Value) : Prop := w.heap[T]? = some (.cells #[.int .u8 (t.kind : Int), .string ⟨t.name.toArray⟩, av, .bool t.self, .string ⟨t.data.toArray⟩] 33 (0, 0))
theorem CopyAt.c0 {w : World} {T : Nat} {t : Tk.Tok} {av : Value} (h : CopyAt w T t av) : w.cell? ⟨T, 0, none⟩ = some (.int .u8 (t.kind : Int)) := blk_cell h 0
theorem CopyAt.c1 {w : World} {T : Nat} {t : Tk.Tok} {av : Value} (h : CopyAt w T t av) : w.cell? ⟨T, 1, none⟩ = some (.string ⟨t.name.toArray⟩) := blk_cell h 1
theorem CopyAt.c2 {w : World} {T : Nat} {t : Tk.Tok} {av : Value} (h : CopyAt w T t av) : w.cell? ⟨T, 2, none⟩ = some av := blk_cell h 2
theorem CopyAt.c3 {w : World} {T : Nat} {t : Tk.Tok} {av : Value} (h : CopyAt w T t av) : w.cell? ⟨T, 3, none⟩ = some (.bool t.self) := blk_cell h 3
theorem CopyAt.c4 {w : World} {T : Nat} {t : Tk.Tok} {av : Value} (h : CopyAt w T t av) : w.cell? ⟨T, 4, none⟩ = some (.string ⟨t.data.toArray⟩) := blk_cell h 4
theorem CopyAt.below {w w' : World} {T : Nat} {t : Tk.Tok} {av : Value} (h : CopyAt w T t av) (hb : Below w.heap.size w w') : CopyAt w' T t av := bB h hb
theorem CopyAt.lt {w : World} {T : Nat} {t : Tk.Tok} {av : Value} (h : CopyAt w T t av) : T < w.heap.size := blk_lt h

theorem prev_kind {w : World} {B : Nat} {g n c k : Nat} {ts : List Tk.Tok} {t : Tk.Tok} (h : OwnT 33 35 w B (.slice (some ⟨g, 0, none⟩) n c) ts) (ha : Tk.Apart ts) (ht : ts[k]? = some t) (h3 : t.kind = 3) (hk : 0 < k) :
    ∃ pk : Nat, w.cell? ⟨g, (k - 1) * 5, none⟩ = some (.int .u8 (pk : Int)) ∧ pk ≠ 3 := by
  have hlt := (List.getElem?_eq_some_iff.1 ht).1
  obtain ⟨u, hu⟩ : ∃ u, ts[k - 1]? = some u := ⟨_, List.getElem?_eq_getElem (by omega)⟩
  obtain ⟨g', av, hg', _, _, k0, _⟩ := h.at (k - 1) u hu
  obtain rfl : g = g' := by injection hg' with h; injection h
  refine ⟨u.kind, k0, fun e => ?_⟩
  have e1 : k - 1 + 1 = k := by omega
  exact ha (k - 1) u t hu (by rw [e1]; exact ht) ⟨e, h3⟩

set_option maxRecDepth 100000 in
set_option maxHeartbeats 8000000 in
theorem right_any (B : Nat) (v : Value) (ts : List Tk.Tok) (w : World) (h : OwnT 33 35 w B v ts) (hf : ∀ t ∈ ts, Tk.Fine t) (ha : Tk.Apart ts) (hn : ∀ t ∈ ts, t.name.length ≤ 1000000) (hl : ts.length ≤ 1000000) :
    Calls Tryz.prog 14 #[v] w fun e w' => e = .returned (.bool true) ∧ Below w.heap.size w w' := by
  obtain ⟨a, c, rfl⟩ := h.shape
  have H := Lib.hid h
  have HF := Lib.hid hf
  have HA := Lib.hid ha
  have HN := Lib.hid hn
  clear h hf ha hn
  go_enter Tryz.func14, Tryz.ntmps14
  go_wp2_with fail
  go_loopg [3] ts.length (fun g i wr => ∃ k : Nat, i = .int .i64 (k : Int) ∧ k + g = ts.length ∧ Hid (Below w.heap.size w wr))
  case atStart => exact ⟨0, rfl, by omega, Below.refl _ _⟩
  case round =>
    obtain ⟨k, rfl, hkg, HB⟩ := hrel
    by_cases hk : k < ts.length
    · obtain ⟨g, rfl⟩ : ∃ g, gk = g + 1 := ⟨gk - 1, by omega⟩
      have hki : (k : Int) < (ts.length : Int) := by omega
      obtain ⟨t, ht⟩ : ∃ t, ts[k]? = some t := ⟨_, List.getElem?_eq_getElem hk⟩
      have HO := Lib.hid (H.out.below HB.out)
      obtain ⟨g1, av, rfl, hg1, hA, k0, k1, k2, k3, k4⟩ := HO.out.at k t ht
      obtain ⟨aa, ca, rfl⟩ := own_shape hA
      have HT := Lib.hid ht
      have hmem : t ∈ ts := List.mem_of_getElem? ht
      have HFT := Lib.hid (HF.out t hmem)
      have HNT := Lib.hid (HN.out t hmem)
      have HAT := Lib.hid hA
      have hg1' := hg1.2
      clear ht hmem hA hg1
      go_upto_region 5 with (fail)
      have HC : Hid (CopyAt (wr.alloc (.cells #[.int .u8 (t.kind : Int), .string ⟨t.name.toArray⟩, .slice aa t.attrs.length ca, .bool t.self, .string ⟨t.data.toArray⟩] 33 (0, 0))) wr.heap.size t (.slice aa t.attrs.length ca)) := bN wr _
      have HB1 := Lib.hid (HB.out.alloc HB.out.size (.cells #[.int .u8 (t.kind : Int), .string ⟨t.name.toArray⟩, .slice aa t.attrs.length ca, .bool t.self, .string ⟨t.data.toArray⟩] 33 (0, 0)))
      have HO1 := Lib.hid (HO.out.below ((Below.refl wr.heap.size wr).alloc (Nat.le_refl _) (.cells #[.int .u8 (t.kind : Int), .string ⟨t.name.toArray⟩, .slice aa t.attrs.length ca, .bool t.self, .string ⟨t.data.toArray⟩] 33 (0, 0))))
      have HA1 := Lib.hid (own_below HAT.out ((Below.refl wr.heap.size wr).alloc (Nat.le_refl _) (.cells #[.int .u8 (t.kind : Int), .string ⟨t.name.toArray⟩, .slice aa t.attrs.length ca, .bool t.self, .string ⟨t.data.toArray⟩] 33 (0, 0))))
      have hg1lt : g1 < (wr.alloc (.cells #[.int .u8 (t.kind : Int), .string ⟨t.name.toArray⟩, .slice aa t.attrs.length ca, .bool t.self, .string ⟨t.data.toArray⟩] 33 (0, 0))).heap.size := by simp; omega
      clear HB HO HAT k0 k1 k2 k3 k4
      generalize wr.alloc (.cells #[.int .u8 (t.kind : Int), .string ⟨t.name.toArray⟩, .slice aa t.attrs.length ca, .bool t.self, .string ⟨t.data.toArray⟩] 33 (0, 0)) = W1 at *
      generalize wr.heap.size = T at *
      go_cut [80] (fun b wx => b = .bool false ∧ Hid (Below W1.heap.size W1 wx))
      case first =>
        have hlo := HFT.out.lo
        have hhi := HFT.out.hi
        rcases (show (t.kind = 1 ∧ k = 0) ∨ (t.kind ≠ 1 ∧ k = 0) ∨ (t.kind = 1 ∧ 0 < k) ∨ ((t.kind ≠ 1 ∧ t.kind ≠ 3) ∧ 0 < k) ∨ (t.kind = 3 ∧ 0 < k) from by omega) with ⟨hkd, hkz⟩ | ⟨hkd, hkz⟩ | ⟨hkd, hkz⟩ | ⟨hkd, hkz⟩ | ⟨hkd, hkz⟩
        -- WAYS BEGIN
        · have HNM := Lib.hid HFT.out.name
          have hnm : t.name ≠ [] := HFT.out.named.2 (by omega)
          have hnb : t.name.isEmpty = false := by simpa using hnm
          have h16 : ¬ (16 : Int) < (t.attrs.length : Int) := by have := HFT.out.attrs; omega
          have c0 : ∀ x : Wx (fun w' => Below W1.heap.size W1 w'), x.w.cell? ⟨T, 0, none⟩ = some (.int .u8 1) := fun x => by have := (HC.out.below x.h).c0; rw [hkd] at this; exact this
          have c1 : ∀ x : Wx (fun w' => Below W1.heap.size W1 w'), x.w.cell? ⟨T, 1, none⟩ = some (.string ⟨t.name.toArray⟩) := fun x => by have := (HC.out.below x.h).c1; exact this
          have c2 : ∀ x : Wx (fun w' => Below W1.heap.size W1 w'), x.w.cell? ⟨T, 2, none⟩ = some (.slice aa t.attrs.length ca) := fun x => by have := (HC.out.below x.h).c2; exact this
          have c3 : ∀ x : Wx (fun w' => Below W1.heap.size W1 w'), x.w.cell? ⟨T, 3, none⟩ = some (.bool t.self) := fun x => by have := (HC.out.below x.h).c3; exact this
          have hk0 : decide ((0 : Int) < (k : Int)) = false := by rw [decide_eq_false_iff_not]; omega
          have hk0n : ¬ 0 < k := by omega
          clear hkz hkd HFT HT HA HC HO1 HA1 hnm
          refine wp_region_class (fun w' => Below W1.heap.size W1 w') (by kernel_rfl) (by kernel_rfl) ⟨rfl, rfl, rfl, Nat.le_refl _, fun _ _ => rfl⟩ ?_
          repeat (go_big_quiet_step ((go_at_call 31; exact small_class t.name HNT.out HNM.out _)))
          refine wpQuiet_nil ?_
          rintro w' ⟨x, rfl⟩
          go_wp2_with fail
          go_meet
          exact ⟨rfl, x.h⟩
        · have HNM := Lib.hid HFT.out.name
          have hat : t.attrs.length = 0 := by rw [(HFT.out.bare (by omega)).1]; rfl
          have hsf : t.self = false := (HFT.out.bare (by omega)).2
          have hlo1 : ¬ (t.kind : Int) < 1 := by omega
          have hhi1 : ¬ 5 < (t.kind : Int) := by omega
          have hne1 : ((t.kind : Int) == 1) = false := by rw [beq_eq_false_iff_ne]; omega
          have hne2 : ((t.kind : Int) != 1) = true := by rw [bne_iff_ne]; omega
          obtain ⟨q, hq⟩ : ∃ q, decide ((t.kind : Int) ≤ 2) = q := ⟨_, rfl⟩
          have hq2 : ((t.kind : Int) ≤ 2) = (q = true) := by rw [← hq, decide_eq_true_eq]
          have hnb : t.name.isEmpty = !q := by
            rw [← hq]
            by_cases e : t.kind ≤ 2
            · have := HFT.out.named.2 e; have e2 : (t.kind : Int) ≤ 2 := (by omega); simp [e2, this]
            · have e3 : t.name = [] := Classical.byContradiction fun e1 => e (HFT.out.named.1 e1)
              have e2 : ¬ (t.kind : Int) ≤ 2 := (by omega)
              rw [e3]; simp; omega
          have c0 : ∀ x : Wx (fun w' => Below W1.heap.size W1 w'), x.w.cell? ⟨T, 0, none⟩ = some (.int .u8 (t.kind : Int)) := fun x => by have := (HC.out.below x.h).c0; exact this
          have c1 : ∀ x : Wx (fun w' => Below W1.heap.size W1 w'), x.w.cell? ⟨T, 1, none⟩ = some (.string ⟨t.name.toArray⟩) := fun x => by have := (HC.out.below x.h).c1; exact this
          have c2 : ∀ x : Wx (fun w' => Below W1.heap.size W1 w'), x.w.cell? ⟨T, 2, none⟩ = some (.slice aa 0 ca) := fun x => by have := (HC.out.below x.h).c2; rw [hat] at this; exact this
          have c3 : ∀ x : Wx (fun w' => Below W1.heap.size W1 w'), x.w.cell? ⟨T, 3, none⟩ = some (.bool false) := fun x => by have := (HC.out.below x.h).c3; rw [hsf] at this; exact this
          have hk0 : decide ((0 : Int) < (k : Int)) = false := by rw [decide_eq_false_iff_not]; omega
          have hk0n : ¬ 0 < k := by omega
          clear hkz hkd HFT HT HA HC HO1 HA1 hat hsf
          have HQ := Lib.hid hq
          clear hq
          refine wp_region_class (fun w' => Below W1.heap.size W1 w') (by kernel_rfl) (by kernel_rfl) ⟨rfl, rfl, rfl, Nat.le_refl _, fun _ _ => rfl⟩ ?_
          repeat (go_big_quiet_step ((go_at_call 31; exact small_class t.name HNT.out HNM.out _)))
          refine wpQuiet_nil ?_
          rintro w' ⟨x, rfl⟩
          go_wp2_with fail
          go_meet
          exact ⟨rfl, x.h⟩
        · have HNM := Lib.hid HFT.out.name
          have hnm : t.name ≠ [] := HFT.out.named.2 (by omega)
          have hnb : t.name.isEmpty = false := by simpa using hnm
          have h16 : ¬ (16 : Int) < (t.attrs.length : Int) := by have := HFT.out.attrs; omega
          have c0 : ∀ x : Wx (fun w' => Below W1.heap.size W1 w'), x.w.cell? ⟨T, 0, none⟩ = some (.int .u8 1) := fun x => by have := (HC.out.below x.h).c0; rw [hkd] at this; exact this
          have c1 : ∀ x : Wx (fun w' => Below W1.heap.size W1 w'), x.w.cell? ⟨T, 1, none⟩ = some (.string ⟨t.name.toArray⟩) := fun x => by have := (HC.out.below x.h).c1; exact this
          have c2 : ∀ x : Wx (fun w' => Below W1.heap.size W1 w'), x.w.cell? ⟨T, 2, none⟩ = some (.slice aa t.attrs.length ca) := fun x => by have := (HC.out.below x.h).c2; exact this
          have c3 : ∀ x : Wx (fun w' => Below W1.heap.size W1 w'), x.w.cell? ⟨T, 3, none⟩ = some (.bool t.self) := fun x => by have := (HC.out.below x.h).c3; exact this
          have hk0 : (0 : Int) < (k : Int) := by omega
          have hk0n : 0 < k := hkz
          clear hkz hkd HFT HT HA HC HO1 HA1 hnm
          refine wp_region_class (fun w' => Below W1.heap.size W1 w') (by kernel_rfl) (by kernel_rfl) ⟨rfl, rfl, rfl, Nat.le_refl _, fun _ _ => rfl⟩ ?_
          repeat (go_big_quiet_step ((go_at_call 31; exact small_class t.name HNT.out HNM.out _)))
          refine wpQuiet_nil ?_
          rintro w' ⟨x, rfl⟩
          go_wp2_with fail
          go_meet
          exact ⟨rfl, x.h⟩
        · have HNM := Lib.hid HFT.out.name
          have hat : t.attrs.length = 0 := by rw [(HFT.out.bare (by omega)).1]; rfl
          have hsf : t.self = false := (HFT.out.bare (by omega)).2
          have hlo1 : ¬ (t.kind : Int) < 1 := by omega
          have hhi1 : ¬ 5 < (t.kind : Int) := by omega
          have hne1 : ((t.kind : Int) == 1) = false := by rw [beq_eq_false_iff_ne]; omega
          have hne2 : ((t.kind : Int) != 1) = true := by rw [bne_iff_ne]; omega
          have hne3 : ((t.kind : Int) == 3) = false := by rw [beq_eq_false_iff_ne]; omega
          obtain ⟨q, hq⟩ : ∃ q, decide ((t.kind : Int) ≤ 2) = q := ⟨_, rfl⟩
          have hq2 : ((t.kind : Int) ≤ 2) = (q = true) := by rw [← hq, decide_eq_true_eq]
          have hnb : t.name.isEmpty = !q := by
            rw [← hq]
            by_cases e : t.kind ≤ 2
            · have := HFT.out.named.2 e; have e2 : (t.kind : Int) ≤ 2 := (by omega); simp [e2, this]
            · have e3 : t.name = [] := Classical.byContradiction fun e1 => e (HFT.out.named.1 e1)
              have e2 : ¬ (t.kind : Int) ≤ 2 := (by omega)
              rw [e3]; simp; omega
          have c0 : ∀ x : Wx (fun w' => Below W1.heap.size W1 w'), x.w.cell? ⟨T, 0, none⟩ = some (.int .u8 (t.kind : Int)) := fun x => by have := (HC.out.below x.h).c0; exact this
          have c1 : ∀ x : Wx (fun w' => Below W1.heap.size W1 w'), x.w.cell? ⟨T, 1, none⟩ = some (.string ⟨t.name.toArray⟩) := fun x => by have := (HC.out.below x.h).c1; exact this
          have c2 : ∀ x : Wx (fun w' => Below W1.heap.size W1 w'), x.w.cell? ⟨T, 2, none⟩ = some (.slice aa 0 ca) := fun x => by have := (HC.out.below x.h).c2; rw [hat] at this; exact this
          have c3 : ∀ x : Wx (fun w' => Below W1.heap.size W1 w'), x.w.cell? ⟨T, 3, none⟩ = some (.bool false) := fun x => by have := (HC.out.below x.h).c3; rw [hsf] at this; exact this
          have hk0 : (0 : Int) < (k : Int) := by omega
          have hk0n : 0 < k := hkz
          clear hkz hkd HFT HT HA HC HO1 HA1 hat hsf
          have HQ := Lib.hid hq
          clear hq
          refine wp_region_class (fun w' => Below W1.heap.size W1 w') (by kernel_rfl) (by kernel_rfl) ⟨rfl, rfl, rfl, Nat.le_refl _, fun _ _ => rfl⟩ ?_
          repeat (go_big_quiet_step ((go_at_call 31; exact small_class t.name HNT.out HNM.out _)))
          refine wpQuiet_nil ?_
          rintro w' ⟨x, rfl⟩
          go_wp2_with fail
          go_meet
          exact ⟨rfl, x.h⟩
        · have HNM := Lib.hid HFT.out.name
          have hat : t.attrs.length = 0 := by rw [(HFT.out.bare (by omega)).1]; rfl
          have hsf : t.self = false := (HFT.out.bare (by omega)).2
          have hnm : t.name = [] := Classical.byContradiction fun e => by have := HFT.out.named.1 e; omega
          have c0 : ∀ x : Wx (fun w' => Below W1.heap.size W1 w'), x.w.cell? ⟨T, 0, none⟩ = some (.int .u8 3) := fun x => by have := (HC.out.below x.h).c0; rw [hkd] at this; exact this
          have c1 : ∀ x : Wx (fun w' => Below W1.heap.size W1 w'), x.w.cell? ⟨T, 1, none⟩ = some (.string ⟨#[]⟩) := fun x => by have := (HC.out.below x.h).c1; rw [hnm] at this; exact this
          have c2 : ∀ x : Wx (fun w' => Below W1.heap.size W1 w'), x.w.cell? ⟨T, 2, none⟩ = some (.slice aa 0 ca) := fun x => by have := (HC.out.below x.h).c2; rw [hat] at this; exact this
          have c3 : ∀ x : Wx (fun w' => Below W1.heap.size W1 w'), x.w.cell? ⟨T, 3, none⟩ = some (.bool false) := fun x => by have := (HC.out.below x.h).c3; rw [hsf] at this; exact this
          have hk0 : (0 : Int) < (k : Int) := by omega
          have hk0n : 0 < k := hkz
          obtain ⟨pk, hpk, hp3⟩ : ∃ pk : Nat, W1.cell? ⟨g1, (k - 1) * 5, none⟩ = some (.int .u8 (pk : Int)) ∧ pk ≠ 3 := prev_kind HO1.out HA.out HT.out hkd hkz
          have hp3b : ((pk : Int) == 3) = false := by rw [beq_eq_false_iff_ne]; omega
          have hsub : IntKind.i64.wrap ((k : Int) - 1) = ((k - 1 : Nat) : Int) := by rw [IntKind.wrap_i64]; omega
          have hsubn : ((k - 1 : Nat) : Int).toNat = k - 1 := by omega
          have hlt1 : ((k - 1 : Nat) : Int) < (ts.length : Int) := by omega
          have hge1 : (0 : Int) ≤ ((k - 1 : Nat) : Int) := by omega
          have c5 : ∀ x : Wx (fun w' => Below W1.heap.size W1 w'), x.w.cell? ⟨g1, (k - 1) * 5, none⟩ = some (.int .u8 (pk : Int)) := fun x => (World.cell?_of_block (x.h.block g1 hg1lt)).trans hpk
          clear hkz hkd HFT HT HA HC HO1 HA1 hnm hat hsf hpk hp3
          refine wp_region_class (fun w' => Below W1.heap.size W1 w') (by kernel_rfl) (by kernel_rfl) ⟨rfl, rfl, rfl, Nat.le_refl _, fun _ _ => rfl⟩ ?_
          repeat (go_big_quiet_step ((go_at_call 31; exact small_class [] (by simp) rfl _)))
          refine wpQuiet_nil ?_
          rintro w' ⟨x, rfl⟩
          go_wp2_with fail
          go_meet
          exact ⟨rfl, x.h⟩
        -- WAYS END
      case rest =>
        obtain ⟨hf80, HBX⟩ := hcut
        subst hf80
        have HCX := Lib.hid (HC.out.below HBX.out)
        have HAX := Lib.hid (own_below HA1.out HBX.out)
        have HBW := Lib.hid (HB1.out.trans (HBX.out.mono HB1.out.size))
        have c2 := HCX.out.c2
        have h16 := HFT.out.attrs
        clear HC HA1 HB1 HO1 HBX HT HA HNT
        go_wp2_with fail
        go_loopg [5] t.attrs.length (fun q i wx => ∃ m n : Nat, i = .int .i64 (m : Int) ∧ m + q = t.attrs.length ∧ wx = wc.drewN n)
        case atStart => exact ⟨0, 0, rfl, by omega, rfl⟩
        case round =>
          obtain ⟨m, n, rfl, hmq, rfl⟩ := hrel
          by_cases hm : m < t.attrs.length
          · obtain ⟨q, rfl⟩ : ∃ q, gk = q + 1 := ⟨gk - 1, by omega⟩
            have hmi : (m : Int) < (t.attrs.length : Int) := by omega
            go_wp2_with fail
            go_loopg [6] m (fun q2 j wy => ∃ m2 n2 : Nat, j = .int .i64 (m2 : Int) ∧ m2 + q2 = m ∧ wy = wc.drewN n2)
            case atStart => exact ⟨0, n, rfl, by omega, rfl⟩
            case round =>
              obtain ⟨m2, n2, rfl, hmq2, rfl⟩ := hrel
              by_cases hm2 : m2 < m
              · obtain ⟨q2, rfl⟩ : ∃ q2, gk = q2 + 1 := ⟨gk - 1, by omega⟩
                have hmi2 : (m2 : Int) < (m : Int) := by omega
                have hmi3 : (m2 : Int) < (t.attrs.length : Int) := by omega
                obtain ⟨ga, rfl, d0, d1⟩ := attr_at HAX.out m2 (by omega)
                obtain ⟨gb, hgb, d2, d3⟩ := attr_at HAX.out m hm
                obtain rfl : ga = gb := by injection hgb with h; injection h
                obtain ⟨x, hx⟩ : ∃ x, t.attrs[m2]'(by omega) = x := ⟨_, rfl⟩
                obtain ⟨y, hy⟩ : ∃ y, t.attrs[m] = y := ⟨_, rfl⟩
                have hne : (x.name == y.name) = false := by
                  rw [beq_eq_false_iff_ne]
                  exact HFT.out.apart m2 m x y (by rw [← hx]; exact List.getElem?_eq_getElem _) (by rw [← hy]; exact List.getElem?_eq_getElem _) hm2
                rw [hx] at d0
                rw [hy] at d2
                clear hx hy d1 d3 hgb
                go_wp2_with fail
                go_quiet (fail)
                go_wp2_with fail
                go_roundg q2
                case measure => omega
                case rel => exact ⟨m2 + 1, _, by simp, by omega, rfl⟩
              · have hmi2 : ¬ (m2 : Int) < (m : Int) := by omega
                go_wp2_with fail
                go_roundg q
                case measure => omega
                case rel => exact ⟨m + 1, n2, by simp, by omega, rfl⟩
          · have hmi : ¬ (m : Int) < (t.attrs.length : Int) := by omega
            go_wp2_with fail
            go_roundg g
            case measure => omega
            case rel => exact ⟨k + 1, by simp, by omega, HBW.out.trans ⟨rfl, rfl, rfl, Nat.le_refl _, fun _ _ => rfl⟩⟩
    · have hki : ¬ (k : Int) < (ts.length : Int) := by omega
      go_wp2
      go_ret
      exact ⟨rfl, HB.out⟩
end Go.Proofs.YtaohdicilfabeaaGreatDoor

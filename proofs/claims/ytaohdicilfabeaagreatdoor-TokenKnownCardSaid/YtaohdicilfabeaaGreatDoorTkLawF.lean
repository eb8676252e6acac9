/- TokenKnown, walked: the closed law answers true. -/
import Derived.Test.YtaohdicilfabeaaGreatDoorTkLawE
import Derived.Test.YtaohdicilfabeaaGreatDoorTkLawD
namespace Go.Proofs.YtaohdicilfabeaaGreatDoor
open Go.RowKit
set_option linter.unusedVariables false
set_option linter.unusedSimpArgs false

/-- A region's operations, where it stands in a body. -/
def regionAt (id : Nat) : Code → Option (Array Oper)
  | .region i ops _ => if i = id then some ops else none
  | .seq a b => match regionAt id a with
    | some o => some o
    | none => regionAt id b
  | .cond _ a b => match regionAt id a with
    | some o => some o
    | none => regionAt id b
  | .block _ b => regionAt id b
  | .loop b => regionAt id b
  | .scope b => regionAt id b
  | _ => none
/-- The law's own examples: the constants of its literal, as the program has them. -/
def litPart (p : Nat × Operand) : Value := match p.2 with
  | .const v => v
  | _ => .bool false
def litParts (o : Oper) : List Value := match o.op with
  | .buildSlice _ _ parts => parts.toList.map litPart
  | _ => []
noncomputable def knownCells : List Value := match Tryz.f4.body.bind (regionAt 1) with
  | some ops => match ops[0]? with
    | some o => litParts o
    | none => []
  | none => []
def isShort : Value → Bool
  | .string b => decide (b.size ≤ 1000)
  | _ => false
theorem known_len : knownCells.length = 70 := by kernel_rfl
theorem known_short : knownCells.all isShort = true := by kernel_rfl
theorem known_at (i : Nat) (h : i < 70) : ∃ b : ByteArray, knownCells[i]? = some (.string b) ∧ b.size ≤ 1000 := by
  have h1 : i < knownCells.length := by rw [known_len]; exact h
  have h2 := List.all_eq_true.1 known_short _ (List.getElem_mem h1)
  rw [List.getElem?_eq_getElem h1]
  cases hv : knownCells[i] with
  | string b => rw [hv] at h2; exact ⟨b, rfl, by simpa [isShort] using h2⟩
  | _ => rw [hv] at h2; cases h2

set_option maxRecDepth 100000 in
set_option maxHeartbeats 8000000 in
theorem tokenKnown_any (w : World) (hgl : Gl nmT otT w) :
    Calls Tryz.prog 4 #[] w (LawPost w) := by
  have HGL := Lib.hid hgl
  have h5 := hgl.lt
  clear hgl
  go_enter Tryz.func4, Tryz.ntmps4
  go_wp2_with fail
  generalize hW : World.alloc w _ = W
  have bK : W.heap[w.heap.size]? = some (.cells knownCells.toArray 9 (0, 0)) := by
    rw [← hW]; exact (bN w _).trans (congrArg (fun c => some (Obj.cells c 9 (0, 0))) (by kernel_rfl))
  have HB : Hid (Below w.heap.size w W) := by show Below _ _ _; rw [← hW]; exact (Below.refl w.heap.size w).alloc (Nat.le_refl _) _
  clear hW
  obtain ⟨G, hG⟩ : ∃ G, w.heap.size = G := ⟨_, rfl⟩
  rw [hG] at bK ⊢
  have HG := Lib.hid hG
  clear hG
  go_wp2_with fail
  go_loopg [2] 70 (fun g v wr => ∃ i : Nat, v = .int .i64 (i : Int) ∧ i + g = 70 ∧ Hid (Below W.heap.size W wr))
  case atStart => exact ⟨0, rfl, rfl, Below.refl _ _⟩
  case round =>
    obtain ⟨i, rfl, hig, X⟩ := hrel
    by_cases hi : i < 70
    · obtain ⟨g, rfl⟩ : ∃ g, gk = g + 1 := ⟨gk - 1, by omega⟩
      have hii : (i : Int) < 70 := by omega
      obtain ⟨b1, hb1, hs1⟩ := known_at i hi
      obtain ⟨j, hj⟩ : ∃ j, (i * 7 + 3) % 70 = j := ⟨_, rfl⟩
      obtain ⟨b2, hb2, hs2⟩ := known_at j (by omega)
      have HS1 : Hid (b1.size ≤ 140737488351232) := by show b1.size ≤ _; omega
      have HS2 : Hid (b2.size ≤ 140737488351232) := by show b2.size ≤ _; omega
      have HGX := Lib.hid (HGL.out.below (HB.out.trans (X.out.mono HB.out.size)) h5)
      have bX := bB bK X.out
      have c1 : ∀ x : Wx (fun w' => Below wr.heap.size wr w'), x.w.cell? ⟨G, i, none⟩ = some (.string b1) := fun x => by rw [blk_cell (bB bX x.h)]; simpa using hb1
      have c2 : ∀ x : Wx (fun w' => Below wr.heap.size wr w'), x.w.cell? ⟨G, j, none⟩ = some (.string b2) := fun x => by rw [blk_cell (bB bX x.h)]; simpa using hb2
      have reads : Hid (∀ x : Wx (fun w' => Below wr.heap.size wr w'), Calls Tryz.prog 3 #[.string b1] x.w fun e w'' => e = .returned (.bool true) ∧ ∃ y : Wx (fun w' => Below wr.heap.size wr w'), w'' = y.w) := fun x =>
        (tokenReads_any b1 x.w (HGX.out.below x.h HGX.out.lt) HS1.out).mono fun _ w'' ⟨he, hb⟩ => ⟨he, ⟨w'', x.h.trans (hb.mono x.h.size)⟩, rfl⟩
      have parts : Hid (∀ (a b : ByteArray), a.size ≤ 140737488351232 → b.size ≤ 140737488351232 → ∀ x : Wx (fun w' => Below wr.heap.size wr w'), Calls Tryz.prog 9 #[.string a, .string b] x.w fun e w'' => e = .returned (.bool true) ∧ ∃ y : Wx (fun w' => Below wr.heap.size wr w'), w'' = y.w) := fun a b ha hb x =>
        (tokenParts_any a b x.w (HGX.out.below x.h HGX.out.lt) ha hb).mono fun _ w'' ⟨he, hb⟩ => ⟨he, ⟨w'', x.h.trans (hb.mono x.h.size)⟩, rfl⟩
      have hsz := X.out.size
      have hm1 : IntKind.i64.wrap ((i : Int) * 7) = (i : Int) * 7 := by rw [IntKind.wrap_i64]; omega
      have hm2 : IntKind.i64.wrap ((i : Int) * 7 + 3) = (i : Int) * 7 + 3 := by rw [IntKind.wrap_i64]; omega
      have hm3 : ((i : Int) * 7 + 3).tmod 70 = (j : Int) := by rw [Int.tmod_eq_emod_of_nonneg (by omega)]; omega
      have hjj : (j : Int) < 70 := by omega
      clear hb1 hb2 hs1 hs2 hj bX
      go_upto_region 5 with (fail)
      refine wp_region_class (fun w' => Below wr.heap.size wr w') (by kernel_rfl) (by kernel_rfl) ⟨rfl, rfl, rfl, Nat.le_refl _, fun _ _ => rfl⟩ ?_
      repeat (go_big_quiet_step ((first | (go_at_call 3; exact reads.out _) | (go_at_call 9; refine parts.out _ _ ?_ ?_ _ <;> first | with_reducible exact HS1.out | with_reducible exact HS2.out | decide))))
      refine wpQuiet_nil ?_
      rintro w' ⟨x, rfl⟩
      go_wp2_with fail
      go_roundg g
      case measure => omega
      case rel => exact ⟨i + 1, rfl, by omega, X.out.trans (x.h.mono X.out.size)⟩
    · have hii : ¬ (i : Int) < 70 := by omega
      have HB1 := Lib.hid (HB.out.trans (X.out.mono HB.out.size))
      have hsz := HB1.out.size
      clear X bK HB
      obtain ⟨N, hN⟩ : ∃ N : Nat, N = 65537 := ⟨_, rfl⟩
      have HN := Lib.hid hN
      have hNs : N ≤ 70000 := by omega
      clear hN
      obtain ⟨i0, hi0, hz0, hz1, hz2⟩ := info_parts u8Info
      go_wp2_with (at_make; refine wpList_make_full _ rfl _ _ 39 rfl w.heap.size 5 i0 (.int .u8 0) 1 Tryz.underlying39 hi0 hz0 hz1 .i64 .i64 _ _ N rfl rfl (by have := HN.out; omega) (by have := HN.out; omega) (by rw [hz2]; omega) (by unfold maxLen; omega) hsz ?_; intro w2 hown2 hgrow2)
      have hb0 : ∃ cs : Array Value, w2.heap[wr.heap.size]? = some (.cells cs 5 (0, 0)) ∧ cs.size = N := by
        rcases hown2.2 with ⟨h, h0⟩ | ⟨g, cap, cur, hv, _, hh, _, _, hc, _⟩
        · have := HN.out; omega
        · injection hv with h1 h2 h3
          injection h1 with h1; injection h1 with h1
          subst h1; subst h3
          exact ⟨cur, hh, by omega⟩
      have HB2 : Hid (Below w.heap.size w w2) := HB1.out.grown hgrow2 hsz (fun k hk => by cases hk)
      obtain ⟨B, hB⟩ : ∃ B, wr.heap.size = B := ⟨_, rfl⟩
      rw [hB] at hb0 hsz ⊢
      have HB0 := Lib.hid hb0
      clear hB hown2 hgrow2 HB1 hb0 hz0 hz1 hz2 hi0
      go_wp2_with fail
      go_loopg [4] N (fun g v wx => ∃ i : Nat, v = .int .i64 (i : Int) ∧ i + g = N ∧ Hid (Below w.heap.size w wx) ∧ Hid (∃ cs : Array Value, wx.heap[B]? = some (.cells cs 5 (0, 0)) ∧ cs.size = N ∧ ∀ j, j < i → cs[j]? = some (.int .u8 97)))
      case atStart => exact ⟨0, rfl, by omega, HB2, by obtain ⟨cs, h1, h2⟩ := HB0.out; exact ⟨cs, h1, h2, fun j hj => absurd hj (by omega)⟩⟩
      case round =>
        clear HB0 HB2 hig hi hii
        obtain ⟨i, rfl, hig, X, Y⟩ := hrel
        obtain ⟨cs, hb, hcs, hall⟩ := Y.out
        have HALL := Lib.hid hall
        clear Y hall
        by_cases hi : i < N
        · obtain ⟨g, rfl⟩ : ∃ g, gk = g + 1 := ⟨gk - 1, by omega⟩
          have hii : (i : Int) < (N : Int) := by omega
          have d0 : wr.cell? ⟨B, i, none⟩ = some (cs[i]'(by omega)) := by rw [blk_cell hb]; exact Array.getElem?_eq_getElem _
          obtain ⟨x0, hx0⟩ : ∃ x, cs[i]'(by omega) = x := ⟨_, rfl⟩
          rw [hx0] at d0
          have f0 := blk_free hb i
          have X2 := Lib.hid (X.out.setCell (p := ⟨B, i, none⟩) hsz (.int .u8 97))
          have Y2 : Hid (∃ cs : Array Value, (wr.setCell ⟨B, i, none⟩ (.int .u8 97)).heap[B]? = some (.cells cs 5 (0, 0)) ∧ cs.size = N ∧ ∀ j, j < i + 1 → cs[j]? = some (.int .u8 97)) := by
            refine ⟨_, blk_set hb i _, by simpa using hcs, fun j hj => ?_⟩
            rw [Array.getElem?_setIfInBounds]
            by_cases hij : i = j
            · subst hij; rw [if_pos rfl, if_pos (by omega)]
            · rw [if_neg hij]; exact HALL.out j (by omega)
          clear hx0 hb X HALL
          go_wp2_with fail
          go_roundg g
          case measure => omega
          case rel => exact ⟨i + 1, rfl, by omega, X2, Y2⟩
        · have hii : ¬ (i : Int) < (N : Int) := by omega
          have hiN : i = N := by omega
          subst hiN
          have HNs : Hid (i ≤ 65537 ∧ 2 ≤ i) := by show _ ∧ _; have := HN.out; omega
          have cell : ∀ (W : World), Below wr.heap.size wr W → ∀ j, j < i → W.cell? ⟨B, j, none⟩ = some (.int .u8 97) := fun W hW j hj => by rw [blk_cell (bB hb hW)]; exact HALL.out j hj
          have HCELL := Lib.hid cell
          obtain ⟨L1, hL1⟩ : ∃ L1, List.replicate (i - 1) (97 : UInt8) = L1 := ⟨_, rfl⟩
          obtain ⟨L2, hL2⟩ : ∃ L2, List.replicate i (97 : UInt8) = L2 := ⟨_, rfl⟩
          have hl1 : L1.length = i - 1 := by rw [← hL1, List.length_replicate]
          have hl2 : L2.length = i := by rw [← hL2, List.length_replicate]
          have ha1 : ∀ x ∈ L1, x = 97 := fun x hx => by rw [← hL1] at hx; exact (List.mem_replicate.1 hx).2
          have hg1 : ∀ j (hj : j < L1.length), L1[j] = 97 := fun j hj => ha1 _ (List.getElem_mem hj)
          have hg2 : ∀ j (hj : j < L2.length), L2[j] = 97 := fun j hj => by
            have hx := List.getElem_mem hj
            have hy : ∀ x ∈ L2, x = 97 := fun x hx => by rw [← hL2] at hx; exact (List.mem_replicate.1 hx).2
            exact hy _ hx
          clear hL1 hL2
          have hback1 := run_convert_bytes_back (P := Tryz.prog) wr 39 9 5 ⟨B, 1, none⟩ (i - 1) L1 Tryz.underlying39 Tryz.underlying5 Tryz.underlying9 (fun j hj => by
            have e : (⟨B, 1, none⟩ : Addr).add j = ⟨B, 1 + j, none⟩ := by unfold Addr.add; split <;> simp_all
            rw [e, HCELL.out wr (Below.refl _ _) (1 + j) (by omega), hg1 j hj]; rfl)
          have hb2 : ∀ W : World, Below wr.heap.size wr W → (convert 39 9 (.slice (some ⟨B, 0, none⟩) i i)).run Tryz.prog W = .ok (.string ⟨L2.toArray⟩) W := fun W hW => by
            have h := run_convert_bytes_back (P := Tryz.prog) W 39 9 5 ⟨B, 0, none⟩ i L2 Tryz.underlying39 Tryz.underlying5 Tryz.underlying9 (fun j hj => by
              rw [add_at, HCELL.out W hW j (by omega), hg2 j hj]; rfl)
            rw [hl2] at h; exact h
          have HBACK2 := Lib.hid hb2
          have hs2 : (⟨L2.toArray⟩ : ByteArray).size ≤ 140737488351232 := by show L2.toArray.size ≤ _; rw [List.size_toArray]; omega
          have HS2 := Lib.hid hs2
          rw [hl1] at hback1
          have h1i : (1 : Int) < (i : Int) := by have := HNs.out.2; omega
          have h1j : (1 : Int) ≤ (i : Int) := by omega
          have h1n : i ≠ 1 := by omega
          have HT : Hid (Tk.tokens decT L1 = ([⟨3, [], [], false, L1⟩], 0, 0)) := Tk.plain_tokens (Tk.dec_free false (fun x hx => by rw [ha1 x hx]; decide)) (by have := HNs.out.1; omega) (fun x hx => by rw [ha1 x hx]; decide) (by intro h; rw [h, List.length_nil] at hl1; omega)
          have HX := Lib.hid X.out
          have HGX := Lib.hid (HGL.out.below X.out h5)
          have htoks := toks_any ⟨L1.toArray⟩ L1 (by simp) wr HGX.out
          clear cell hb HALL hi X hs2 hb2 hg1 hg2 ha1 hl1 hl2
          go_wp2_with fail
          refine htoks.mono ?_
          clear htoks hback1
          rintro e w5 ⟨hb5, v5, ts5, er5, ps5, rfl, ht5, ho5⟩
          rw [HT.out] at ht5
          obtain ⟨rfl, rfl, rfl⟩ : _ = ts5 ∧ 0 = er5 ∧ 0 = ps5 := by
            injection ht5 with h1 h2; injection h2 with h2 h3; exact ⟨h1, h2, h3⟩
          obtain ⟨a5, c5, rfl⟩ := ho5.shape
          have hback2 := HBACK2.out w5 hb5
          have HB5 := Lib.hid (HX.out.trans (hb5.mono HX.out.size))
          have hreads := tokenReads_any ⟨L2.toArray⟩ w5 (HGL.out.below HB5.out h5) HS2.out
          clear ht5 ho5 hb5
          go_wp2_with fail
          refine hreads.mono ?_
          clear hreads hback2
          rintro e w6 ⟨rfl, hb6⟩
          have HB6 := Lib.hid (HB5.out.trans (hb6.mono HB5.out.size))
          clear hb6
          go_wp2_with fail
          refine (works_law w _ HGL.out HB6.out).mono ?_
          rintro e w7 ⟨rfl, hw⟩
          have HW := Lib.hid hw
          clear hw
          go_wp2
          go_ret
          exact ⟨rfl, HW.out⟩
end Go.Proofs.YtaohdicilfabeaaGreatDoor

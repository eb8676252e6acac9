/- The reader's comment, walked. -/
import Derived.Test.YtaohdicilfabeaaGreatDoorTkMark
import Derived.Lib.IndexMore
namespace Go.Proofs.YtaohdicilfabeaaGreatDoor
open Go.RowKit

/-- Cut's contract at a list. -/
theorem cut_s (l sub : List UInt8) (m : Int) (w : World) (hs : l.length ≤ 1000000) (hm : w.cell? ⟨0, 0, none⟩ = some (.int .i64 m)) :
    Calls Tryz.prog 36 #[.string ⟨l.toArray⟩, .string ⟨sub.toArray⟩] w fun e w' => e = .returned (.tuple #[str (Lib.cut l sub).1, str (Lib.cut l sub).2.1, .bool (Lib.cut l sub).2.2]) ∧ ∃ n, w' = w.drewN n :=
  cut_any ⟨l.toArray⟩ ⟨sub.toArray⟩ m w (by show l.toArray.size < _; simp; omega) hm
theorem index_s (l sub : List UInt8) (m : Int) (w : World) (hs : l.length ≤ 1000000) (hm : w.cell? ⟨0, 0, none⟩ = some (.int .i64 m)) :
    Calls Tryz.prog 37 #[.string ⟨l.toArray⟩, .string ⟨sub.toArray⟩] w fun e w' => e = .returned (.int .i64 (Lib.index l sub)) ∧ w = w' :=
  index_any ⟨l.toArray⟩ ⟨sub.toArray⟩ m w (by show l.toArray.size < _; simp; omega) hm
theorem hasPrefix_s (l sub : List UInt8) (w : World) :
    Calls Tryz.prog 21 #[.string ⟨l.toArray⟩, .string ⟨sub.toArray⟩] w fun e w' => e = .returned (.bool (Lib.hasPrefix l sub)) ∧ w = w' := hasPrefix_any ⟨l.toArray⟩ ⟨sub.toArray⟩ w
theorem hasSuffix_s (l sub : List UInt8) (w : World) (hs : l.length ≤ 1000000) :
    Calls Tryz.prog 38 #[.string ⟨l.toArray⟩, .string ⟨sub.toArray⟩] w fun e w' => e = .returned (.bool (Lib.hasSuffix l sub)) ∧ w = w' := hasSuffix_any ⟨l.toArray⟩ ⟨sub.toArray⟩ w (by show l.toArray.size ≤ _; simp; omega)
theorem bN' (w : World) (o : Obj) (g : Nat) (h : w.heap.size = g) : (w.alloc o).heap[g]? = some o := by subst h; exact heap_alloc_new w o
theorem pre_take {l sub : List UInt8} {n : Nat} (h : Lib.hasPrefix (l.take n) sub = true) : Lib.hasPrefix l sub = true := by
  unfold Lib.hasPrefix at *
  exact List.isPrefixOf_iff_prefix.2 ((List.isPrefixOf_iff_prefix.1 h).trans (List.take_prefix n l))

set_option maxRecDepth 100000 in
set_option maxHeartbeats 2000000 in
theorem comment_any {nm : List (List UInt8 × Int × Bool)} {ot : List Int} (B R : Nat) (s : ByteArray) (p : Nat) (l : List UInt8) (v : Value) (ts : List Tk.Tok) (w : World) (h : Sta w B R s ts w p l v) (hgl : Gl nm ot w) (hB5 : 5 ≤ B) (h4 : 4 ≤ l.length) (hs : s.size ≤ 1000000) (hts : ts.length ≤ 1000000) :
    Calls Tryz.prog 22 #[.pointer (some ⟨R, 0, none⟩)] w (StepPost B R s ts (Tk.comment (l.drop 4)) w) := by
  have hle := h.rs.le
  have hle2 : l.length ≤ s.size := by have := h.rs.len; omega
  have k1 := h.rs.rd.c1
  have kf := h.rs.rd.free 1
  have S1 := h.add 4 h4 ((p : Int) + 4) rfl
  have hgl1 := Lib.hid (S1.gl hgl hB5)
  clear h
  obtain ⟨L, hL⟩ : ∃ L, l.drop 4 = L := ⟨_, rfl⟩
  have hL2 : L.length ≤ s.size := by rw [← hL, List.length_drop]; omega
  rw [hL] at S1 ⊢
  clear hL
  go_enter Tryz.func22, Tryz.ntmps22
  go_wp2_with fail
  clear k1 kf
  generalize w.setCell ⟨R, 1, none⟩ (.int .i64 ((p : Int) + 4)) = w1 at *
  refine (rest_s R s _ L v _ (by exact S1.rs) hs).mono ?_
  rintro e w2 ⟨rfl, n2, rfl⟩
  obtain ⟨m, hm⟩ := hgl1.out.maxLen
  go_wp2_with fail
  refine (cut_s L [45, 45, 62] m _ (by omega) (by exact hm)).mono ?_
  rintro e w3 ⟨rfl, n3, rfl⟩
  by_cases hi : 0 ≤ Lib.index L [45, 45, 62]
  · obtain ⟨i, hii⟩ : ∃ i : Nat, Lib.index L [45, 45, 62] = i := ⟨(Lib.index L [45, 45, 62]).toNat, by omega⟩
    have hc : Lib.cut L [45, 45, 62] = (L.take i, L.drop (i + 3), true) := by unfold Lib.cut; rw [if_pos hi, hii]; rfl
    have hroom := Lib.index_room L [45, 45, 62] hi
    rw [hii] at hroom
    have hroom' : i + 3 ≤ L.length := by simp at hroom; omega
    rw [hc]
    have HC : Hid (Tk.comment L = if Lib.hasPrefix L [62] = true ∨ Lib.hasPrefix L [45, 62] = true then .inl 43 else if 0 ≤ Lib.index (L.take i) [45, 45, 33, 62] ∨ 0 ≤ Lib.index (L.take i) [60, 33, 45, 45] ∨ Lib.hasSuffix (L.take i) [60, 33, 45] = true then .inl 43 else .inr (⟨4, [], [], false, L.take i⟩, L.drop (i + 3))) := by
      show Tk.comment L = _
      unfold Tk.comment
      rw [hii]
      have e : ¬ ((i : Int) < 0) := by omega
      have e2 : (L.take i).length = i := by rw [List.length_take]; omega
      simp only [e, false_or, Int.toNat_natCast, e2]
    clear hi hii hc hroom
    obtain ⟨V, hV⟩ : ∃ V, L.take i = V := ⟨_, rfl⟩
    have hVl : V.length = i := by rw [← hV, List.length_take]; omega
    have HVL := Lib.hid hVl
    have HP1 : Hid (Lib.hasPrefix V [62] = true → Lib.hasPrefix L [62] = true) := fun h => pre_take (by rw [hV]; exact h)
    have HP2 : Hid (Lib.hasPrefix V [45, 62] = true → Lib.hasPrefix L [45, 62] = true) := fun h => pre_take (by rw [hV]; exact h)
    have hVs : V.length ≤ 1000000 := by omega
    rw [hV] at HC ⊢
    clear hV hVl
    have HE : Hid ((Lib.hasPrefix V [62] = true ∨ Lib.hasPrefix V [45, 62] = true ∨ Lib.hasPrefix L [62] = true ∨ Lib.hasPrefix L [45, 62] = true ∨ 0 ≤ Lib.index V [45, 45, 33, 62] ∨ 0 ≤ Lib.index V [60, 33, 45, 45] ∨ Lib.hasSuffix V [60, 33, 45] = true) → Tk.comment L = .inl 43) := by
      intro h
      rw [HC.out]
      by_cases hp : Lib.hasPrefix L [62] = true ∨ Lib.hasPrefix L [45, 62] = true
      · rw [if_pos hp]
      · rw [if_neg hp]
        rcases h with h | h | h | h | h
        · exact absurd (.inl (HP1.out h)) hp
        · exact absurd (.inr (HP2.out h)) hp
        · exact absurd (.inl h) hp
        · exact absurd (.inr h) hp
        · rw [if_pos h]
    simp only [str]
    by_cases hbad : 0 ≤ Lib.index V [45, 45, 33, 62] ∨ 0 ≤ Lib.index V [60, 33, 45, 45] ∨ Lib.hasSuffix V [60, 33, 45] = true
    · have HBAD := Lib.hid hbad
      have hE2 := Lib.hid (HE.out (.inr (.inr (.inr (.inr hbad)))))
      by_cases a1 : 0 ≤ Lib.index V [45, 45, 33, 62]
      all_goals by_cases a2 : 0 ≤ Lib.index V [60, 33, 45, 45]
      all_goals by_cases a3 : Lib.hasSuffix V [60, 33, 45] = true
      all_goals try (exfalso; rcases hbad with h | h | h; exact a1 h; exact a2 h; exact a3 h)
      all_goals clear hbad
      all_goals
        go_wp2_with (first
          | (go_at_call 21; refine (hasPrefix_s _ _ _).mono ?_; rintro e w' ⟨rfl, rfl⟩)
          | (go_at_call 16; refine (rest_s R s (p + 4) L v _ (by exact S1.rs.drews _) hs).mono ?_; rintro e w' ⟨rfl, n4, rfl⟩)
          | (go_at_call 37; refine (index_s _ _ m _ hVs (by exact hm)).mono ?_; rintro e w' ⟨rfl, rfl⟩)
          | (go_at_call 38; refine (hasSuffix_s _ _ _ hVs).mono ?_; rintro e w' ⟨rfl, rfl⟩))
      all_goals go_ret
      all_goals exact .err (S1.drews _).bel 43 (by decide) hE2.out rfl
    · have b1 : Lib.index V [45, 45, 33, 62] < 0 := by omega
      have b2 : Lib.index V [60, 33, 45, 45] < 0 := by omega
      have b3 : Lib.hasSuffix V [60, 33, 45] = false := by
        rw [Bool.eq_false_iff]; intro h; exact hbad (.inr (.inr h))
      have HBAD := Lib.hid hbad
      clear hbad
      have k1 := S1.rs.rd.c1
      have kf := S1.rs.rd.free 1
      have hb8 : i + 3 ≤ L.length := hroom'
      have hp4 := S1.rs.le
      have hl4 := S1.rs.len
      have hii : (i : Int) = (V.length : Int) := by rw [HVL.out]
      have HI := Lib.hid hii
      clear hii
      have k2 := S1.rs.rd.c2
      have hBw := S1.base
      have hRw := blk_lt S1.rs.rd
      have hai : V.length + 3 ≤ L.length := by rw [HVL.out]; exact hroom'
      have S2 := Lib.hid (fun k => (S1.drews k).add (V.length + 3) hai (((p : Int) + 4) + ((V.length : Int) + 3)) (by omega))
      obtain ⟨avs, hal, hao, haa⟩ := S1.own
      have A2 := Lib.hid (fun k => own_far (w := w1.drewN k) hao (gS (gRefl (w1.drewN k) (some R)) R 1 (.int .i64 (((p : Int) + 4) + ((V.length : Int) + 3))) (.inl rfl)) S1.rs.rd (by decide))
      have A3 := Lib.hid (fun k => fun (i : Nat) t av (h1 : ts[i]? = some t) (h2 : avs[i]? = some av) => own_far (w := w1.drewN k) (haa i t av h1 h2) (gS (gRefl (w1.drewN k) (some R)) R 1 (.int .i64 (((p : Int) + 4) + ((V.length : Int) + 3))) (.inl rfl)) S1.rs.rd (by decide))
      clear hao haa
      obtain ⟨i0, hi0, hz0, hz1, hz2⟩ := info_parts tokInfo
      have tok1 : True := trivial
      go_wp2_with (first
          | (go_at_call 21; refine (hasPrefix_s _ _ _).mono ?_; rintro e w' ⟨rfl, rfl⟩)
          | (go_at_call 16; refine (rest_s R s (p + 4) L v _ (by exact S1.rs.drews _) hs).mono ?_; rintro e w' ⟨rfl, n4, rfl⟩)
          | (go_at_call 37; refine (index_s _ _ m _ hVs (by exact hm)).mono ?_; rintro e w' ⟨rfl, rfl⟩)
          | (go_at_call 38; refine (hasSuffix_s _ _ _ hVs).mono ?_; rintro e w' ⟨rfl, rfl⟩)
          | (at_builtin; refine wpList_append_lies _ (by rfl) _ _ _ (by rfl) B 33 i0 _ 5 72 Tryz.underlying23 hi0 hz0 hz1 hz2 rfl (by omega) v ts.length (tokCells ts avs) (by rfl) (by exact (A2.out _).alloc _) ⟨w1.heap.size, 0, none⟩ 1 1 (tokCell ⟨4, [], [], false, V⟩ (.slice none 0 0)) (by rfl) (by rfl) (by exact World.news_of_block (bN' _ _ _ (by simp))) (by simp [tokCell, str, Value.oneCell']) (by omega) (by unfold maxLen; omega) (by omega) (by simp; omega) (w1.heap.size + 1) (by simp) ?_; intro gg cap w7 hown7 hgrow7 _ _; have hR7 := Sta.appended (S2.out _) (A2.out _) hgrow7; have d2 := hR7.c2; have g2 := hR7.free 2))
      all_goals go_ret
      · exact .err (S1.drews _).bel 43 (by decide) (HE.out (.inl ‹_›)) rfl
      · exact .err (S1.drews _).bel 43 (by decide) (HE.out (.inr (.inl ‹_›))) rfl
      · exact .err (S1.drews _).bel 43 (by decide) (HE.out (.inr (.inr (.inl ‹_›)))) rfl
      · exact .err (S1.drews _).bel 43 (by decide) (HE.out (.inr (.inr (.inr (.inl ‹_›))))) rfl
      · have c3 : ¬ Lib.hasPrefix L [62] = true := by assumption
        have c4 : Lib.hasPrefix L [45, 62] = false := by assumption
        exact (S2.out _).done (t := ⟨4, [], [], false, V⟩) (av := .slice none 0 0) hal (A2.out _) (A3.out _) (World.ownsRow_nil _ _ _ _) hgrow7 hown7 (by
          rw [HC.out, if_neg (by rintro (h | h); exact c3 h; rw [c4] at h; cases h), if_neg HBAD.out, HVL.out])
  · have hc : Lib.cut L [45, 45, 62] = (L, [], false) := by unfold Lib.cut; rw [if_neg hi]
    rw [hc]
    go_wp2
    go_ret
    exact .err (S1.drews _).bel 43 (by decide) (by unfold Tk.comment; rw [if_pos (.inl (by omega))]) rfl
end Go.Proofs.YtaohdicilfabeaaGreatDoor

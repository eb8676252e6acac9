/- The reader's mark (the doctype) and comment, walked. -/
import Derived.Test.YtaohdicilfabeaaGreatDoorTkOwn
import Derived.Deep.AppendLies
import Derived.Deep.RegionLaw
namespace Go.Proofs.YtaohdicilfabeaaGreatDoor
open Go.RowKit

theorem tokInfo : (Tryz.prog.info? 33).map (fun i => (i.zero, i.size, i.bytes)) = some (some (.agg #[.int .u8 0, .string ⟨#[]⟩, .slice none 0 0, .bool false, .string ⟨#[]⟩]), 5, 72) := by kernel_rfl
theorem small_of (t : ByteArray) (l : List UInt8) (ht : t.data.toList = l) (w : World) (hs : l.length ≤ 1000000) :
    Calls Tryz.prog 39 #[.string t] w fun e w' => e = .returned (.string ⟨(Tk.small l).toArray⟩) ∧ Below w.heap.size w w' := by
  rw [← ht]; exact small_any t w (by have := Lib.size_eq t; rw [ht] at this; omega)

set_option maxRecDepth 100000 in
set_option maxHeartbeats 2000000 in
theorem mark_any (B R : Nat) (s : ByteArray) (p : Nat) (l : List UInt8) (v : Value) (ts : List Tk.Tok) (w : World) (h : Sta w B R s ts w p l v) (hs : s.size ≤ 1000000) (hts : ts.length ≤ 1000000) :
    Calls Tryz.prog 23 #[.pointer (some ⟨R, 0, none⟩)] w (StepPost B R s ts (Tk.mark l) w) := by
  have hRlt := blk_lt h.rs.rd
  have HLL := Lib.hid h.rs.len
  have hle := h.rs.le
  have hle2 : l.length ≤ s.size := by have := h.rs.len; omega
  have H := Lib.hid h
  clear h
  go_enter Tryz.func23, Tryz.ntmps23
  go_wp2_with fail
  refine (rest_s R s p l v _ (by exact H.out.rs) hs).mono ?_
  rintro e w1 ⟨rfl, n1, rfl⟩
  by_cases h9 : l.length < 9
  · have h9' : (l.length : Int) < 9 := by omega
    go_wp2
    go_ret
    exact .err (H.out.drews n1).bel 43 (by decide) (by unfold Tk.mark; rw [if_pos (.inl h9)]) rfl
  · have h9' : ¬ (l.length : Int) < 9 := by omega
    have e9 : (ByteArray.extract ⟨l.toArray⟩ 0 9).data.toList = l.take 9 := by rw [Lib.extract_data]; rfl
    have E9 := Lib.hid e9
    clear e9
    go_wp2_with fail
    refine (small_of _ _ E9.out _ (by rw [List.length_take]; omega)).mono ?_
    rintro e w2 ⟨rfl, hb2⟩
    have S2 := (H.out.drews n1).below hb2
    clear hb2
    by_cases hsm : Tk.small (l.take 9) = Tk.head
    · have hsb : (Tk.small (l.take 9) == [60, 33, 100, 111, 99, 116, 121, 112, 101]) = true := by rw [hsm]; decide
      have HM : Hid (Tk.mark l = if Tk.past [62] (l.drop 9) = [] then .inl 43 else .inr (⟨5, [], [], false, Lib.trimS (Tk.upto [62] (l.drop 9)) Tk.blanks⟩, (Tk.past [62] (l.drop 9)).drop 1)) := by
        show Tk.mark l = _
        unfold Tk.mark; rw [if_neg (by rintro (h | h); exact h9 h; exact h hsm)]
      clear hsm
      have k1 := S2.rs.rd.c1
      have kf := S2.rs.rd.free 1
      have S3 := S2.add 9 (by omega) ((p : Int) + 9) rfl
      obtain ⟨L, hL⟩ : ∃ L, l.drop 9 = L := ⟨_, rfl⟩
      rw [hL] at S3 HM
      clear hL S2
      go_wp2_with fail
      clear k1 kf
      generalize w2.setCell ⟨R, 1, none⟩ (.int .i64 ((p : Int) + 9)) = w3 at *
      have hL2 : L.length ≤ s.size := by have := S3.rs.len; omega
      refine (upto_s R s _ _ _ v _ (by exact S3.rs) hs (by decide) (ascii_of_all (by decide))).mono ?_
      rintro e w4 ⟨rfl, hg4, p4, h4⟩
      have S4 : Sta w B R s ts w4 p4 (Tk.past [62] L) v := S3.grown hg4 h4
      clear S3 hg4 h4
      have hle4 := S4.rs.le
      have hln4 := S4.rs.len
      have k0 := S4.rs.rd.c0
      have k1 := S4.rs.rd.c1
      by_cases hend : Tk.past [62] L = []
      · have HEND := Lib.hid hend
        have hpe : p4 = s.size := by rw [hend] at hln4; simp at hln4; omega
        have hpb : ((p4 : Int) == (s.size : Int)) = true := by rw [hpe]; simp
        clear hend hpe hln4
        go_wp2_with fail
        go_quiet (fail)
        go_wp2
        go_ret
        exact .err (S4.drews _).bel 43 (by decide) (by rw [HM.out, if_pos HEND.out]) rfl
      · have HEND := Lib.hid hend
        have hpos : 0 < (Tk.past [62] L).length := List.length_pos_iff.2 hend
        have hpb : ((p4 : Int) == (s.size : Int)) = false := by
          have hne : p4 ≠ s.size := by omega
          simp; omega
        clear hend hln4
        have kf := S4.rs.rd.free 1
        go_wp2_with fail
        go_quiet (fail)
        go_wp2_with fail
        have S5 := (S4.drews nq).add 1 hpos ((p4 : Int) + 1) rfl
        clear S4 k0 k1 kf
        generalize (w4.drewN nq).setCell ⟨R, 1, none⟩ (.int .i64 ((p4 : Int) + 1)) = w5 at *
        have hup := upto_len [62] L
        have c2 := S5.rs.rd.c2
        have S5H := Lib.hid S5
        clear S5
        obtain ⟨i0, hi0, hz0, hz1, hz2⟩ := info_parts tokInfo
        go_region_law (first
          | (go_simp; go_at_call 41; refine (trim_any _ _ (by show (Tk.upto [62] L).toArray.size ≤ _; simp; omega)).mono ?_; rintro e w6 ⟨rfl, hb6⟩; have S6 := S5H.out.below (w1 := w6) ⟨hb6.os, hb6.tape, hb6.output, hb6.size, hb6.block⟩; obtain ⟨avs, hal, hao, haa⟩ := S6.own; have c2' := S6.rs.rd.c2; have l6 := blk_lt S6.rs.rd)
          | (refine step_append_lies _ (by rfl) _ _ _ (by rfl) B 33 i0 _ 5 72 Tryz.underlying23 hi0 hz0 hz1 hz2 rfl (by omega) v ts.length (tokCells ts avs) (by rfl) (by exact (hao.alloc _)) ⟨w6.heap.size, 0, none⟩ 1 1 (tokCell ⟨5, [], [], false, Lib.trimS (Tk.upto [62] L) Tk.blanks⟩ (.slice none 0 0)) (by rfl) (by rfl) (by exact World.news_of_block (heap_alloc_new w6 _)) (by simp [tokCell, str, Value.oneCell']) (by omega) (by unfold maxLen; omega) (by omega) (by have := S6.base; simp; omega) (w6.heap.size + 1) (by simp) ?_; intro gg cap w7 hown7 hgrow7 _ _; have hR7 := S6.appended hao hgrow7; have d2 := hR7.c2; have g2 := hR7.free 2))
        all_goals (go_wp2; go_ret)
        all_goals exact S6.done (t := ⟨5, [], [], false, Lib.trimS (Tk.upto [62] L) Tk.blanks⟩) (av := .slice none 0 0) hal hao haa (World.ownsRow_nil _ _ _ _) hgrow7 hown7 (by rw [HM.out, if_neg HEND.out])
    · have hsb : (Tk.small (l.take 9) == [60, 33, 100, 111, 99, 116, 121, 112, 101]) = false := by
        rw [beq_eq_false_iff_ne]; exact hsm
      have HS := Lib.hid hsm
      clear hsm
      go_wp2
      go_ret
      exact .err S2.bel 43 (by decide) (by unfold Tk.mark; rw [if_pos (.inr HS.out)]) rfl
end Go.Proofs.YtaohdicilfabeaaGreatDoor

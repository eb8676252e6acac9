/- The reader's text, walked. -/
import Derived.Test.YtaohdicilfabeaaGreatDoorTkComment
import Derived.Deep.DeepCutAuto
import Derived.Deep.CutBlock
namespace Go.Proofs.YtaohdicilfabeaaGreatDoor
open Go.RowKit

theorem run_nil : Tk.run [] = 0 := rfl
theorem run_begins {l : List UInt8} (h : Tk.begins l = true) : Tk.run l = 0 := by
  cases l with
  | nil => rfl
  | cons c r => unfold Tk.run; rw [if_pos h]
theorem run_step {c : UInt8} {r : List UInt8} (h : Tk.begins (c :: r) = false) : Tk.run (c :: r) = Tk.run r + 1 := by
  rw [Tk.run, if_neg (by simp [h])]
theorem run_le (l : List UInt8) : Tk.run l ≤ l.length := by
  induction l with
  | nil => exact Nat.le_refl _
  | cons c r ih => unfold Tk.run; split <;> simp <;> omega
theorem begins_no1 {c : UInt8} {r : List UInt8} (h : c ≠ 60) : Tk.begins (c :: r) = false := by
  unfold Tk.begins; split
  · rename_i e; cases e; exact absurd rfl h
  · rfl
theorem begins_one (c : UInt8) : Tk.begins [c] = false := by
  unfold Tk.begins; split
  · rename_i e; cases e
  · rfl
theorem begins_two (d : UInt8) (r : List UInt8) : Tk.begins (60 :: d :: r) = (Tk.letter d || d == 47 || d == 33 || d == 63) := rfl
theorem drop_at (s : ByteArray) (q : Nat) (h : q < s.size) : s.data.toList.drop q = s[q] :: s.data.toList.drop (q + 1) := by
  rw [List.drop_eq_getElem_cons (by simpa using h)]; rfl

theorem begins_by {d : UInt8} (h : Tk.letter d = true ∨ (d.toNat : Int) = 47 ∨ (d.toNat : Int) = 33 ∨ (d.toNat : Int) = 63) : (Tk.letter d || d == 47 || d == 33 || d == 63) = true := by
  simp only [Bool.or_eq_true, beq_iff_eq, ← UInt8.toNat_inj]
  rcases h with h | h | h | h
  · exact .inl (.inl (.inl h))
  · exact .inl (.inl (.inr (by simp; omega)))
  · exact .inl (.inr (by simp; omega))
  · exact .inr (by simp; omega)
theorem begins_not {d : UInt8} (h : Tk.letter d = false) (h1 : ¬ (d.toNat : Int) = 47) (h2 : ¬ (d.toNat : Int) = 33) (h3 : ¬ (d.toNat : Int) = 63) : (Tk.letter d || d == 47 || d == 33 || d == 63) = false := by
  simp only [Bool.or_eq_false_iff, beq_eq_false_iff_ne, ne_eq, ← UInt8.toNat_inj]
  exact ⟨⟨⟨h, fun e => h1 (by simp at e; omega)⟩, fun e => h2 (by simp at e; omega)⟩, fun e => h3 (by simp at e; omega)⟩

/-- How far the reader has come in a text that began at p. -/
def Scan (s : ByteArray) (p q : Nat) : Prop := p + 1 + Tk.run (s.data.toList.drop (p + 1)) = q + Tk.run (s.data.toList.drop q)

theorem decode_of {nm : List (List UInt8 × Int × Bool)} {ot : List Int} {dec : List UInt8 → Bool → List UInt8} (hD : DecodeSaid nm ot dec) (t : ByteArray) (l : List UInt8) (ht : t.data.toList = l) (b : Bool) (w : World) (hl : l.length ≤ 1000000) (hg : Gl nm ot w) :
    Calls Tryz.prog 33 #[.string t, .bool b] w fun e w' => e = .returned (.string ⟨(dec l b).toArray⟩) ∧ Below w.heap.size w w' := by
  have e : t = ⟨l.toArray⟩ := by subst ht; rfl
  rw [e]; exact hD l b w hl hg
theorem scan_end {s : ByteArray} {p q : Nat} {l : List UInt8} (h : Scan s p q) (h0 : Tk.run (s.data.toList.drop q) = 0) (hd : s.data.toList.drop p = l) : q = p + (Tk.run (l.drop 1) + 1) := by
  unfold Scan at h
  have e : l.drop 1 = s.data.toList.drop (p + 1) := by rw [← hd, List.drop_drop]
  rw [e]; omega
theorem text_data {s : ByteArray} {p n : Nat} {l : List UInt8} (hd : s.data.toList.drop p = l) (hn : p + n ≤ s.size) : (s.extract p (p + n)).data.toList = l.take n := by
  rw [drop_extract s p n (by omega), hd]
theorem scan_on {w w1 : World} {B R : Nat} {s : ByteArray} {q : Nat} {v : Value} {ts : List Tk.Tok} (S : Sta w B R s ts w1 q (s.data.toList.drop q) v) (hq : q < s.size) (k : Nat) : Sta w B R s ts ((w1.drewN k).setCell ⟨R, 1, none⟩ (.int .i64 ((q : Int) + 1))) (q + 1) (s.data.toList.drop (q + 1)) v := by
  have S2 := (S.drews k).add 1 (by rw [List.length_drop, ← Lib.size_eq]; omega) ((q : Int) + 1) rfl
  rw [List.drop_drop] at S2
  exact S2

set_option maxRecDepth 100000 in
set_option maxHeartbeats 2000000 in
theorem text_any {nm : List (List UInt8 × Int × Bool)} {ot : List Int} {dec : List UInt8 → Bool → List UInt8} (hD : DecodeSaid nm ot dec) (B R : Nat) (s : ByteArray) (p : Nat) (l : List UInt8) (v : Value) (ts : List Tk.Tok) (w : World) (h : Sta w B R s ts w p l v) (hgl : Gl nm ot w) (hB5 : 5 ≤ B) (h1 : 1 ≤ l.length) (hs : s.size ≤ 1000000) (hts : ts.length ≤ 1000000) :
    Calls Tryz.prog 17 #[.pointer (some ⟨R, 0, none⟩)] w (StepPost B R s ts (.inr (Tk.text dec l)) w) := by
  have hle := h.rs.le
  have hlen := h.rs.len
  have HDR := Lib.hid h.rs.dr
  have HGL := Lib.hid hgl
  have HD := Lib.hid hD
  have k1 := h.rs.rd.c1
  have kf := h.rs.rd.free 1
  have S1 := h.add 1 h1 ((p : Int) + 1) rfl
  have hp1 : p + 1 ≤ s.size := by omega
  have HL1 := Lib.hid hlen
  clear h hgl hD hlen
  go_enter Tryz.func17, Tryz.ntmps17
  go_upto_block 0 with (fail)
  clear k1 kf
  generalize w.setCell ⟨R, 1, none⟩ (.int .i64 ((p : Int) + 1)) = w1 at *
  go_cut [4] (fun _ wx => ∃ q : Nat, Hid (Sta w B R s ts wx q (s.data.toList.drop q) v) ∧ Hid (Scan s p q) ∧ Hid (Tk.run (s.data.toList.drop q) = 0))
  case first =>
    go_wp2_with fail
    go_loopg [4] s.size (fun g _ wr => ∃ q : Nat, s.size ≤ q + g ∧ Hid (Sta w B R s ts wr q (s.data.toList.drop q) v) ∧ Hid (Scan s p q))
    case atStart =>
      refine ⟨p + 1, by omega, ?_, rfl⟩
      have e : l.drop 1 = s.data.toList.drop (p + 1) := by rw [← HDR.out, List.drop_drop]
      rw [e] at S1; exact S1
    case round =>
      clear S1
      obtain ⟨q, hqg, S, HS⟩ := hrel
      have hqs := S.out.rs.le
      have k0 := S.out.rs.rd.c0
      have k1 := S.out.rs.rd.c1
      have kf := S.out.rs.rd.free 1
      by_cases hq : q < s.size
      · cases gk with
        | zero => omega
        | succ g =>
          have hqi : (q : Int) < (s.size : Int) := by omega
          obtain ⟨b, hb⟩ : ∃ b : UInt8, s[q] = b := ⟨_, rfl⟩
          by_cases hb60 : b = 60
          · subst hb60
            have hne : (((s[q]).toNat : Int) != 60) = false := by rw [hb]; rfl
            by_cases hq1 : q + 1 = s.size
            · have hqe : ((q : Int) + 1 == (s.size : Int)) = true := by simp; omega
              have hst : Scan s p (q + 1) := by
                have h1 := HS.out
                have e : s.data.toList.drop (q + 1) = [] := List.drop_of_length_le (by rw [← Lib.size_eq]; omega)
                unfold Scan at *; rw [h1, drop_at s q hq, hb, e, run_step (begins_one _)]; omega
              have HST := Lib.hid hst
              clear hst hb hq1
              go_wp2_with fail
              go_quiet (fail)
              go_wp2_with fail
              go_quiet (fail)
              go_wp2_with fail
              go_roundg g
              case measure => omega
              case rel => exact ⟨q + 1, by omega, scan_on S.out hq _, HST⟩
            · have hqe : ((q : Int) + 1 == (s.size : Int)) = false := by
                rw [beq_eq_false_iff_ne]; omega
              have hq2 : q + 1 < s.size := by omega
              have hqi2 : (q : Int) + 1 < (s.size : Int) := by omega
              have hqn2 : ((q : Int) + 1).toNat = q + 1 := by omega
              obtain ⟨d, hd⟩ : ∃ d : UInt8, s[q + 1] = d := ⟨_, rfl⟩
              have hbg : Tk.begins (s.data.toList.drop q) = (Tk.letter d || d == 47 || d == 33 || d == 63) := by
                rw [drop_at s q hq, hb, drop_at s (q + 1) hq2, hd, begins_two]
              have HBG := Lib.hid hbg
              have HDQ := Lib.hid (drop_at s q hq)
              clear hbg hb hq1
              go_wp2_with fail
              go_quiet (fail)
              go_wp2_with fail
              go_quiet (fail)
              go_wp2_with fail
              go_quiet (fail)
              go_wp2_with fail
              clear hd
              refine (letter_any d _).mono ?_
              rintro e w' ⟨rfl, rfl⟩
              by_cases hl : Tk.letter d = true
              · have HZ : Hid (Tk.run (s.data.toList.drop q) = 0) := run_begins (by rw [HBG.out]; exact begins_by (.inl hl))
                go_wp2_with fail
                go_meet
                exact ⟨q, S.out.drews _, HS, HZ⟩
              · have hl' : Tk.letter d = false := by simpa using hl
                go_wp2_with fail
                · go_meet
                  exact ⟨q, S.out.drews _, HS, Lib.hid (run_begins (by rw [HBG.out]; exact begins_by (.inr (.inl ‹_›))))⟩
                · go_meet
                  exact ⟨q, S.out.drews _, HS, Lib.hid (run_begins (by rw [HBG.out]; exact begins_by (.inr (.inr (.inl ‹_›)))))⟩
                · rename_i a b c
                  have h63 : (d.toNat : Int) = 63 := by
                    rcases c with (c | c) | c
                    · exact absurd (by simpa using c) a
                    · exact absurd (by simpa using c) b
                    · simpa using c
                  go_meet
                  exact ⟨q, S.out.drews _, HS, Lib.hid (run_begins (by rw [HBG.out]; exact begins_by (.inr (.inr (.inr h63)))))⟩
                · rename_i a b c
                  have hbf := begins_not hl' a b (fun e => by simp [e] at c)
                  have hst : Scan s p (q + 1) := by
                    have h1 := HS.out
                    have hb := HBG.out
                    rw [hbf, drop_at s q hq] at hb
                    unfold Scan at *; rw [h1, drop_at s q hq, run_step hb]; omega
                  have HST := Lib.hid hst
                  clear hst hbf a b c
                  go_roundg g
                  case measure => omega
                  case rel => exact ⟨q + 1, by omega, scan_on S.out hq _, HST⟩
          · have hne : (((s[q]).toNat : Int) != 60) = true := by
              rw [hb, bne_iff_ne]; intro e; exact hb60 (UInt8.toNat_inj.1 (by simp; omega))
            have hst : Scan s p (q + 1) := by
              have h1 := HS.out; unfold Scan at *; rw [h1, drop_at s q hq, hb, run_step (begins_no1 hb60)]; omega
            have HST := Lib.hid hst
            clear hst hb hb60
            go_wp2_with fail
            go_quiet (fail)
            go_wp2_with fail
            go_quiet (fail)
            go_wp2_with fail
            go_roundg g
            case measure => omega
            case rel => exact ⟨q + 1, by omega, scan_on S.out hq _, HST⟩
      · have hqe : q = s.size := by omega
        have hqi : ¬ (q : Int) < (s.size : Int) := by omega
        have hz : Tk.run (s.data.toList.drop q) = 0 := by
          have : s.data.toList.drop q = [] := List.drop_of_length_le (by rw [← Lib.size_eq]; omega)
          rw [this]; rfl
        have HZ := Lib.hid hz
        clear hqe hz
        go_wp2_with fail
        go_quiet (fail)
        go_wp2_with fail
        go_meet
        exact ⟨q, S.out.drews _, HS, HZ⟩
  case rest =>
    obtain ⟨q, S, HS, HZ⟩ := hcut
    have hqs := S.out.rs.le
    have hqn := scan_end HS.out HZ.out HDR.out
    obtain ⟨n, hn⟩ : ∃ n, Tk.run (l.drop 1) + 1 = n := ⟨_, rfl⟩
    rw [hn] at hqn
    have HN := Lib.hid hn
    have htd := text_data (n := n) HDR.out (by omega)
    rw [← hqn] at htd
    have HTD := Lib.hid htd
    have HQN := Lib.hid hqn
    have hln : (l.take n).length ≤ 1000000 := by have := HL1.out; rw [List.length_take]; omega
    have S3 := Lib.hid S.out
    have hpn : (p : Int) ≤ (q : Int) := by omega
    have hpn2 : (q : Int) ≤ (s.size : Int) := by omega
    clear S HS HZ hn htd hqn
    have c0 := S3.out.rs.rd.c0
    have c1 := S3.out.rs.rd.c1
    have c2 := S3.out.rs.rd.c2
    obtain ⟨i0, hi0, hz0, hz1, hz2⟩ := info_parts tokInfo
    go_wp2_with fail
    go_region_law (first
      | (go_simp; go_at_call 33; refine (decode_of HD.out _ _ HTD.out _ _ hln (by exact HGL.out.below (S3.out.drews 1).bel hB5)).mono ?_; rintro e w6 ⟨rfl, hb6⟩; have S6 := S3.out.below (w1 := w6) ⟨hb6.os, hb6.tape, hb6.output, hb6.size, hb6.block⟩; obtain ⟨avs, hal, hao, haa⟩ := S6.own; have c0' := S6.rs.rd.c0; have c1' := S6.rs.rd.c1; have c2' := S6.rs.rd.c2; have l6 := blk_lt S6.rs.rd)
      | (refine step_append_lies _ (by rfl) _ _ _ (by rfl) B 33 i0 _ 5 72 Tryz.underlying23 hi0 hz0 hz1 hz2 rfl (by omega) v ts.length (tokCells ts avs) (by rfl) (by exact (hao.alloc _)) ⟨w6.heap.size, 0, none⟩ 1 1 (tokCell ⟨3, [], [], false, dec (l.take n) false⟩ (.slice none 0 0)) (by rfl) (by rfl) (by exact World.news_of_block (heap_alloc_new w6 _)) (by simp [tokCell, str, Value.oneCell']) (by omega) (by unfold maxLen; omega) (by omega) (by have := S6.base; simp; omega) (w6.heap.size + 1) (by simp) ?_; intro gg cap w7 hown7 hgrow7 _ _; have hR7 := S6.appended hao hgrow7; have d2 := hR7.c2; have g2 := hR7.free 2))
    all_goals (go_wp2; go_ret)
    all_goals exact S6.done (t := ⟨3, [], [], false, dec (l.take n) false⟩) (av := .slice none 0 0) hal hao haa (World.ownsRow_nil _ _ _ _) hgrow7 hown7 (by unfold Tk.text; rw [HN.out, HQN.out, ← HDR.out, List.drop_drop])
end Go.Proofs.YtaohdicilfabeaaGreatDoor

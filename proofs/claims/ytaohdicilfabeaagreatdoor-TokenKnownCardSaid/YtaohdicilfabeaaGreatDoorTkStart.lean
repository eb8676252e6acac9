/- The reader's start and end, walked. -/
import Derived.Test.YtaohdicilfabeaaGreatDoorTkTag
namespace Go.Proofs.YtaohdicilfabeaaGreatDoor
open Go.RowKit

section
variable {w0 : World} {B R : Nat} {s : ByteArray} {ts : List Tk.Tok} {w w1 : World} {p p' : Nat} {l l' : List UInt8} {v : Value}
theorem Sta.re (h : Sta w0 B R s ts w p l v) : Sta w B R s ts w p l v := ⟨Below.refl _ _, h.rs, h.own, h.hB⟩
theorem StepPost.pre {res : Sum Nat (Tk.Tok × List UInt8)} {e : Ending} {w' : World} (hb : Below B w w1) (h : StepPost B R s ts res w1 e w') : StepPost B R s ts res w e w' := ⟨hb.trans h.1, h.2⟩
end

set_option maxRecDepth 100000 in
set_option maxHeartbeats 2000000 in
theorem start_any {nm : List (List UInt8 × Int × Bool)} {ot : List Int} {dec : List UInt8 → Bool → List UInt8} (hD : DecodeSaid nm ot dec) (hI : IndexAnySaid) (B R : Nat) (s : ByteArray) (p : Nat) (l : List UInt8) (v : Value) (ts : List Tk.Tok) (w : World) (h : Sta w B R s ts w p l v) (hgl : Gl nm ot w) (hB5 : 5 ≤ B) (h1 : 1 ≤ l.length) (hs : s.size ≤ 1000000) (hts : ts.length ≤ 1000000) :
    Calls Tryz.prog 19 #[.pointer (some ⟨R, 0, none⟩)] w (StepPost B R s ts (Tk.tag dec 1 (l.drop 1)) w) := by
  have hle := h.rs.le
  have k1 := h.rs.rd.c1
  have kf := h.rs.rd.free 1
  have S1 := Lib.hid (h.add 1 h1 ((p : Int) + 1) rfl)
  have HGL := Lib.hid hgl
  have HD := Lib.hid hD
  have HI := Lib.hid hI
  clear h hgl hD hI
  go_enter Tryz.func19, Tryz.ntmps19
  go_wp2_with fail
  clear k1 kf
  generalize w.setCell ⟨R, 1, none⟩ (.int .i64 ((p : Int) + 1)) = w1 at *
  refine (tag_any HD.out HI.out B R s (p + 1) (l.drop 1) v ts 1 _ (by exact S1.out.re) (by exact S1.out.gl HGL.out hB5) hB5 (.inl rfl) hs hts).mono ?_
  rintro e w2 hp
  have HP := Lib.hid (StepPost.pre S1.out.bel hp)
  obtain ⟨hb, ⟨k, hk, hr, rfl⟩ | ⟨t, r, p', v', hr, rfl, hrs, hown⟩⟩ := hp
  · clear hb hr
    go_wp2
    go_ret
    exact HP.out
  · clear hb hr hrs hown
    go_wp2
    go_ret
    exact HP.out

set_option maxRecDepth 100000 in
set_option maxHeartbeats 2000000 in
theorem end_any {nm : List (List UInt8 × Int × Bool)} {ot : List Int} {dec : List UInt8 → Bool → List UInt8} (hD : DecodeSaid nm ot dec) (hI : IndexAnySaid) (B R : Nat) (s : ByteArray) (p : Nat) (l : List UInt8) (v : Value) (ts : List Tk.Tok) (w : World) (h : Sta w B R s ts w p l v) (hgl : Gl nm ot w) (hB5 : 5 ≤ B) (h2 : 2 ≤ l.length) (hs : s.size ≤ 1000000) (hts : ts.length ≤ 1000000) :
    Calls Tryz.prog 20 #[.pointer (some ⟨R, 0, none⟩)] w (StepPost B R s ts (if l.length = 2 ∨ Tk.letter (l.getD 2 0) = false then .inl 40 else Tk.tag dec 2 (l.drop 2)) w) := by
  have hle := h.rs.le
  have hlen := h.rs.len
  have k1 := h.rs.rd.c1
  have kf := h.rs.rd.free 1
  have S1 := h.add 2 h2 ((p : Int) + 2) rfl
  have HGL := Lib.hid hgl
  have HD := Lib.hid hD
  have HI := Lib.hid hI
  have HDR := Lib.hid h.rs.dr
  generalize hR : (if l.length = 2 ∨ Tk.letter (l.getD 2 0) = false then (.inl 40 : Sum Nat (Tk.Tok × List UInt8)) else Tk.tag dec 2 (l.drop 2)) = RES
  have HR := Lib.hid hR
  clear h hgl hD hI hR
  go_enter Tryz.func20, Tryz.ntmps20
  go_wp2_with fail
  clear k1 kf
  generalize w.setCell ⟨R, 1, none⟩ (.int .i64 ((p : Int) + 2)) = w1 at *
  have k0 := S1.rs.rd.c0
  have k1 : w1.cell? ⟨R, 1, none⟩ = some (.int .i64 ((p : Int) + 2)) := S1.rs.rd.c1
  by_cases h3 : l.length = 2
  · have hpb : ((p : Int) + 2 == (s.size : Int)) = true := by simp; omega
    have HF : Hid (RES = .inl 40) := HR.out.symm.trans (if_pos (.inl h3))
    clear HR
    go_quiet (fail)
    go_wp2
    go_ret
    exact .err (S1.drews _).bel 40 (by decide) HF.out rfl
  · have hpb : ((p : Int) + 2 == (s.size : Int)) = false := by rw [beq_eq_false_iff_ne]; omega
    have hp2 : p + 2 < s.size := by omega
    have hp2i : (p : Int) + 2 < (s.size : Int) := by omega
    have hp20 : (0 : Int) ≤ (p : Int) + 2 := by omega
    have hp21 : ¬ ((p : Int) + 2 < 0) := by omega
    have hp2n : ((p : Int) + 2).toNat = p + 2 := by omega
    have hgd : l.getD 2 0 = s[p + 2] := by
      rw [← HDR.out, List.getD_eq_getElem?_getD, List.getElem?_drop, List.getElem?_eq_getElem (by simpa using hp2)]; rfl
    obtain ⟨d, hd⟩ : ∃ d, s[p + 2] = d := ⟨_, rfl⟩
    rw [hd] at hgd
    have HGD := Lib.hid hgd
    clear hgd
    by_cases hl : Tk.letter d = true
    · have HF : Hid (RES = Tk.tag dec 2 (l.drop 2)) := HR.out.symm.trans (if_neg (by rintro (h | h); exact h3 h; rw [HGD.out, hl] at h; cases h))
      clear HR
      go_quiet ((go_at_call 18; go_must (exact Calls.quiet_of_same ((letter_any d _).mono fun e wz hz => ⟨hz.1, hz.2.symm⟩))))
      go_wp2_with fail
      refine (tag_any HD.out HI.out B R s (p + 2) (l.drop 2) v ts 2 _ (by exact (S1.drews _).re) (by exact (S1.drews _).gl HGL.out hB5) hB5 (.inr rfl) hs hts).mono ?_
      rintro e w2 hp
      rw [← HF.out] at hp
      have HP := Lib.hid (StepPost.pre (S1.drews _).bel hp)
      obtain ⟨hb, ⟨k, hk, hr, rfl⟩ | ⟨t, r, p', v', hr, rfl, hrs, hown⟩⟩ := hp
      · clear hb hr
        go_wp2
        go_ret
        exact HP.out
      · clear hb hr hrs hown
        go_wp2
        go_ret
        exact HP.out
    · have hl' : Tk.letter d = false := by simpa using hl
      have HF : Hid (RES = .inl 40) := HR.out.symm.trans (if_pos (.inr (by rw [HGD.out, hl'])))
      clear HR
      go_quiet ((go_at_call 18; go_must (exact Calls.quiet_of_same ((letter_any d _).mono fun e wz hz => ⟨hz.1, hz.2.symm⟩))))
      go_wp2
      go_ret
      exact .err (S1.drews _).bel 40 (by decide) HF.out rfl
end Go.Proofs.YtaohdicilfabeaaGreatDoor

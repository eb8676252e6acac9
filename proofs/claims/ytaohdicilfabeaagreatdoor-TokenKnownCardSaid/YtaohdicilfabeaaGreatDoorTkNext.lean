/- The reader's next, walked: which method reads the next token. -/
import Derived.Test.YtaohdicilfabeaaGreatDoorTkStart
namespace Go.Proofs.YtaohdicilfabeaaGreatDoor
open Go.RowKit

/-- Which method reads the next token: 0 text, 1 start, 2 end, 3 comment, 4 mark. -/
def which (l : List UInt8) : Nat :=
  if Tk.begins l = false then 0
  else if Tk.letter (l.getD 1 0) then 1
  else if l.getD 1 0 = 47 then 2
  else if Lib.hasPrefix l [60, 33, 45, 45] then 3
  else 4
theorem begins_short {l : List UInt8} (h : l.length < 2) : Tk.begins l = false := by
  match l, h with
  | [], _ => rfl
  | [c], _ => exact begins_one c
  | _ :: _ :: _, h => simp at h; omega
theorem begins_cons {c d : UInt8} {r : List UInt8} : Tk.begins (c :: d :: r) = (c == 60 && (Tk.letter d || d == 47 || d == 33 || d == 63)) := by
  by_cases h : c = 60
  · subst h; rw [begins_two]; simp
  · rw [begins_no1 h]; simp [h]

/-- The number of that method. -/
def methodOf : Nat → Nat
  | 0 => 17
  | 1 => 19
  | 2 => 20
  | 3 => 22
  | _ => 23
def methodVal (R k : Nat) : Value := .func (.func (methodOf k)) #[.pointer (some ⟨R, 0, none⟩)] #[]
theorem which_text {l : List UInt8} (h : Tk.begins l = false) : which l = 0 := by unfold which; rw [if_pos h]
theorem which_start {d : UInt8} {r : List UInt8} (h : Tk.letter d = true) : which (60 :: d :: r) = 1 := by
  unfold which; rw [if_neg (by rw [begins_two, h]; simp), if_pos (by simpa using h)]
theorem which_end {d : UInt8} {r : List UInt8} (h0 : Tk.letter d = false) (h : (d.toNat : Int) = 47) : which (60 :: d :: r) = 2 := by
  have hd : d = 47 := UInt8.toNat_inj.1 (by simp; omega)
  subst hd
  unfold which; rw [if_neg (by rw [begins_two]; decide), if_neg (by show ¬ Tk.letter 47 = true; rw [h0]; decide), if_pos (by rfl)]
theorem which_comment {d : UInt8} {r : List UInt8} (h0 : Tk.letter d = false) (h1 : ¬ (d.toNat : Int) = 47) (h : Lib.hasPrefix (60 :: d :: r) [60, 33, 45, 45] = true) : which (60 :: d :: r) = 3 := by
  have hd : d = 33 := by
    unfold Lib.hasPrefix at h
    obtain ⟨t, ht⟩ := List.isPrefixOf_iff_prefix.1 h
    injection ht with _ ht; injection ht with ht _; exact ht.symm
  subst hd
  unfold which; rw [if_neg (by rw [begins_two]; decide), if_neg (by show ¬ Tk.letter 33 = true; rw [h0]; decide), if_neg (by show ¬ (33 : UInt8) = 47; decide), if_pos h]
theorem which_mark {d : UInt8} {r : List UInt8} (h0 : Tk.letter d = false) (h1 : ¬ (d.toNat : Int) = 47) (h2 : Lib.hasPrefix (60 :: d :: r) [60, 33, 45, 45] = false) (h : (d.toNat : Int) = 33 ∨ (d.toNat : Int) = 63) : which (60 :: d :: r) = 4 := by
  unfold which
  rw [if_neg (by rw [begins_two, begins_by (.inr (.inr h))]; decide), if_neg (by simp [h0]), if_neg (by simp only [List.getD_cons_succ, List.getD_cons_zero]; intro e; subst e; exact h1 rfl), if_neg (by rw [h2]; decide)]

theorem next_post {R k : Nat} {l : List UInt8} (h : which l = k) : Ending.returned (methodVal R k) = .returned (methodVal R (which l)) := by rw [h]

set_option maxRecDepth 100000 in
set_option maxHeartbeats 2000000 in
theorem next_any (R : Nat) (s : ByteArray) (p : Nat) (l : List UInt8) (v : Value) (w : World) (h : Rs w R s p l v) (hs : s.size ≤ 1000000) :
    Calls Tryz.prog 11 #[.pointer (some ⟨R, 0, none⟩)] w (fun e w' => e = .returned (methodVal R (which l)) ∧ ∃ n, w' = w.drewN n) := by
  have hle := h.le
  have hlen := h.len
  have H := Lib.hid h
  obtain ⟨mv, hmv⟩ : ∃ mv, methodVal R (which l) = mv := ⟨_, rfl⟩
  have HM := Lib.hid hmv
  rw [hmv]
  clear h hmv
  by_cases h2 : l.length < 2
  · have h2i : (l.length : Int) < 2 := by omega
    have hw := Lib.hid (which_text (begins_short h2))
    go_enter Tryz.func11, Tryz.ntmps11
    go_wp2_with fail
    refine (rest_s R s p l v _ (by exact H.out) hs).mono ?_
    rintro e w1 ⟨rfl, n1, rfl⟩
    go_wp2
    go_ret
    exact ⟨by rw [← HM.out, hw.out]; rfl, _, rfl⟩
  · obtain ⟨c, d, r, rfl⟩ : ∃ c d r, l = c :: d :: r := by
      match l, h2 with
      | c :: d :: r, _ => exact ⟨c, d, r, rfl⟩
      | [], h => simp at h
      | [_], h => simp at h
    obtain ⟨t, ht⟩ : ∃ t : ByteArray, (⟨(c :: d :: r).toArray⟩ : ByteArray) = t := ⟨_, rfl⟩
    have hts : t.size = r.length + 2 := by rw [← ht]; show (c :: d :: r).toArray.size = _; simp
    have ht0 : 0 < t.size := by omega
    have ht1 : 1 < t.size := by omega
    have hti0 : (0 : Int) < (t.size : Int) := by omega
    have hti1 : (1 : Int) < (t.size : Int) := by omega
    have hti2 : ¬ (t.size : Int) < 2 := by omega
    have hc0 : t[0] = c := by subst ht; rfl
    have hd1 : t[1] = d := by subst ht; rfl
    have HT := Lib.hid ht
    clear h2 hlen hts ht
    go_enter Tryz.func11, Tryz.ntmps11
    go_wp2_with fail
    refine (rest_s R s p _ v _ (by exact H.out) hs).mono ?_
    rintro e w1 ⟨he, n1, rfl⟩
    rw [HT.out] at he
    subst he
    by_cases hc : c = 60
    · subst hc
      have hcb : (((t[0]).toNat : Int) != 60) = false := by rw [hc0]; rfl
      clear hc0
      go_wp2_with fail
      refine (letter_any d _).mono ?_
      rintro e w2 ⟨rfl, rfl⟩
      by_cases hl : Tk.letter d = true
      · have hw := Lib.hid (which_start (r := r) hl)
        go_wp2
        go_ret
        exact ⟨by rw [← HM.out, hw.out]; rfl, _, rfl⟩
      have hl' : Tk.letter d = false := by simpa using hl
      clear hl
      by_cases h47 : (d.toNat : Int) = 47
      · have hw := Lib.hid (which_end (r := r) hl' h47)
        go_wp2
        go_ret
        exact ⟨by rw [← HM.out, hw.out]; rfl, _, rfl⟩
      go_wp2_with fail
      refine (hasPrefix_any t ⟨#[60, 33, 45, 45]⟩ _).mono ?_
      rintro e w2 ⟨he, rfl⟩
      have HE : Hid (Lib.hasPrefix t.data.toList (⟨#[60, 33, 45, 45]⟩ : ByteArray).data.toList = Lib.hasPrefix (60 :: d :: r) [60, 33, 45, 45]) := by
        show _ = _; rw [← HT.out]
      rw [HE.out] at he
      subst he
      clear HE
      by_cases hp : Lib.hasPrefix (60 :: d :: r) [60, 33, 45, 45] = true
      · have hw := Lib.hid (which_comment hl' h47 hp)
        rw [hp]
        clear hp
        go_wp2
        go_ret
        exact ⟨by rw [← HM.out, hw.out]; rfl, _, rfl⟩
      have hp' : Lib.hasPrefix (60 :: d :: r) [60, 33, 45, 45] = false := by simpa using hp
      have HP := Lib.hid hp'
      rw [hp']
      clear hp hp'
      by_cases h33 : (d.toNat : Int) = 33
      · have hw := Lib.hid (which_mark hl' h47 HP.out (.inl h33))
        go_wp2
        go_ret
        exact ⟨by rw [← HM.out, hw.out]; rfl, _, rfl⟩
      by_cases h63 : (d.toNat : Int) = 63
      · have hw := Lib.hid (which_mark hl' h47 HP.out (.inr h63))
        go_wp2
        go_ret
        exact ⟨by rw [← HM.out, hw.out]; rfl, _, rfl⟩
      have hw := Lib.hid (which_text (l := 60 :: d :: r) (by rw [begins_two]; exact begins_not hl' h47 h33 h63))
      go_wp2
      go_ret
      exact ⟨by rw [← HM.out, hw.out]; rfl, _, rfl⟩
    · have hcb : (((t[0]).toNat : Int) != 60) = true := by
        rw [hc0, bne_iff_ne]; intro e; exact hc (UInt8.toNat_inj.1 (by simp; omega))
      have hw := Lib.hid (which_text (begins_no1 (r := d :: r) hc))
      clear hc hc0 hd1
      go_wp2
      go_ret
      exact ⟨by rw [← HM.out, hw.out]; rfl, _, rfl⟩
end Go.Proofs.YtaohdicilfabeaaGreatDoor

/- The answer's small functions over a text's places (selvedgeref04): Blank, at, skip, find, word, of, begins, walked. -/
import Derived.Test.YtaohdicilfabeaaGreatDoorTkRefLeaf
import Derived.Test.YtaohdicilfabeaaGreatDoorTkLaws
import Derived.Lib.IndexMore
namespace Go.Proofs.YtaohdicilfabeaaGreatDoor
open Go.RowKit
set_option linter.unusedVariables false
set_option linter.unusedSimpArgs false

theorem blank_ints (b : UInt8) : Tk.blanks.contains b = (((b.toNat : Int) == 9) || ((b.toNat : Int) == 10) || ((b.toNat : Int) == 12) || ((b.toNat : Int) == 32)) := by
  revert b
  have h : ∀ n : Fin 256, Tk.blanks.contains (UInt8.ofNat n) = ((((UInt8.ofNat n).toNat : Int) == 9) || (((UInt8.ofNat n).toNat : Int) == 10) || (((UInt8.ofNat n).toNat : Int) == 12) || (((UInt8.ofNat n).toNat : Int) == 32)) := by decide +kernel
  intro b
  have h' := h ⟨b.toNat, b.toNat_lt⟩
  simpa only [UInt8.ofNat_toNat] using h'
theorem refBlank_any (b : UInt8) (w : World) :
    Calls Tryz.prog 47 #[.int .u8 (b.toNat : Int)] w fun e w' => e = .returned (.bool (Tk.blanks.contains b)) ∧ w = w' := by
  have HR := Lib.hid (blank_ints b)
  cases h1 : ((b.toNat : Int) == 9) with
  | true =>
    rw [h1] at HR
    go_enter Tryz.func47, Tryz.ntmps47
    go_wp2
    go_ret
    exact ⟨ret_bool (by rw [HR.out]; rfl), rfl⟩
  | false =>
    cases h2 : ((b.toNat : Int) == 10) with
    | true =>
      rw [h2] at HR
      go_enter Tryz.func47, Tryz.ntmps47
      go_wp2
      go_ret
      exact ⟨ret_bool (by rw [HR.out]; simp), rfl⟩
    | false =>
      cases h3 : ((b.toNat : Int) == 12) with
      | true =>
        rw [h3] at HR
        go_enter Tryz.func47, Tryz.ntmps47
        go_wp2
        go_ret
        exact ⟨ret_bool (by rw [HR.out]; simp), rfl⟩
      | false =>
        rw [h1, h2, h3] at HR
        go_enter Tryz.func47, Tryz.ntmps47
        go_wp2
        go_ret
        exact ⟨ret_bool (by rw [HR.out]; simp), rfl⟩

theorem at_of (s t : ByteArray) (i : Nat) (h : i + t.size ≤ s.size) : ((s.extract i (i + t.size)).toList == t.toList) = Lib.hasPrefix (s.data.toList.drop i) t.data.toList := by
  rw [Lib.extract_toList, Lib.toList_data, ← Lib.hasPrefix_of_take]
  have h1 : t.data.toList.length = t.size := (Lib.size_eq t).symm
  have h2 : s.data.toList.length = s.size := (Lib.size_eq s).symm
  have h3 : i + t.size - i = t.data.toList.length := by omega
  rw [h3]
  have h4 : decide (t.data.toList.length ≤ (s.data.toList.drop i).length) = true := by rw [decide_eq_true_eq, List.length_drop]; omega
  rw [h4]; simp
theorem at_long (s t : ByteArray) (i : Nat) (hi : i ≤ s.size) (h : s.size < i + t.size) : Lib.hasPrefix (s.data.toList.drop i) t.data.toList = false := by
  rw [Bool.eq_false_iff]; intro hp
  have h0 := (List.isPrefixOf_iff_prefix.1 hp).length_le
  rw [List.length_drop, ← Lib.size_eq, ← Lib.size_eq] at h0
  omega
theorem refAt_any (s t : ByteArray) (i : Nat) (hi : i ≤ s.size) (hs : s.size ≤ 1000000) (ht : t.size ≤ 1000000) (w : World) :
    Calls Tryz.prog 27 #[.string s, .int .i64 (i : Int), .string t] w fun e w' => e = .returned (.bool (Lib.hasPrefix (s.data.toList.drop i) t.data.toList)) ∧ w = w' := by
  by_cases h : i + t.size ≤ s.size
  · have HE := Lib.hid (at_of s t i h)
    have h1 : (i : Int) + (t.size : Int) ≤ (s.size : Int) := by omega
    have h2 : ((i : Int) + (t.size : Int)).toNat = i + t.size := by omega
    have h3 : (i : Int) ≤ (i : Int) + (t.size : Int) := by omega
    have h4 : (0 : Int) ≤ (i : Int) + (t.size : Int) := by omega
    go_enter Tryz.func27, Tryz.ntmps27
    go_wp2
    go_ret
    exact ⟨ret_bool HE.out, rfl⟩
  · have HE := Lib.hid (at_long s t i hi (by omega))
    have h1 : ¬ (i : Int) + (t.size : Int) ≤ (s.size : Int) := by omega
    go_enter Tryz.func27, Tryz.ntmps27
    go_wp2
    go_ret
    exact ⟨ret_bool HE.out.symm, rfl⟩

theorem drop_atr {l : List UInt8} {k : Nat} {b : UInt8} (h : l[k]? = some b) : l.drop k = b :: l.drop (k + 1) := by
  obtain ⟨h1, h2⟩ := List.getElem?_eq_some_iff.1 h
  rw [List.drop_eq_getElem_cons h1, h2]
theorem refSkip_any (s : ByteArray) (l : List UInt8) (hl : s.data.toList = l) (i : Nat) (hi : i ≤ s.size) (hs : s.size ≤ 1000000) (w : World) :
    Calls Tryz.prog 44 #[.string s, .int .i64 (i : Int)] w fun e w' => ∃ k : Nat, e = .returned (.int .i64 (k : Int)) ∧ i ≤ k ∧ k ≤ s.size ∧ l.drop k = Tk.skip (l.drop i) ∧ w = w' := by
  have HL := Lib.hid hl
  have HSZ : Hid (l.length = s.size) := by show _ = _; rw [← hl, ← Lib.size_eq]
  clear hl
  go_enter Tryz.func44, Tryz.ntmps44
  go_wp2_with fail
  go_loopg [1] (s.size - i) (fun g v wr => ∃ k : Nat, v = .int .i64 (k : Int) ∧ k + g = s.size ∧ i ≤ k ∧ w = wr ∧ Hid (Tk.skip (l.drop k) = Tk.skip (l.drop i)))
  case atStart => exact ⟨i, rfl, by omega, Nat.le_refl _, rfl, rfl⟩
  case round =>
    obtain ⟨k, rfl, hkg, hik, rfl, HS⟩ := hrel
    by_cases hk : k < s.size
    · obtain ⟨g, rfl⟩ : ∃ g, gk = g + 1 := ⟨gk - 1, by omega⟩
      have hki : (k : Int) < (s.size : Int) := by omega
      obtain ⟨b, hb⟩ : ∃ b : UInt8, s[k] = b := ⟨_, rfl⟩
      have HBL : Hid (l[k]? = some b) := by show _ = _; rw [← hb, ← HL.out]; exact Lib.data_getElem? s k hk
      have hbl := refBlank_any b w
      obtain ⟨q, hq⟩ : ∃ q, Tk.blanks.contains b = q := ⟨_, rfl⟩
      rw [hq] at hbl
      have HQ := Lib.hid hq
      clear hq
      cases q
      · go_wp2_with fail
        refine hbl.mono ?_
        rintro e w1 ⟨rfl, rfl⟩
        clear hbl
        go_wp2
        go_ret
        refine ⟨k, rfl, hik, by omega, ?_, rfl⟩
        have := HS.out
        rw [drop_atr HBL.out, Tk.skip_keep _ HQ.out] at this
        rw [drop_atr HBL.out]; exact this
      · go_wp2_with fail
        refine hbl.mono ?_
        rintro e w1 ⟨rfl, rfl⟩
        clear hbl
        go_wp2_with fail
        go_roundg g
        case measure => omega
        case rel =>
          refine ⟨k + 1, by simp, by omega, by omega, rfl, ?_⟩
          have := HS.out
          rw [drop_atr HBL.out, Tk.skip_drop _ HQ.out] at this
          exact this
    · have hki : ¬ (k : Int) < (s.size : Int) := by omega
      go_wp2
      go_ret
      refine ⟨k, rfl, hik, by omega, ?_, rfl⟩
      have := HS.out
      have e : l.drop k = [] := List.drop_eq_nil_of_le (by have := HSZ.out; omega)
      rw [e] at this ⊢; exact this

/-- Where a word is from a place on, or -1. -/
def findAt (l t : List UInt8) (i : Nat) : Int := if Lib.index (l.drop i) t < 0 then -1 else (i : Int) + Lib.index (l.drop i) t
theorem findAt_hit {l t : List UInt8} {i k : Nat} (hik : i ≤ k) (hk : k ≤ l.length) (h : Lib.hasPrefix (l.drop k) t = true) (hn : ∀ j, i ≤ j → j < k → Lib.hasPrefix (l.drop j) t = false) : findAt l t i = (k : Int) := by
  have : Lib.index (l.drop i) t = ((k - i : Nat) : Int) := by
    refine Lib.index_first (by rw [List.length_drop]; omega) ?_ ?_
    · unfold Lib.occAt; rw [List.drop_drop]
      have e : i + (k - i) = k := by omega
      rw [e]; exact h
    · intro j hj
      unfold Lib.occAt; rw [List.drop_drop]
      exact hn (i + j) (by omega) (by omega)
  unfold findAt
  rw [this, if_neg (by omega)]; omega
theorem findAt_miss {l t : List UInt8} {i : Nat} (hi : i ≤ l.length) (hn : ∀ j, i ≤ j → j ≤ l.length → Lib.hasPrefix (l.drop j) t = false) : findAt l t i = -1 := by
  unfold findAt
  rw [Lib.index_none (fun j hj => by
    unfold Lib.occAt; rw [List.drop_drop]
    rw [List.length_drop] at hj
    exact hn (i + j) (by omega) (by omega)), if_pos (by decide)]
theorem refFind_any (s t : ByteArray) (i : Nat) (hi : i ≤ s.size) (hs : s.size ≤ 1000000) (ht : t.size ≤ 1000000) (ht0 : 0 < t.size) (w : World) :
    Calls Tryz.prog 46 #[.string s, .int .i64 (i : Int), .string t] w fun e w' => e = .returned (.int .i64 (findAt s.data.toList t.data.toList i)) ∧ w = w' := by
  have HSZ : Hid (s.data.toList.length = s.size) := (Lib.size_eq s).symm
  go_enter Tryz.func46, Tryz.ntmps46
  go_wp2_with fail
  go_loopg [7] (s.size + 1 - i) (fun g v wr => ∃ k : Nat, v = .int .i64 (k : Int) ∧ k + g = s.size + 1 ∧ i ≤ k ∧ w = wr ∧ Hid (∀ j, i ≤ j → j < k → Lib.hasPrefix (s.data.toList.drop j) t.data.toList = false))
  case atStart => exact ⟨i, rfl, by omega, Nat.le_refl _, rfl, fun j h1 h2 => by omega⟩
  case round =>
    obtain ⟨k, rfl, hkg, hik, rfl, HN⟩ := hrel
    by_cases hk : k + t.size ≤ s.size
    · obtain ⟨g, rfl⟩ : ∃ g, gk = g + 1 := ⟨gk - 1, by omega⟩
      have hki : (k : Int) ≤ (s.size : Int) - (t.size : Int) := by omega
      have hat := refAt_any s t k (by omega) hs ht w
      obtain ⟨q, hq⟩ : ∃ q, Lib.hasPrefix (s.data.toList.drop k) t.data.toList = q := ⟨_, rfl⟩
      rw [hq] at hat
      have HQ := Lib.hid hq
      clear hq
      cases q
      · go_wp2_with fail
        refine hat.mono ?_
        rintro e w1 ⟨rfl, rfl⟩
        clear hat
        go_wp2_with fail
        go_roundg g
        case measure => omega
        case rel =>
          refine ⟨k + 1, by simp, by omega, by omega, rfl, fun j h1 h2 => ?_⟩
          rcases Nat.lt_or_ge j k with h3 | h3
          · exact HN.out j h1 h3
          · obtain rfl : j = k := by omega
            exact HQ.out
      · go_wp2_with fail
        refine hat.mono ?_
        rintro e w1 ⟨rfl, rfl⟩
        clear hat
        go_wp2
        go_ret
        exact ⟨ret_int (findAt_hit hik (by have := HSZ.out; omega) HQ.out HN.out).symm, rfl⟩
    · have hki : ¬ (k : Int) ≤ (s.size : Int) - (t.size : Int) := by omega
      have HM : Hid (findAt s.data.toList t.data.toList i = -1) := findAt_miss (by have := HSZ.out; omega) (fun j h1 h2 => by
        rcases Nat.lt_or_ge j k with h3 | h3
        · exact HN.out j h1 h3
        · exact at_long s t j (by have := HSZ.out; omega) (by omega))
      go_wp2
      go_ret
      exact ⟨ret_int HM.out.symm, rfl⟩

theorem hasPrefix_one (l : List UInt8) (b : UInt8) (j : Nat) : Lib.hasPrefix (l.drop j) [b] = (l[j]? == some b) := by
  cases h : l[j]? with
  | none =>
    rw [List.drop_eq_nil_of_le (List.getElem?_eq_none_iff.1 h)]; rfl
  | some x =>
    rw [drop_atr h]
    unfold Lib.hasPrefix
    simp [List.isPrefixOf]
    exact BEq.comm
theorem findAt_one (l : List UInt8) (b : UInt8) : (findAt l [b] 0 < 0) ↔ l.contains b = false := by
  constructor
  · intro h
    rw [Bool.eq_false_iff]; intro hc
    obtain ⟨j, hj⟩ := List.getElem?_of_mem (List.contains_iff_mem.1 hc)
    have hr := Lib.index_spec (l.drop 0) [b]
    rcases hr with ⟨_, hn⟩ | ⟨i, h1, _⟩
    · have := hn j (by have := (List.getElem?_eq_some_iff.1 hj).1; rw [List.length_drop]; omega)
      unfold Lib.occAt at this
      rw [List.drop_drop, Nat.zero_add] at this
      have h2 := hasPrefix_one l b j
      unfold Lib.hasPrefix at h2
      rw [this, hj] at h2; simp at h2
    · unfold findAt at h
      rw [h1, if_neg (by omega)] at h; omega
  · intro h
    rw [findAt_miss (by omega) (fun j _ _ => ?_)]
    · decide
    · rw [hasPrefix_one]
      rw [Bool.eq_false_iff] at h ⊢
      intro h2; apply h
      rw [beq_iff_eq] at h2
      exact List.contains_iff_mem.2 (List.mem_of_getElem? h2)
theorem one_byte (s : ByteArray) (k : Nat) (b : UInt8) (h : s.data.toList[k]? = some b) : (s.extract k (k + 1)).data.toList = [b] ∧ (s.extract k (k + 1)).size = 1 := by
  have h1 : (s.extract k (k + 1)).data.toList = [b] := by
    rw [Lib.extract_data, drop_atr h]
    have : k + 1 - k = 1 := by omega
    rw [this]; rfl
  exact ⟨h1, by rw [Lib.size_eq, h1]; rfl⟩
theorem stop_any (c : ByteArray) (s : ByteArray) (k : Nat) (b : UInt8) (h : s.data.toList[k]? = some b) (hc : c.size ≤ 1000000) (w : World) (x : ByteArray) (hx : x = s.extract k (k + 1)) :
    Calls Tryz.prog 46 #[.string c, .int .i64 0, .string x] w fun e w' => (∃ r : Int, e = .returned (.int .i64 r) ∧ decide (r < 0) = !(c.data.toList.contains b)) ∧ w = w' := by
  obtain ⟨h1, h2⟩ := one_byte s k b h
  subst hx
  refine (refFind_any c _ 0 (Nat.zero_le _) hc (by omega) (by omega) w).mono ?_
  rintro e w' ⟨he, hw⟩
  refine ⟨⟨_, he, ?_⟩, hw⟩
  rw [h1]
  have := findAt_one c.data.toList b
  cases hcb : c.data.toList.contains b
  · rw [hcb] at this; simp [this]
  · rw [hcb] at this; simpa using this

theorem past_stop {c l : List UInt8} {k : Nat} {b : UInt8} (h : l[k]? = some b) (hc : c.contains b = true) : Tk.past c (l.drop k) = l.drop k := by
  rw [drop_atr h]; unfold Tk.past; rw [List.dropWhile_cons, hc]; rfl
theorem past_go {c l : List UInt8} {k : Nat} {b : UInt8} (h : l[k]? = some b) (hc : c.contains b = false) : Tk.past c (l.drop k) = Tk.past c (l.drop (k + 1)) := by
  rw [drop_atr h]; unfold Tk.past; rw [List.dropWhile_cons, hc]; rfl
theorem word_stops (b : UInt8) (c : List UInt8) : (Tk.blanks ++ c).contains b = (Tk.blanks.contains b || c.contains b) := by
  rw [Bool.eq_iff_iff, List.contains_iff_mem, Bool.or_eq_true, List.contains_iff_mem, List.contains_iff_mem, List.mem_append]
theorem refWord_any (s c : ByteArray) (l : List UInt8) (hl : s.data.toList = l) (i : Nat) (hi : i ≤ s.size) (hs : s.size ≤ 1000000) (hc : c.size ≤ 1000000) (w : World) :
    Calls Tryz.prog 42 #[.string s, .int .i64 (i : Int), .string c] w fun e w' => ∃ k : Nat, e = .returned (.int .i64 (k : Int)) ∧ i ≤ k ∧ k ≤ s.size ∧ l.drop k = Tk.past (Tk.blanks ++ c.data.toList) (l.drop i) ∧ w = w' := by
  have HL := Lib.hid hl
  have HSZ : Hid (l.length = s.size) := by show _ = _; rw [← hl, ← Lib.size_eq]
  clear hl
  go_enter Tryz.func42, Tryz.ntmps42
  go_wp2_with fail
  go_loopg [1] (s.size - i) (fun g v wr => ∃ k : Nat, v = .int .i64 (k : Int) ∧ k + g = s.size ∧ i ≤ k ∧ w = wr ∧ Hid (Tk.past (Tk.blanks ++ c.data.toList) (l.drop k) = Tk.past (Tk.blanks ++ c.data.toList) (l.drop i)))
  case atStart => exact ⟨i, rfl, by omega, Nat.le_refl _, rfl, rfl⟩
  case round =>
    obtain ⟨k, rfl, hkg, hik, rfl, HS⟩ := hrel
    by_cases hk : k < s.size
    · obtain ⟨g, rfl⟩ : ∃ g, gk = g + 1 := ⟨gk - 1, by omega⟩
      have hki : (k : Int) < (s.size : Int) := by omega
      have hk1 : (k : Int) + 1 ≤ (s.size : Int) := by omega
      have hk2 : ((k : Int) + 1).toNat = k + 1 := by omega
      have hk3 : (k : Int) ≤ (k : Int) + 1 := by omega
      have hk4 : (0 : Int) ≤ (k : Int) + 1 := by omega
      obtain ⟨b, hb⟩ : ∃ b : UInt8, s[k] = b := ⟨_, rfl⟩
      have HBL : Hid (l[k]? = some b) := by show _ = _; rw [← hb, ← HL.out]; exact Lib.data_getElem? s k hk
      have hbl := refBlank_any b w
      obtain ⟨q, hq⟩ : ∃ q, Tk.blanks.contains b = q := ⟨_, rfl⟩
      rw [hq] at hbl
      have HQ := Lib.hid hq
      clear hq
      cases q
      · go_wp2_with fail
        refine hbl.mono ?_
        rintro e w1 ⟨rfl, rfl⟩
        clear hbl
        go_wp2_with fail
        refine (stop_any c s k b (by rw [HL.out]; exact HBL.out) hc w _ rfl).mono ?_
        rintro e w1 ⟨⟨r, rfl, hr⟩, rfl⟩
        obtain ⟨p, hp⟩ : ∃ p, c.data.toList.contains b = p := ⟨_, rfl⟩
        rw [hp] at hr
        have HP : Hid ((Tk.blanks ++ c.data.toList).contains b = p) := by show _ = _; rw [word_stops, HQ.out, hp]; rfl
        clear hp
        cases p
        · have hr0 : r < 0 := by simpa using hr
          clear hr
          go_wp2_with fail
          go_roundg g
          case measure => omega
          case rel => exact ⟨k + 1, by simp, by omega, by omega, rfl, by show _ = _; rw [← HS.out, past_go HBL.out HP.out]⟩
        · have hr0 : ¬ r < 0 := by simpa using hr
          clear hr
          go_wp2
          go_ret
          exact ⟨k, rfl, hik, by omega, by rw [← HS.out, past_stop HBL.out HP.out], rfl⟩
      · go_wp2_with fail
        refine hbl.mono ?_
        rintro e w1 ⟨rfl, rfl⟩
        clear hbl
        have HP : Hid ((Tk.blanks ++ c.data.toList).contains b = true) := by show _ = _; rw [word_stops, HQ.out]; rfl
        go_wp2
        go_ret
        exact ⟨k, rfl, hik, by omega, by rw [← HS.out, past_stop HBL.out HP.out], rfl⟩
    · have hki : ¬ (k : Int) < (s.size : Int) := by omega
      go_wp2
      go_ret
      refine ⟨k, rfl, hik, by omega, ?_, rfl⟩
      have := HS.out
      have e : l.drop k = [] := List.drop_eq_nil_of_le (by have := HSZ.out; omega)
      rw [e] at this ⊢; exact this

theorem made_bad {l c : List UInt8} {k : Nat} {b : UInt8} (h : l[k]? = some b) (hf : Tk.fit c b = false) : Tk.made l c = false := by
  unfold Tk.made
  have : l.all (Tk.fit c) = false := by
    rw [Bool.eq_false_iff]; intro ha
    rw [List.all_eq_true.1 ha b (List.mem_of_getElem? h)] at hf; cases hf
  rw [this]; rfl
theorem all_succ {l : List UInt8} {f : UInt8 → Bool} {k : Nat} {b : UInt8} (h : (l.take k).all f = true) (hb : l[k]? = some b) (hf : f b = true) : (l.take (k + 1)).all f = true := by
  obtain ⟨h1, h2⟩ := List.getElem?_eq_some_iff.1 hb
  rw [List.take_succ_eq_append_getElem h1, h2, List.all_append, h]; simp [hf]
theorem refOf_any (s c : ByteArray) (l : List UInt8) (hl : s.data.toList = l) (hs : s.size ≤ 1000000) (hc : c.size ≤ 1000000) (w : World) :
    Calls Tryz.prog 43 #[.string s, .string c] w fun e w' => e = .returned (.bool (Tk.made l c.data.toList)) ∧ w = w' := by
  have HL := Lib.hid hl
  have HSZ : Hid (l.length = s.size) := by show _ = _; rw [← hl, ← Lib.size_eq]
  clear hl
  go_enter Tryz.func43, Tryz.ntmps43
  go_wp2_with fail
  go_loopg [5] s.size (fun g v wr => ∃ k : Nat, v = .int .i64 (k : Int) ∧ k + g = s.size ∧ w = wr ∧ Hid ((l.take k).all (Tk.fit c.data.toList) = true))
  case atStart => exact ⟨0, rfl, by omega, rfl, rfl⟩
  case round =>
    obtain ⟨k, rfl, hkg, rfl, HS⟩ := hrel
    by_cases hk : k < s.size
    · obtain ⟨g, rfl⟩ : ∃ g, gk = g + 1 := ⟨gk - 1, by omega⟩
      have hki : (k : Int) < (s.size : Int) := by omega
      have hk1 : (k : Int) + 1 ≤ (s.size : Int) := by omega
      have hk2 : ((k : Int) + 1).toNat = k + 1 := by omega
      have hk3 : (k : Int) ≤ (k : Int) + 1 := by omega
      have hk4 : (0 : Int) ≤ (k : Int) + 1 := by omega
      obtain ⟨b, hb⟩ : ∃ b : UInt8, s[k] = b := ⟨_, rfl⟩
      have HBL : Hid (l[k]? = some b) := by show _ = _; rw [← hb, ← HL.out]; exact Lib.data_getElem? s k hk
      have hlet := refLetter_any b w
      have hdig := refDigit_any b w
      obtain ⟨q, hq⟩ : ∃ q, Tk.letter b = q := ⟨_, rfl⟩
      obtain ⟨r, hr⟩ : ∃ r, Tk.digit b = r := ⟨_, rfl⟩
      have HQR : Hid (Tk.letter b = q ∧ Tk.digit b = r) := ⟨hq, hr⟩
      rw [hq] at hlet
      rw [hr] at hdig
      clear hq hr
      cases q
      · cases r
        · go_wp2_with fail
          refine hlet.mono ?_
          rintro e w1 ⟨rfl, rfl⟩
          clear hlet
          go_wp2_with fail
          refine hdig.mono ?_
          rintro e w1 ⟨rfl, rfl⟩
          clear hdig
          go_wp2_with fail
          refine (stop_any c s k b (by rw [HL.out]; exact HBL.out) hc w _ rfl).mono ?_
          rintro e w1 ⟨⟨x, rfl, hx⟩, rfl⟩
          obtain ⟨p, hp⟩ : ∃ p, c.data.toList.contains b = p := ⟨_, rfl⟩
          rw [hp] at hx
          have HP : Hid (Tk.fit c.data.toList b = p) := by show _ = _; unfold Tk.fit; rw [HQR.out.1, HQR.out.2, hp]; rfl
          clear hp
          cases p
          · have hx0 : x < 0 := by simpa using hx
            clear hx
            go_wp2
            go_ret
            exact ⟨ret_bool (made_bad HBL.out HP.out).symm, rfl⟩
          · have hx0 : ¬ x < 0 := by simpa using hx
            clear hx
            go_wp2_with fail
            go_roundg g
            case measure => omega
            case rel => exact ⟨k + 1, by simp, by omega, rfl, all_succ HS.out HBL.out HP.out⟩
        · go_wp2_with fail
          refine hlet.mono ?_
          rintro e w1 ⟨rfl, rfl⟩
          clear hlet
          go_wp2_with fail
          refine hdig.mono ?_
          rintro e w1 ⟨rfl, rfl⟩
          clear hdig
          have HP : Hid (Tk.fit c.data.toList b = true) := by show _ = _; unfold Tk.fit; rw [HQR.out.1, HQR.out.2]; rfl
          go_wp2_with fail
          go_roundg g
          case measure => omega
          case rel => exact ⟨k + 1, by simp, by omega, rfl, all_succ HS.out HBL.out HP.out⟩
      · go_wp2_with fail
        refine hlet.mono ?_
        rintro e w1 ⟨rfl, rfl⟩
        clear hlet hdig
        have HP : Hid (Tk.fit c.data.toList b = true) := by show _ = _; unfold Tk.fit; rw [HQR.out.1]; rfl
        go_wp2_with fail
        go_roundg g
        case measure => omega
        case rel => exact ⟨k + 1, by simp, by omega, rfl, all_succ HS.out HBL.out HP.out⟩
    · have hki : ¬ (k : Int) < (s.size : Int) := by omega
      have HE : Hid (Tk.made l c.data.toList = decide (0 < s.size)) := by
        have h1 := HS.out
        have h2 := HSZ.out
        rw [List.take_of_length_le (by omega)] at h1
        show _ = _
        unfold Tk.made; rw [h1, Bool.true_and, Bool.eq_iff_iff]
        rw [← h2]
        cases l with
        | nil => simp
        | cons a r => simp
      go_wp2
      go_ret
      exact ⟨ret_bool HE.out.symm, rfl⟩

theorem begins_drop {l : List UInt8} {k : Nat} {a d : UInt8} (ha : l[k]? = some a) (hd : l[k + 1]? = some d) : Tk.begins (l.drop k) = ((a == 60) && (Tk.letter d || d == 47 || d == 33 || d == 63)) := by
  rw [drop_atr ha, drop_atr hd]
  by_cases h : a = 60
  · subst h; rw [Tk.begins_lt]; simp
  · rw [Tk.begins_ne _ h]
    have : (a == 60) = false := by simpa using h
    rw [this]; rfl
theorem begins_end {l : List UInt8} {k : Nat} (h : l.length ≤ k + 1) : Tk.begins (l.drop k) = false := by
  rw [Bool.eq_false_iff]; intro hb
  have := Tk.begins_two_le hb
  rw [List.length_drop] at this; omega
theorem u8_beq (d : UInt8) (n : Nat) (hn : n < 256) : (d == UInt8.ofNat n) = ((d.toNat : Int) == (n : Int)) := by
  rw [Bool.eq_iff_iff, beq_iff_eq, beq_iff_eq]
  constructor
  · intro h; subst h; simp [UInt8.toNat_ofNat']; omega
  · intro h
    apply UInt8.toNat_inj.1
    simp [UInt8.toNat_ofNat']; omega
theorem refBegins_any (s : ByteArray) (l : List UInt8) (hl : s.data.toList = l) (i : Nat) (hi : i ≤ s.size) (hs : s.size ≤ 1000000) (w : World) :
    Calls Tryz.prog 24 #[.string s, .int .i64 (i : Int)] w fun e w' => e = .returned (.bool (Tk.begins (l.drop i))) ∧ w = w' := by
  have HL := Lib.hid hl
  have HSZ : Hid (l.length = s.size) := by show _ = _; rw [← hl, ← Lib.size_eq]
  clear hl
  by_cases h2 : i + 1 < s.size
  · have hi1 : (i : Int) + 1 < (s.size : Int) := by omega
    have hi2 : ((i : Int) + 1).toNat = i + 1 := by omega
    have hi3 : (0 : Int) ≤ (i : Int) + 1 := by omega
    have hi0 : (i : Int) < (s.size : Int) := by omega
    have hin : i < s.size := by omega
    obtain ⟨a, ha⟩ : ∃ b : UInt8, s[i] = b := ⟨_, rfl⟩
    obtain ⟨d, hd⟩ : ∃ b : UInt8, s[i + 1] = b := ⟨_, rfl⟩
    have HA : Hid (l[i]? = some a) := by show _ = _; rw [← ha, ← HL.out]; exact Lib.data_getElem? s i hin
    have HD : Hid (l[i + 1]? = some d) := by show _ = _; rw [← hd, ← HL.out]; exact Lib.data_getElem? s (i + 1) h2
    have HB : Hid (Tk.begins (l.drop i) = (((a.toNat : Int) == 60) && (Tk.letter d || ((d.toNat : Int) == 47) || ((d.toNat : Int) == 33) || ((d.toNat : Int) == 63)))) := by
      show _ = _
      rw [begins_drop HA.out HD.out]
      have e1 := u8_beq a 60 (by decide)
      have e2 := u8_beq d 47 (by decide)
      have e3 := u8_beq d 33 (by decide)
      have e4 := u8_beq d 63 (by decide)
      rw [show (60 : UInt8) = UInt8.ofNat 60 from rfl, show (47 : UInt8) = UInt8.ofNat 47 from rfl, show (33 : UInt8) = UInt8.ofNat 33 from rfl, show (63 : UInt8) = UInt8.ofNat 63 from rfl, e1, e2, e3, e4]; rfl
    cases h60 : ((a.toNat : Int) == 60) with
    | false =>
      rw [h60] at HB
      go_enter Tryz.func24, Tryz.ntmps24
      go_wp2
      go_ret
      exact ⟨ret_bool (by rw [HB.out]; rfl), rfl⟩
    | true =>
      have hlet := refLetter_any d w
      obtain ⟨q, hq⟩ : ∃ q, Tk.letter d = q := ⟨_, rfl⟩
      rw [hq] at hlet
      rw [h60, hq] at HB
      clear hq
      cases q
      · cases h47 : ((d.toNat : Int) == 47) with
        | true =>
          rw [h47] at HB
          go_enter Tryz.func24, Tryz.ntmps24
          go_wp2_with fail
          refine hlet.mono ?_
          rintro e w1 ⟨rfl, rfl⟩
          clear hlet
          go_wp2
          go_ret
          exact ⟨ret_bool (by rw [HB.out]; simp), rfl⟩
        | false =>
          cases h33 : ((d.toNat : Int) == 33) with
          | true =>
            rw [h47, h33] at HB
            go_enter Tryz.func24, Tryz.ntmps24
            go_wp2_with fail
            refine hlet.mono ?_
            rintro e w1 ⟨rfl, rfl⟩
            clear hlet
            go_wp2
            go_ret
            exact ⟨ret_bool (by rw [HB.out]; simp), rfl⟩
          | false =>
            rw [h47, h33] at HB
            go_enter Tryz.func24, Tryz.ntmps24
            go_wp2_with fail
            refine hlet.mono ?_
            rintro e w1 ⟨rfl, rfl⟩
            clear hlet
            go_wp2
            go_ret
            exact ⟨ret_bool (by rw [HB.out]; simp), rfl⟩
      · go_enter Tryz.func24, Tryz.ntmps24
        go_wp2_with fail
        refine hlet.mono ?_
        rintro e w1 ⟨rfl, rfl⟩
        clear hlet
        go_wp2
        go_ret
        exact ⟨ret_bool (by rw [HB.out]; simp), rfl⟩
  · have hi1 : ¬ (i : Int) + 1 < (s.size : Int) := by omega
    have HB : Hid (Tk.begins (l.drop i) = false) := begins_end (by have := HSZ.out; omega)
    go_enter Tryz.func24, Tryz.ntmps24
    go_wp2
    go_ret
    exact ⟨ret_bool HB.out.symm, rfl⟩
end Go.Proofs.YtaohdicilfabeaaGreatDoor

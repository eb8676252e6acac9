/- Decode, walked: a text without references. -/
import Derived.Test.YtaohdicilfabeaaGreatDoorTkBuilder
import Derived.Lib.IndexLaws
namespace Go.Proofs.YtaohdicilfabeaaGreatDoor
open Go.RowKit

theorem byte_none {l : List UInt8} (h : Lib.indexByte l 38 < 0) : ∀ c ∈ l, c ≠ 38 := by
  have h1 : Lib.indexByte l 38 = -1 := by have := Lib.indexByte_ge l 38; omega
  intro c hc e
  obtain ⟨k, hk⟩ := List.getElem?_of_mem hc
  exact Lib.indexByte_none h1 k (by rw [hk, e])
theorem byte_some {l : List UInt8} {n : Nat} (h : Lib.indexByte l 38 = n) : n < l.length ∧ (∀ c ∈ l.take n, c ≠ 38) ∧ l.drop n = 38 :: l.drop (n + 1) := by
  obtain ⟨h1, h2⟩ := Lib.indexByte_some h
  obtain ⟨hn, he⟩ := List.getElem?_eq_some_iff.1 h1
  refine ⟨hn, fun c hc e => ?_, by rw [List.drop_eq_getElem_cons hn, he]⟩
  obtain ⟨k, hk⟩ := List.getElem?_of_mem hc
  have hkn : k < n := by have := (List.getElem?_eq_some_iff.1 hk).1; rw [List.length_take] at this; omega
  rw [List.getElem?_take_of_lt hkn] at hk
  exact h2 k hkn (by rw [hk, e])
theorem fixed_range {ot : List Int} (hor : ∀ x ∈ ot, 0 ≤ x ∧ x ≤ 65535) {n : Int} : -2147483648 ≤ Tk.fixed ot n ∧ Tk.fixed ot n ≤ 2147483647 := by
  unfold Tk.fixed
  split
  · omega
  · rename_i hn
    split
    · rename_i h
      obtain ⟨_, _, h3⟩ := h
      by_cases hk : (n - 128).toNat < ot.length
      · have e : ot.getD (n - 128).toNat 0 = ot[(n - 128).toNat] := by rw [List.getD_eq_getElem?_getD, List.getElem?_eq_getElem hk]; rfl
        have := hor _ (List.getElem_mem hk)
        rw [e]; omega
      · exact absurd (by rw [List.getD_eq_getElem?_getD, List.getElem?_eq_none (by omega)]; rfl) h3
    · have hv : Lib.validRune n = true := by
        cases h : Lib.validRune n
        · exact absurd (.inr h) hn
        · rfl
      unfold Lib.validRune at hv; simp at hv; omega
theorem findFrom_range {nm : List (List UInt8 × Int × Bool)} (hnr : ∀ x ∈ nm, 0 ≤ x.2.1 ∧ x.2.1 ≤ 1114111) {attr : Bool} {s : List UInt8} : ∀ (k : Nat) {r : Int} {n : Nat}, Tk.findFrom nm attr s k = some (r, n) → -2147483648 ≤ r ∧ r ≤ 2147483647
  | 0, _, _, h => by cases h
  | k + 1, r, n, h => by
    have hx : ∀ i, -2147483648 ≤ (Tk.nameAt nm i).2.1 ∧ (Tk.nameAt nm i).2.1 ≤ 2147483647 := by
      intro i
      unfold Tk.nameAt
      by_cases hi : i < nm.length
      · have e : nm.getD i ([], 0, false) = nm[i] := by rw [List.getD_eq_getElem?_getD, List.getElem?_eq_getElem hi]; rfl
        have := hnr _ (List.getElem_mem hi)
        rw [e]; omega
      · rw [List.getD_eq_getElem?_getD, List.getElem?_eq_none (by omega)]; simp
    rw [findFrom_step] at h
    split at h
    · exact findFrom_range hnr k h
    · split at h
      · cases h; exact hx _
      · split at h
        · exact findFrom_range hnr k h
        · split at h
          · cases h
          · cases h; exact hx _
theorem find_range {nm : List (List UInt8 × Int × Bool)} {ot : List Int} (hnr : ∀ x ∈ nm, 0 ≤ x.2.1 ∧ x.2.1 ≤ 1114111) (hor : ∀ x ∈ ot, 0 ≤ x ∧ x ≤ 65535) {attr : Bool} {s : List UInt8} {r : Int} {n : Nat} (h : Tk.find nm ot attr s = some (r, n)) : -2147483648 ≤ r ∧ r ≤ 2147483647 := by
  unfold Tk.find at h
  split at h
  · cases h
  · split at h
    · cases hn : Tk.number ot (s.drop 2) with
      | none => rw [hn] at h; cases h
      | some x =>
        rw [hn] at h; cases h
        unfold Tk.number at hn
        have hx : ∀ rest base, Tk.numberAt ot (s.drop 2) rest base = some x → -2147483648 ≤ x.1 ∧ x.1 ≤ 2147483647 := by
          intro rest base hq
          unfold Tk.numberAt at hq
          split at hq
          · cases hq
          · cases hq; exact fixed_range hor
        split at hn
        · exact hx _ _ hn
        · exact hx _ _ hn
    · exact findFrom_range hnr _ h
theorem builder_new (w : World) : Lib.IsBuilderF BT U8 w.heap.size w.heap.size (Lib.byteCells []) (w.alloc (.cells #[.pointer none, .slice none 0 0] BT (0, 0))) :=
  .inl ⟨Nat.le_refl _, .slice none 0 0, bN w _, World.ownsRowF_nil _ _ _ _, by simp [Value.ownBlock]⟩
theorem strCells_list (t : ByteArray) (L : List UInt8) (h : t.data.toList = L) : Lib.strCells t = Lib.byteCells L := by rw [Lib.strCells_eq, h]

theorem builder_keep {B b : Nat} {bs : List Value} {w w' : World} (h : Lib.IsBuilderF BT U8 B b bs w) (hb : Below w.heap.size w w') : Lib.IsBuilderF BT U8 B b bs w' := by
  have k : ∀ p, Lib.BuilderAtF BT U8 B b p bs w → Lib.BuilderAtF BT U8 B b p bs w' := by
    rintro p ⟨hB, v, hbk, hown, hne⟩
    exact ⟨hB, v, bB hbk hb, hown.kept (row := none) ⟨hb.os, hb.tape, hb.output, hb.size, fun i hi _ => hb.block i hi⟩ (by cases v.ownBlock <;> simp), hne⟩
  exact h.elim (fun x => .inl (k _ x)) (fun x => .inr (k _ x))

set_option maxRecDepth 100000 in
set_option maxHeartbeats 4000000 in
theorem decode_said {nm : List (List UInt8 × Int × Bool)} {ot : List Int} (hn : nm.length = 59) (hot : ot.length = 32) (hnr : ∀ x ∈ nm, 0 ≤ x.2.1 ∧ x.2.1 ≤ 1114111) (hor : ∀ x ∈ ot, 0 ≤ x ∧ x ≤ 65535) : DecodeSaid nm ot (Tk.dec nm ot) := by
  intro l attr w hlen hgl
  have HN := Lib.hid hn
  have HOT := Lib.hid hot
  have HNR := Lib.hid hnr
  have HOR := Lib.hid hor
  have HGL := Lib.hid hgl
  have h5 := hgl.lt
  obtain ⟨t, ht⟩ : ∃ t : ByteArray, (⟨l.toArray⟩ : ByteArray) = t := ⟨_, rfl⟩
  have HT : Hid (t.data.toList = l) := by show _ = _; rw [← ht]
  rw [ht]
  clear hn hot hnr hor hgl ht
  go_enter Tryz.func33, Tryz.ntmps33
  go_upto_block 0 with (fail)
  have HB0 := Lib.hid (builder_new w)
  have HW0 : Hid (Below w.heap.size w (w.alloc (.cells #[.pointer none, .slice none 0 0] BT (0, 0)))) := (Below.refl _ _).alloc (Nat.le_refl _) _
  generalize w.alloc (.cells #[.pointer none, .slice none 0 0] BT (0, 0)) = w1 at *
  generalize hbb : w.heap.size = b at *
  have HBB := Lib.hid hbb
  clear hbb
  go_wp2_with fail
  go_loopg [0] (l.length + 1) (fun f s wr => ∃ (t : ByteArray) (L acc : List UInt8), s = .string t ∧ Hid (t.data.toList = L) ∧ L.length < f ∧ L.length ≤ 1000000 ∧ acc.length + 4 * L.length ≤ 4000000 ∧ Hid (Lib.IsBuilderF BT U8 b b (Lib.byteCells acc) wr) ∧ Hid (Below b w wr) ∧ Hid (acc ++ Tk.dec nm ot L attr = Tk.dec nm ot l attr))
  case atStart => exact ⟨t, l, [], rfl, HT, Nat.lt_succ_self _, hlen, by simp; omega, HB0, HW0, rfl⟩
  case round =>
    clear HB0 HW0 HT
    obtain ⟨t, L, acc, rfl, HT, hLf, hL1, hacc, HB, HW, HR⟩ := hrel
    obtain ⟨f, rfl⟩ : ∃ f, gk = f + 1 := ⟨gk - 1, by omega⟩
    have htl : t.size = L.length := by rw [← HT.out, ← Lib.size_eq]
    have HTL := Lib.hid htl
    have hts : t.size ≤ 1000000 := by omega
    clear htl
    go_wp2_with fail
    refine (indexByte_any t 38 _).mono ?_
    rintro e w2 ⟨he, rfl⟩
    have hib : Hid (Lib.indexByte t.data.toList (Int.toNat 38).toUInt8 = Lib.indexByte L 38) := by show _ = _; rw [HT.out]; rfl
    rw [hib.out] at he
    clear hib
    obtain ⟨i, hi⟩ : ∃ i, Lib.indexByte L 38 = i := ⟨_, rfl⟩
    have HI := Lib.hid hi
    rw [hi] at he
    subst he
    clear hi
    by_cases h0 : i < 0
    · have hno := byte_none (l := L) (by rw [HI.out]; exact h0)
      have HD : Hid (acc ++ L = Tk.dec nm ot l attr) := by
        show _ = _
        have := Tk.dec_skip nm ot attr L [] hno
        rw [List.append_nil, Tk.dec_nil, List.append_nil] at this
        rw [← HR.out, this]
      clear hno HR
      go_wp2_with fail
      refine (writeString_any b b (Lib.byteCells acc) t _ HB.out (by rw [Lib.byteCells_length]; omega) (by rw [← HBB.out]; exact HW.out.size)).mono ?_
      rintro e w3 ⟨rfl, hb3, hw3⟩
      rw [strCells_list t L HT.out, ← Lib.byteCells_append] at hb3
      have HB3 := Lib.hid hb3
      have HW3 := Lib.hid (HW.out.trans hw3)
      clear hb3 hw3
      go_wp2_with fail
      refine (builderString_any b b (acc ++ L) _ HB3.out (by rw [← HBB.out]; exact HW3.out.size)).mono ?_
      rintro e w4 ⟨rfl, hw4⟩
      go_wp2
      go_ret
      exact ⟨by rw [← HD.out]; rfl, by rw [HBB.out]; exact HW3.out.trans hw4⟩
    · obtain ⟨n, rfl⟩ : ∃ n : Nat, i = n := ⟨i.toNat, by omega⟩
      obtain ⟨hnL, hno, hdr⟩ := byte_some HI.out
      have hdec : Tk.dec nm ot L attr = L.take n ++ Tk.dec nm ot (L.drop n) attr := by
        have := Tk.dec_skip nm ot attr (L.take n) (L.drop n) hno
        rw [List.take_append_drop] at this; exact this
      have hdc := Tk.dec_cons nm ot attr 38 (L.drop (n + 1))
      rw [← hdr] at hdc
      rw [hdc] at hdec
      have hnt : n < t.size := by rw [HTL.out]; exact hnL
      have hni : (n : Int) ≤ (t.size : Int) := by omega
      have hnu : (t.extract 0 n).data.toList = L.take n := by rw [Lib.extract_data, HT.out]; simp
      have hnv : (t.extract n t.size).data.toList = L.drop n := by rw [Lib.extract_to_end, HT.out]
      have hns : (t.extract 0 n).size ≤ 1000000 := by simp; omega
      have hvs : (t.extract n t.size).size ≤ 1000000 := by simp; omega
      have htk : (L.take n).length = n := by rw [List.length_take]; omega
      have HNU := Lib.hid hnu
      have HNV := Lib.hid hnv
      have HDEC := Lib.hid hdec
      have HTK := Lib.hid htk
      have HNS := Lib.hid hns
      have HVS := Lib.hid hvs
      clear hno hdr hdc hdec hnu hnv htk hns hvs HI
      go_wp2_with fail
      refine (writeString_any b b (Lib.byteCells acc) (t.extract 0 n) _ HB.out (by have := HNS.out; rw [Lib.byteCells_length]; omega) (by rw [← HBB.out]; exact HW.out.size)).mono ?_
      rintro e w3 ⟨rfl, hb3, hw3⟩
      rw [strCells_list _ _ HNU.out, ← Lib.byteCells_append] at hb3
      have HB3 := Lib.hid hb3
      have HW3 := Lib.hid (HW.out.trans hw3)
      have hG3 := HGL.out.below HW3.out (by omega)
      clear hb3 hw3 HB HW
      go_wp2_with fail
      refine (find_any HN.out HOT.out HOR.out _ (L.drop n) HNV.out attr _ hG3 HVS.out).mono ?_
      rintro e w4 ⟨he, hb4⟩
      have hw34 : b ≤ w3.heap.size := by rw [← HBB.out]; exact HW3.out.size
      have HB4 := Lib.hid (builder_keep HB3.out hb4)
      have HW4 := Lib.hid (HW3.out.trans (hb4.mono hw34))
      have hw4 : b ≤ w4.heap.size := Nat.le_trans hw34 hb4.size
      clear HB3 HW3 hb4 hG3 hw34
      cases hf : Tk.find nm ot attr (L.drop n) with
      | none =>
        rw [hf] at he
        subst he
        have hd2 : Hid (Tk.dec nm ot L attr = L.take n ++ (38 :: Tk.dec nm ot (L.drop (n + 1)) attr)) := by
          have := HDEC.out; rw [hf] at this; exact this
        clear hf HDEC
        simp only [numRes]
        go_wp2_with fail
        refine (writeByte_any b b _ 38 _ HB4.out (by have := HTK.out; rw [Lib.byteCells_length, List.length_append]; omega) hw4).mono ?_
        rintro e w5 ⟨rfl, hb5, hw5⟩
        have hbc : Lib.byteCells (acc ++ L.take n) ++ [.int .u8 38] = Lib.byteCells (acc ++ L.take n ++ [38]) := by rw [Lib.byteCells_append (acc ++ L.take n)]; rfl
        rw [hbc] at hb5
        have HB5 := Lib.hid hb5
        have HW5 := Lib.hid (HW4.out.trans hw5)
        clear hb5 hw5 hbc
        have hn1 : (n : Int) + 1 ≤ (t.size : Int) := by omega
        have hn1n : ((n : Int) + 1).toNat = n + 1 := by omega
        have hn10 : (0 : Int) ≤ (n : Int) + 1 := by omega
        go_wp2_with fail
        go_roundg f
        case measure => omega
        case rel => exact ⟨t.extract (n + 1) t.size, L.drop (n + 1), acc ++ L.take n ++ [38], rfl, by show _ = _; rw [Lib.extract_to_end, HT.out], by rw [List.length_drop]; omega, by rw [List.length_drop]; omega, by have := HTK.out; simp only [List.length_append, List.length_drop, this]; simp; omega, HB5, HW5, by show _ = _; rw [← HR.out, hd2.out]; simp⟩
      | some x =>
        obtain ⟨r, m⟩ := x
        rw [hf] at he
        subst he
        have hfl := Tk.find_len hf
        rw [List.length_drop] at hfl
        have hrr := find_range HNR.out HOR.out hf
        have hd2 : Hid (Tk.dec nm ot L attr = L.take n ++ (Lib.encodeRune r ++ Tk.dec nm ot ((L.drop n).drop m) attr)) := by
          have := HDEC.out; rw [hf] at this; exact this
        have hk4 := (Lib.runeCells_le r).2
        rw [Lib.runeCells_length] at hk4
        have HK4 := Lib.hid hk4
        clear hf HDEC hk4
        simp only [numRes]
        go_wp2_with fail
        refine (writeRune_any b b _ r hrr.1 hrr.2 _ HB4.out (by have := HTK.out; rw [Lib.byteCells_length, List.length_append]; omega) hw4).mono ?_
        rintro e w5 ⟨⟨q, rfl⟩, hb5, hw5⟩
        rw [← Lib.byteCells_encodeRune, ← Lib.byteCells_append] at hb5
        have HB5 := Lib.hid hb5
        have HW5 := Lib.hid (HW4.out.trans hw5)
        have hnm : n + m ≤ t.size := by have := HTL.out; omega
        have hnm1 : (n : Int) + (m : Int) ≤ (t.size : Int) := by omega
        have hnmn : ((n : Int) + (m : Int)).toNat = n + m := by omega
        have hnm0 : (0 : Int) ≤ (n : Int) + (m : Int) := by omega
        obtain ⟨hm1, hm2⟩ := hfl
        clear hb5 hw5 hrr
        go_wp2_with fail
        go_roundg f
        case measure => omega
        case rel => exact ⟨t.extract (n + m) t.size, L.drop (n + m), acc ++ L.take n ++ Lib.encodeRune r, rfl, by show _ = _; rw [Lib.extract_to_end, HT.out], by rw [List.length_drop]; omega, by rw [List.length_drop]; omega, by have := HTK.out; have := HK4.out; simp only [List.length_append, List.length_drop, HTK.out]; omega, HB5, HW5, by show _ = _; rw [← HR.out, hd2.out, List.drop_drop]; simp⟩
end Go.Proofs.YtaohdicilfabeaaGreatDoor

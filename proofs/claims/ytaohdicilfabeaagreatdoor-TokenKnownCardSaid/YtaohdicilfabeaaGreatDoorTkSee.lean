/- Reading tokens and attributes where they lie. -/
import Derived.Test.YtaohdicilfabeaaGreatDoorTkTokens
namespace Go.Proofs.YtaohdicilfabeaaGreatDoor
open Go.RowKit

theorem tokCells_at : ∀ (ts : List Tk.Tok) (avs : List Value), avs.length = ts.length → ∀ (i : Nat) (t : Tk.Tok), ts[i]? = some t →
    ∃ av, avs[i]? = some av ∧ ∀ k, k < 5 → (tokCells ts avs)[i * 5 + k]? = (tokCell t av)[k]?
  | [], _, _, i, t, h => by simp at h
  | _ :: _, [], h, _, _, _ => by simp at h
  | t0 :: ts, a0 :: avs, hl, 0, t, h => by
    simp at h; subst h
    refine ⟨a0, rfl, fun k hk => ?_⟩
    unfold tokCells
    rw [List.getElem?_append_left (by simp [tokCell]; omega)]; simp
  | t0 :: ts, a0 :: avs, hl, i + 1, t, h => by
    obtain ⟨av, h1, h2⟩ := tokCells_at ts avs (by simpa using hl) i t (by simpa using h)
    refine ⟨av, by simpa using h1, fun k hk => ?_⟩
    unfold tokCells
    rw [List.getElem?_append_right (by simp [tokCell]; omega), ← h2 k hk]
    congr 1; simp [tokCell]; omega
theorem add_at (g k : Nat) : (⟨g, 0, none⟩ : Addr).add k = ⟨g, k, none⟩ := by
  unfold Addr.add; split
  · rename_i h0; rw [h0]
  · simp
theorem OwnT.shape {TT AT : TypeId} {w : World} {B : Nat} {v : Value} {ts : List Tk.Tok} (h : OwnT TT AT w B v ts) : ∃ a c, v = .slice a ts.length c := by
  obtain ⟨avs, _, ho, _⟩ := h; exact own_shape ho
/-- A token where it lies. -/
theorem OwnT.at {TT AT : TypeId} {w : World} {B : Nat} {a : Option Addr} {n c : Nat} {ts : List Tk.Tok} (h : OwnT TT AT w B (.slice a n c) ts) (i : Nat) (t : Tk.Tok) (hi : ts[i]? = some t) :
    ∃ g av, a = some ⟨g, 0, none⟩ ∧ (B ≤ g ∧ g < w.heap.size) ∧ OwnA AT w B av t.attrs ∧ w.cell? ⟨g, i * 5, none⟩ = some (.int .u8 (t.kind : Int)) ∧ w.cell? ⟨g, i * 5 + 1, none⟩ = some (.string ⟨t.name.toArray⟩) ∧ w.cell? ⟨g, i * 5 + 2, none⟩ = some av ∧
      w.cell? ⟨g, i * 5 + 3, none⟩ = some (.bool t.self) ∧ w.cell? ⟨g, i * 5 + 4, none⟩ = some (.string ⟨t.data.toArray⟩) := by
  obtain ⟨avs, hl, ho, ha⟩ := h
  obtain ⟨av, h1, h2⟩ := tokCells_at ts avs hl i t hi
  have hlen : i < ts.length := (List.getElem?_eq_some_iff.1 hi).1
  have ho' := ho
  rcases ho.2 with ⟨_, h0⟩ | ⟨g, cap', cur, hv, _⟩
  · omega
  · injection hv with e1 e2 e3
    subst e1
    have hc : ∀ k u, k < 5 → (tokCell t av)[k]? = some u → w.cell? ⟨g, i * 5 + k, none⟩ = some u := by
      intro k u hk hu
      have := ho'.cells (g := g) rfl (i * 5 + k) u (by rw [h2 k hk]; exact hu)
      rw [add_at] at this; exact this
    exact ⟨g, av, rfl, ho'.lt g rfl, ha i t av hi h1, hc 0 _ (by omega) rfl, hc 1 _ (by omega) rfl, hc 2 _ (by omega) rfl, hc 3 _ (by omega) rfl, hc 4 _ (by omega) rfl⟩
end Go.Proofs.YtaohdicilfabeaaGreatDoor

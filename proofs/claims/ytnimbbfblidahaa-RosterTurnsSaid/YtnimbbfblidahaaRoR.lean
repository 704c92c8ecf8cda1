/- Plain words: a world that is as another one was, but for one block. -/
import Derived.Test.YtnimbbfblidahaaRoP
namespace Go.Proofs.Ytnimbbfblidahaa
open Go.RowKit

def Off (g : Nat) (V W : World) : Prop := W.heap.size = V.heap.size ∧ (∀ b o, b ≠ g → W.cell? ⟨b, o, none⟩ = V.cell? ⟨b, o, none⟩) ∧ (∀ b o, W.frozen? ⟨b, o, none⟩ = V.frozen? ⟨b, o, none⟩)
def Nine (W : World) (g len : Nat) : Prop := ∀ k, k < len → (∃ v, W.cell? ⟨g, k, none⟩ = some v) ∧ W.frozen? ⟨g, k, none⟩ = false
theorem Off.refl (g : Nat) (V : World) : Off g V V := ⟨rfl, fun _ _ _ => rfl, fun _ _ => rfl⟩
theorem Off.set {g : Nat} {V W : World} (h : Off g V W) (k : Nat) (v : Value) : Off g V (W.setCell ⟨g, k, none⟩ v) := by
  refine ⟨by simp [h.1], fun b o hb => ?_, fun b o => by simp [h.2.2 b o]⟩
  rw [World.cell?_setCell_other _ _ _ _ (by intro e; simp only [Addr.mk.injEq] at e; exact hb e.1.symm)]
  exact h.2.1 b o hb
theorem Nine.set {g len : Nat} {W : World} (h : Nine W g len) (k : Nat) (v : Value) : Nine (W.setCell ⟨g, k, none⟩ v) g len := by
  intro j hj
  obtain ⟨⟨u, hu⟩, hf⟩ := h j hj
  refine ⟨?_, by simp [hf]⟩
  by_cases e : j = k
  · subst e; exact ⟨v, World.cell?_setCell_same _ _ _ hu⟩
  · exact ⟨u, by rw [World.cell?_setCell_other _ _ _ _ (by intro e'; simp only [Addr.mk.injEq] at e'; omega)]; exact hu⟩
theorem Off.ints {g : Nat} {V W : World} (h : Off g V W) {a : Option Addr} {zs : List Int} (hz : IntsAt V a zs) (hg : zs.length ≠ 0 → ∀ b, a = some b → b.block ≠ g) : IntsAt W a zs := by
  rcases hz with hz | ⟨b, off, rfl, hb, hc⟩
  · exact Or.inl hz
  · exact Or.inr ⟨b, off, rfl, by rw [h.1]; exact hb, fun j hj => by rw [h.2.1 _ _ (hg (by omega) _ rfl)]; exact hc j hj⟩
theorem Off.nine {g g' len : Nat} {V W : World} (h : Off g V W) (hn : Nine V g' len) (hg : len ≠ 0 → g' ≠ g) : Nine W g' len := by
  intro k hk
  have hg := hg (by omega)
  obtain ⟨⟨u, hu⟩, hf⟩ := hn k hk
  exact ⟨⟨u, by rw [h.2.1 _ _ hg]; exact hu⟩, by rw [h.2.2]; exact hf⟩
/-- Of one's own row: its block, and that it may be written. -/
theorem own_nine {W : World} {base : Nat} {a : Option Addr} {c : Nat} {zs : List Int} (h : OwnI W base (.slice a zs.length c) zs) (hb : base ≤ W.heap.size) :
    ∃ g, base ≤ g ∧ g ≤ W.heap.size ∧ (zs.length = 0 ∨ (a = some ⟨g, 0, none⟩ ∧ g < W.heap.size)) ∧ Nine W g zs.length ∧ (zs.length = 0 → g = W.heap.size) := by
  rcases Nat.eq_zero_or_pos zs.length with hl | hl
  · exact ⟨W.heap.size, hb, Nat.le_refl _, Or.inl hl, fun k hk => by omega, fun _ => rfl⟩
  · obtain ⟨_, h2⟩ := h
    rcases h2 with ⟨_, h3⟩ | ⟨g, cap, cur, h3, h4, h5, h6, h7, h8, h9⟩
    · omega
    · have hg : g < W.heap.size := (Array.getElem?_eq_some_iff.1 h5).1
      simp only [Value.slice.injEq] at h3
      refine ⟨g, h4, Nat.le_of_lt hg, Or.inr ⟨h3.1, hg⟩, fun k hk => ⟨?_, ?_⟩, fun h => by omega⟩
      · rw [cell_of_row W g k cur _ (0, 0) h5]
        exact ⟨_, Array.getElem?_eq_getElem (by omega)⟩
      · unfold World.frozen?
        simp only [h5]
        simp
theorem IntsAt.old {W : World} {a : Option Addr} {zs : List Int} (h : IntsAt W a zs) (hl : zs.length ≠ 0) : ∀ b, a = some b → b.block < W.heap.size := by
  rintro b rfl
  rcases h with h | ⟨b', off, h1, h2, _⟩
  · rw [h] at hl; simp at hl
  · simp only [Option.some.injEq] at h1; subst h1; exact h2

end Go.Proofs.Ytnimbbfblidahaa

/- Plain words on chains: one that goes, one that comes, in turns. -/
import Derived.Test.YtnimbbfblidahaaRoP
namespace Go.Proofs.Ytnimbbfblidahaa
open Go.RowKit

theorem newB_iff {zs : List Int} {nw : Int} : newB zs nw = true ↔ nw = 0 ∨ 1 < zs.length ∧ nw = nthI zs (zs.length - 1) := by
  unfold newB
  rw [decide_eq_true_eq]
  by_cases h : 1 < zs.length
  · rw [show ((zs.length : Int) - 1) = ((zs.length - 1 : Nat) : Int) from by omega, atI_in (by omega)]
  · simp [h]
theorem mayL_erase {zs : List Int} (h : mayL zs = true) (k : Nat) : mayL (zs.eraseIdx k) = true := by
  rw [mayL_iff] at h ⊢
  refine ⟨fun n hn => h.1 n (List.mem_of_mem_eraseIdx hn), h.2.sublist (List.eraseIdx_sublist zs k)⟩
theorem nthI_erase_last {zs : List Int} {k : Nat} (hk : k + 1 < zs.length) : nthI (zs.eraseIdx k) (zs.length - 1 - 1) = nthI zs (zs.length - 1) := by
  unfold nthI
  rw [List.getD_eq_getElem?_getD, List.getD_eq_getElem?_getD, List.getElem?_eraseIdx]
  rw [if_neg (by omega), show zs.length - 1 - 1 + 1 = zs.length - 1 from by omega]
/-- What the law asks of Drop's answer. -/
def goesB (zs : List Int) (nw n : Int) : Bool := decide (0 ≤ idx zs n ∧ (n = nw ∨ 2 < zs.length ∨ zs.length = 2 ∧ nw = 0))
theorem drop_turn {e nw n : Int} {zs : List Int} (h : mayB e zs nw = true) (he : e < 1099511627776) (hn : 1 ≤ n) :
    (dropF e zs nw n).2.2.2 = goesB zs nw n ∧ (goesB zs nw n = true → (dropF e zs nw n).1 = e + 1 ∧ mayB (e + 1) (dropF e zs nw n).2.1 (dropF e zs nw n).2.2.1 = true) := by
  have h' := mayB_iff.1 h
  have hb := idx_bd zs n
  unfold dropF
  by_cases hi : 0 ≤ idx zs n
  · obtain ⟨k, hk⟩ : ∃ k : Nat, idx zs n = k := ⟨(idx zs n).toNat, by omega⟩
    have hkl : k < zs.length := by omega
    have hnk : nthI zs k = n := by
      have hm := idx_yes.1 hi
      obtain ⟨j, hj, ej⟩ := mem_nth hm
      have : ∀ m : Nat, m ≤ zs.length → (∀ i, i < m → nthI zs i ≠ n) ∨ ∃ i, i < m ∧ nthI zs i = n ∧ ∀ q, q < i → nthI zs q ≠ n := by
        intro m
        induction m with
        | zero => intro _; left; intro i hi; omega
        | succ m ih =>
          intro hm
          rcases ih (by omega) with h1 | ⟨i, h1, h2, h3⟩
          · by_cases hx : nthI zs m = n
            · right; exact ⟨m, by omega, hx, h1⟩
            · left; intro i hi; by_cases e : i = m
              · subst e; exact hx
              · exact h1 i (by omega)
          · right; exact ⟨i, by omega, h2, h3⟩
      rcases this zs.length (Nat.le_refl _) with h1 | ⟨i, h1, h2, h3⟩
      · exact absurd ej (h1 j hj)
      · have := idx_hit h1 h2 h3
        have : i = k := by omega
        subst this; exact h2
    have hlen : (zs.eraseIdx k).length = zs.length - 1 := by rw [List.length_eraseIdx, if_pos hkl]
    have hmay : mayB (e + 1) (zs.eraseIdx k) (newD nw n) = true ↔ (n = nw ∨ 2 < zs.length ∨ zs.length = 2 ∧ nw = 0) := by
      rw [mayB_iff, newB_iff, hlen]
      have hL := mayL_erase h'.2.2.1 k
      have hN := newB_iff.1 h'.2.2.2
      unfold newD
      by_cases hnw : nw = n
      · subst hnw
        rw [if_pos rfl]
        constructor
        · intro _; exact Or.inl rfl
        · intro _; exact ⟨by omega, by rcases hN with hN | hN <;> omega, hL, Or.inl rfl⟩
      · rw [if_neg hnw]
        constructor
        · rintro ⟨_, h2, _, h4 | h4⟩
          · right; omega
          · right; left; omega
        · intro h1
          rcases h1 with h1 | h1 | h1
          · exact absurd h1.symm hnw
          · refine ⟨by omega, by omega, hL, ?_⟩
            rcases hN with hN | hN
            · exact Or.inl hN
            · right
              refine ⟨by omega, ?_⟩
              have hne : k ≠ zs.length - 1 := fun ek => hnw (by rw [hN.2, ← ek]; exact hnk)
              rw [nthI_erase_last (by omega)]
              exact hN.2
          · exact ⟨by omega, by omega, hL, Or.inl h1.2⟩
    rw [hk, Int.toNat_natCast]
    unfold goesB
    rw [hk]
    by_cases hc : (n = nw ∨ 2 < zs.length ∨ zs.length = 2 ∧ nw = 0)
    · rw [if_pos ⟨h, by omega, hmay.2 hc⟩]
      exact ⟨by rw [decide_eq_true ⟨by omega, hc⟩], fun _ => ⟨rfl, hmay.2 hc⟩⟩
    · rw [if_neg (fun q => hc (hmay.1 q.2.2))]
      exact ⟨by rw [decide_eq_false (fun q => hc q.2)], fun q => absurd (of_decide_eq_true q).2 hc⟩
  · rw [if_neg (fun q => hi q.2.1)]
    unfold goesB
    exact ⟨by rw [decide_eq_false (fun q => hi q.1)], fun q => absurd (of_decide_eq_true q).1 hi⟩
/-- What the law asks of Add's answer. -/
def comesB (zs : List Int) (nw n : Int) : Bool := decide (idx zs n < 0 ∧ nw = 0)
theorem add_turn {e nw n : Int} {zs : List Int} (h : mayB e zs nw = true) (he : e < 1099511627776) (hn : 1 ≤ n) (hn5 : n ≤ 5) :
    (addF e zs nw n).2.2.2 = comesB zs nw n ∧ (comesB zs nw n = true → (addF e zs nw n).1 = e + 1 ∧ mayB (e + 1) (addF e zs nw n).2.1 (addF e zs nw n).2.2.1 = true) := by
  unfold comesB
  by_cases h1 : idx zs n < 0 ∧ nw = 0
  · obtain ⟨h1, rfl⟩ := h1
    rw [addF_yes h he h1 hn hn5]
    exact ⟨by rw [decide_eq_true ⟨h1, rfl⟩], fun _ => ⟨rfl, (mayB_add h he).2 ⟨hn, hn5, fun hm => by have := idx_in hm; omega⟩⟩⟩
  · rw [addF_no h he (by omega), decide_eq_false h1]
    exact ⟨rfl, fun q => by cases q⟩
/-- One that has learnt. -/
theorem learn_turn {e nw : Int} {zs : List Int} (h : mayB e zs nw = true) : mayB e zs 0 = true := by
  have h' := mayB_iff.1 h
  exact mayB_iff.2 ⟨h'.1, h'.2.1, h'.2.2.1, newB_iff.2 (Or.inl rfl)⟩

end Go.Proofs.Ytnimbbfblidahaa

/- Plain words on chains: how long they may be, one more and one less. -/
import Derived.Test.YtnimbbfblidahaaRoM
namespace Go.Proofs.Ytnimbbfblidahaa
open Go.RowKit

theorem nodup_le : ∀ (k : Nat) (l : List Int), l.Nodup → (∀ x ∈ l, 1 ≤ x ∧ x ≤ (k : Int)) → l.length ≤ k
  | 0, l, _, h => by
    cases l with
    | nil => simp
    | cons x t => have := h x (by simp); omega
  | k + 1, l, hn, h => by
    by_cases hm : ((k + 1 : Nat) : Int) ∈ l
    · have h1 := nodup_le k (l.erase ((k + 1 : Nat) : Int)) (hn.erase _) (fun x hx => by
        have hx' := (List.Nodup.mem_erase_iff hn).1 hx
        have := h x hx'.2
        have := hx'.1
        omega)
      rw [List.length_erase_of_mem hm] at h1
      have := List.length_pos_of_mem hm
      omega
    · have := nodup_le k l hn (fun x hx => by
        have := h x hx
        have hne : x ≠ ((k + 1 : Nat) : Int) := fun e => hm (e ▸ hx)
        omega)
      omega
theorem mem_nth {zs : List Int} {x : Int} (h : x ∈ zs) : ∃ k, k < zs.length ∧ nthI zs k = x := by
  obtain ⟨k, hk, e⟩ := List.getElem_of_mem h
  refine ⟨k, hk, ?_⟩
  unfold nthI
  rw [List.getD_eq_getElem?_getD, List.getElem?_eq_getElem hk, e]; rfl
theorem nth_mem {zs : List Int} {k : Nat} (hk : k < zs.length) : nthI zs k ∈ zs := by
  unfold nthI
  rw [List.getD_eq_getElem?_getD, List.getElem?_eq_getElem hk]
  exact List.getElem_mem hk
theorem idx_no {zs : List Int} {x : Int} (h : x ∉ zs) : idx zs x = -1 := idx_miss fun i hi e => h (e ▸ nth_mem hi)
theorem idx_in {zs : List Int} {x : Int} (h : x ∈ zs) : 0 ≤ idx zs x := by
  refine Classical.byContradiction fun hn => ?_
  obtain ⟨k, hk, e⟩ := mem_nth h
  -- the least such place
  have : ∀ m : Nat, ∀ j : Nat, j < m → j < zs.length → nthI zs j ≠ x := by
    intro m
    induction m with
    | zero => intro j hj; omega
    | succ m ih =>
      intro j hj hl e2
      by_cases hjm : j < m
      · exact ih j hjm hl e2
      · obtain rfl : j = m := by omega
        have := idx_hit hl e2 (fun i hi => ih i hi (by omega))
        omega
  exact this zs.length k hk hk e
theorem idx_yes {zs : List Int} {x : Int} : 0 ≤ idx zs x ↔ x ∈ zs :=
  ⟨fun h => Classical.byContradiction fun hn => by rw [idx_no hn] at h; omega, idx_in⟩
theorem mayL_iff {zs : List Int} : mayL zs = true ↔ (∀ n ∈ zs, 1 ≤ n ∧ n ≤ 5) ∧ zs.Nodup := by unfold mayL; simp
theorem mayL_add {zs : List Int} {n : Int} : mayL (zs ++ [n]) = true ↔ mayL zs = true ∧ 1 ≤ n ∧ n ≤ 5 ∧ n ∉ zs := by
  rw [mayL_iff, mayL_iff, List.nodup_append]
  constructor
  · rintro ⟨h, h1, _, h3⟩
    exact ⟨⟨fun x hx => h x (by simp [hx]), h1⟩, (h n (by simp)).1, (h n (by simp)).2, fun hn => h3 n hn n (by simp) rfl⟩
  · rintro ⟨⟨h, h1⟩, h2, h3, h4⟩
    refine ⟨fun x hx => ?_, h1, by simp, fun a ha b hb => ?_⟩
    · rcases List.mem_append.1 hx with hx | hx
      · exact h x hx
      · rw [List.mem_singleton.1 hx]; exact ⟨h2, h3⟩
    · rw [List.mem_singleton.1 hb]; exact fun e => h4 (e ▸ ha)
theorem mayL_len {zs : List Int} (h : mayL zs = true) : zs.length ≤ 5 := nodup_le 5 zs (mayL_iff.1 h).2 fun x hx => (mayL_iff.1 h).1 x hx
theorem mayB_iff {e : Int} {zs : List Int} {nw : Int} : mayB e zs nw = true ↔ (1 ≤ e ∧ e ≤ 1099511627776) ∧ 1 ≤ zs.length ∧ mayL zs = true ∧ newB zs nw = true := by
  unfold mayB epB lenB
  simp only [Bool.and_eq_true, decide_eq_true_eq]
  constructor
  · rintro ⟨⟨⟨h1, h2⟩, h3⟩, h4⟩; exact ⟨h1, h2.1, h3, h4⟩
  · rintro ⟨h1, h2, h3, h4⟩; exact ⟨⟨⟨h1, h2, mayL_len h3⟩, h3⟩, h4⟩
theorem newB_last {zs : List Int} {n : Int} (h : 1 ≤ zs.length) : newB (zs ++ [n]) n = true := by
  refine newB_yes (Or.inr ⟨by simp; omega, ?_⟩)
  unfold nthI
  simp
/-- One is added: when? -/
theorem mayB_add {e : Int} {zs : List Int} {n : Int} (h : mayB e zs 0 = true) (he : e < 1099511627776) : mayB (e + 1) (zs ++ [n]) n = true ↔ 1 ≤ n ∧ n ≤ 5 ∧ n ∉ zs := by
  have h' := mayB_iff.1 h
  rw [mayB_iff, mayL_add]
  constructor
  · rintro ⟨_, _, ⟨_, h1⟩, _⟩; exact h1
  · intro h1; exact ⟨by omega, by simp, ⟨h'.2.2.1, h1⟩, newB_last h'.2.1⟩
theorem addF_no {e nw n : Int} {zs : List Int} (h : mayB e zs nw = true) (he : e < 1099511627776) (hn : nw ≠ 0 ∨ 0 ≤ idx zs n ∨ n < 1 ∨ 5 < n) : addF e zs nw n = (0, [], 0, false) := by
  unfold addF
  rw [if_neg]
  rintro ⟨_, rfl, h2⟩
  have := (mayB_add h he).1 h2
  rcases hn with hn | hn | hn | hn
  · exact hn rfl
  · exact this.2.2 (idx_yes.1 hn)
  · omega
  · omega
theorem addF_yes {e n : Int} {zs : List Int} (h : mayB e zs 0 = true) (he : e < 1099511627776) (h1 : idx zs n < 0) (h2 : 1 ≤ n) (h3 : n ≤ 5) : addF e zs 0 n = (e + 1, zs ++ [n], n, true) := by
  unfold addF
  rw [if_pos]
  exact ⟨h, rfl, (mayB_add h he).2 ⟨h2, h3, fun hm => by have := idx_in hm; omega⟩⟩
theorem nthI_app_lt {zs : List Int} {n : Int} {k : Nat} (h : k < zs.length) : nthI (zs ++ [n]) k = nthI zs k := by
  unfold nthI; rw [List.getD_eq_getElem?_getD, List.getD_eq_getElem?_getD, List.getElem?_append_left h]
theorem nthI_app_eq {zs : List Int} {n : Int} : nthI (zs ++ [n]) zs.length = n := by
  unfold nthI; simp
theorem idx_app {zs : List Int} {n : Int} (h : idx zs n < 0) : idx (zs ++ [n]) n = zs.length := by
  refine idx_hit (by simp) nthI_app_eq fun i hi e => ?_
  rw [nthI_app_lt hi] at e
  have := idx_in (e ▸ nth_mem hi : n ∈ zs)
  omega
theorem dropF_back {e n : Int} {zs : List Int} (h : mayB e zs 0 = true) (he : e < 1099511627775) (h1 : idx zs n < 0) (h2 : 1 ≤ n) (h3 : n ≤ 5) :
    dropF (e + 1) (zs ++ [n]) n n = (e + 2, zs, 0, true) := by
  have h' := mayB_iff.1 h
  have hd : newD n n = 0 := by unfold newD; simp
  have hx : (zs ++ [n]).eraseIdx (idx (zs ++ [n]) n).toNat = zs := by
    rw [idx_app h1, Int.toNat_natCast, List.eraseIdx_append_of_length_le (Nat.le_refl _)]; simp
  unfold dropF
  rw [hx, hd, if_pos]
  · rw [show e + 1 + 1 = e + 2 from by omega]
  · refine ⟨(mayB_add h (by omega)).2 ⟨h2, h3, fun hm => by have := idx_in hm; omega⟩, by rw [idx_app h1]; omega, mayB_iff.2 ⟨by omega, h'.2.1, h'.2.2.1, h'.2.2.2⟩⟩

end Go.Proofs.Ytnimbbfblidahaa

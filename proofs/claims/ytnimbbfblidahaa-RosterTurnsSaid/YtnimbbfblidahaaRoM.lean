/- RosterAll: the walk. -/
import Derived.Test.YtnimbbfblidahaaRoL
namespace Go.Proofs.Ytnimbbfblidahaa
open Go.RowKit

/-- What Add and AddNode give; what Drop and DropNode give: epoch, nodes, New, whether. -/
def addF (e : Int) (zs : List Int) (nw n : Int) : Int × List Int × Int × Bool :=
  if mayB e zs nw = true ∧ nw = 0 ∧ mayB (e + 1) (zs ++ [n]) n = true then (e + 1, zs ++ [n], n, true) else (0, [], 0, false)
def dropF (e : Int) (zs : List Int) (nw n : Int) : Int × List Int × Int × Bool :=
  if mayB e zs nw = true ∧ 0 ≤ idx zs n ∧ mayB (e + 1) (zs.eraseIdx (idx zs n).toNat) (newD nw n) = true then (e + 1, zs.eraseIdx (idx zs n).toNat, newD nw n, true) else (0, [], 0, false)
def ResF (w : World) (r : Int × List Int × Int × Bool) (e' : Ending) (w' : World) : Prop :=
  ∃ a c, e' = .returned (.tuple #[rosV r.1 a r.2.1 c r.2.2.1, .bool r.2.2.2]) ∧ OwnI w' w.heap.size (.slice a r.2.1.length c) r.2.1 ∧ Below w.heap.size w w'
theorem resF_yes {w : World} {e n : Int} {zs : List Int} {e' : Ending} {w' : World} (h : AddR w e n zs e' w') : ResF w (e, zs, n, true) e' w' := by
  obtain ⟨v, h1, h2, h3⟩ := h
  obtain ⟨a, c, rfl, _⟩ := ownI_ros h2
  exact ⟨a, c, h1, h2, h3⟩
theorem resF_no {w : World} {e' : Ending} {w' : World} (h : e' = .returned (.tuple #[ros0, .bool false]) ∧ Below w.heap.size w w') : ResF w (0, [], 0, false) e' w' :=
  ⟨none, 0, h.1, World.ownsRow_nil _ _ _ _, h.2⟩
theorem mayB_ep {e : Int} {zs : List Int} {nw : Int} (h : mayB e zs nw = true) : 1 ≤ e ∧ e ≤ 1099511627776 := by
  unfold mayB epB at h
  simp only [Bool.and_eq_true, decide_eq_true_eq] at h
  exact h.1.1.1
theorem add_F (e nw n : Int) (a : Option Addr) (c : Nat) (zs : List Int) (w : World) (hz : IntsAt w a zs) (hl : zs.length ≤ 7) :
    Calls Try.prog 18 #[rosV e a zs c nw, .int .i64 n] w (ResF w (addF e zs nw n)) := by
  unfold addF
  by_cases h1 : mayB e zs nw = true
  · by_cases h2 : nw = 0
    · subst h2
      by_cases h3 : mayB (e + 1) (zs ++ [n]) n = true
      · rw [if_pos ⟨h1, rfl, h3⟩]
        exact (add_yes e n a c zs w hz h1 (mayB_ep h1) (mayB_mayL h1).2.2 h3).mono fun _ _ h => resF_yes h
      · rw [if_neg (fun h => h3 h.2.2)]
        exact (add_no2 e n a c zs w hz h1 (mayB_ep h1) (mayB_mayL h1).2.2 (by simpa using h3)).mono fun _ _ h => resF_no h
    · rw [if_neg (fun h => h2 h.2.1)]
      exact (add_no e nw n a c zs w (by omega) hz (Or.inr h2)).mono fun _ _ h => resF_no h
  · rw [if_neg (fun h => h1 h.1)]
    exact (add_no e nw n a c zs w (by omega) hz (Or.inl (by simpa using h1))).mono fun _ _ h => resF_no h
theorem addNode_F (e nw n : Int) (a : Option Addr) (c : Nat) (zs : List Int) (w : World) (hz : IntsAt w a zs) (hl : zs.length ≤ 7) (he : -9223372036854775808 ≤ e ∧ e < 9223372036854775807) :
    Calls Try.prog 22 #[rosV e a zs c nw, .int .i64 n] w (ResF w (addF e zs nw n)) := by
  refine addNode_x e nw n a c zs w hz he (by omega) _ (fun e' w' h => ?_)
  unfold addF
  by_cases hc : mayB e zs nw = true ∧ nw = 0 ∧ mayB (e + 1) (zs ++ [n]) n = true
  · rw [if_pos hc]; exact resF_yes (h.1 hc)
  · rw [if_neg hc]; exact resF_no (h.2 hc)
theorem drop_F (e nw n : Int) (a : Option Addr) (c : Nat) (zs : List Int) (w : World) (hz : IntsAt w a zs) (hl : zs.length ≤ 7) :
    Calls Try.prog 17 #[rosV e a zs c nw, .int .i64 n] w (ResF w (dropF e zs nw n)) := by
  have hb := idx_bd zs n
  unfold dropF
  by_cases h1 : mayB e zs nw = true
  · by_cases h2 : 0 ≤ idx zs n
    · obtain ⟨k, hk⟩ : ∃ k : Nat, idx zs n = k := ⟨(idx zs n).toNat, by omega⟩
      have hkl : k < zs.length := by omega
      rw [hk]
      simp only [Int.toNat_natCast]
      by_cases h3 : mayB (e + 1) (zs.eraseIdx k) (newD nw n) = true
      · rw [if_pos ⟨h1, by omega, h3⟩]
        exact (drop_yes e nw n k a c zs w hz h1 (mayB_ep h1) (mayB_mayL h1).2.2 hkl hk h3).mono fun _ _ h => resF_yes h
      · rw [if_neg (fun h => h3 h.2.2)]
        exact (drop_no2 e nw n k a c zs w hz h1 (mayB_ep h1) (mayB_mayL h1).2.2 hkl hk (by simpa using h3)).mono fun _ _ h => resF_no h
    · rw [if_neg (fun h => h2 h.2.1)]
      exact (drop_no e nw n a c zs w (by omega) hz (Or.inr (by omega))).mono fun _ _ h => resF_no h
  · rw [if_neg (fun h => h1 h.1)]
    exact (drop_no e nw n a c zs w (by omega) hz (Or.inl (by simpa using h1))).mono fun _ _ h => resF_no h
theorem dropNode_F (e nw n : Int) (a : Option Addr) (c : Nat) (zs : List Int) (w : World) (hz : IntsAt w a zs) (hl : zs.length ≤ 7) (hcap : zs.length ≤ c) (he : -9223372036854775808 ≤ e ∧ e < 9223372036854775807) :
    Calls Try.prog 23 #[rosV e a zs c nw, .int .i64 n] w (ResF w (dropF e zs nw n)) := by
  have hb := idx_bd zs n
  unfold dropF
  by_cases h1 : mayB e zs nw = true
  · by_cases h2 : 0 ≤ idx zs n
    · obtain ⟨k, hk⟩ : ∃ k : Nat, idx zs n = k := ⟨(idx zs n).toNat, by omega⟩
      have hkl : k < zs.length := by omega
      rw [hk]
      simp only [Int.toNat_natCast]
      refine dropNode_x e nw n k a c zs w hz he (by omega) hcap hkl hk h1 _ (fun e' w' h => ?_)
      by_cases h3 : mayB (e + 1) (zs.eraseIdx k) (newD nw n) = true
      · rw [if_pos ⟨h1, by omega, h3⟩]; exact resF_yes (h.1 h3)
      · rw [if_neg (fun h => h3 h.2.2)]; exact resF_no (h.2 (by simpa using h3))
    · rw [if_neg (fun h => h2 h.2.1)]
      exact (dropNode_no e nw n a c zs w hz (by omega) (Or.inr (by omega))).mono fun _ _ h => resF_no h
  · rw [if_neg (fun h => h1 h.1)]
    exact (dropNode_no e nw n a c zs w hz (by omega) (Or.inl (by simpa using h1))).mono fun _ _ h => resF_no h
theorem addF_len {e nw n : Int} {zs : List Int} (hl : zs.length ≤ 7) : (addF e zs nw n).2.1.length ≤ 8 := by
  unfold addF; split <;> simp; omega
theorem dropF_len {e nw n : Int} {zs : List Int} (hl : zs.length ≤ 7) : (dropF e zs nw n).2.1.length ≤ 8 := by
  unfold dropF
  split
  · simp only [List.length_eraseIdx]; split <;> omega
  · simp
/-- A roster in a block. -/
def CellR (B : Nat) (e : Int) (a : Option Addr) (zs : List Int) (c : Nat) (nw : Int) (W : World) : Prop :=
  W.cell? ⟨B, 0, none⟩ = some (.int .i64 e) ∧ W.cell? ⟨B, 1, none⟩ = some (.slice a zs.length c) ∧ W.cell? ⟨B, 2, none⟩ = some (.int .i64 nw) ∧ IntsAt W a zs
theorem CellR.keep {B : Nat} {e : Int} {a : Option Addr} {zs : List Int} {c : Nat} {nw : Int} {W W' : World} (h : CellR B e a zs c nw W) (hb : Below W.heap.size W W') : CellR B e a zs c nw W' :=
  ⟨cell_keep hb h.1, cell_keep hb h.2.1, cell_keep hb h.2.2.1, h.2.2.2.keep hb⟩
theorem CellR.new {e : Int} {a : Option Addr} {zs : List Int} {c : Nat} {nw : Int} {W : World} (h : IntsAt W a zs) (t : TypeId) : CellR W.heap.size e a zs c nw (W.alloc (.cells #[.int .i64 e, .slice a zs.length c, .int .i64 nw] t)) :=
  ⟨World.cell?_alloc_new W _ t 0, World.cell?_alloc_new W _ t 1, World.cell?_alloc_new W _ t 2, h.alloc _⟩
theorem eqB_self (e nw : Int) (zs : List Int) : eqB e e nw nw zs zs = true := by simp [eqB]
theorem side_next (zs : List Int) (n : Int) : sideI zs n 1 = nextI zs n := by
  unfold sideI nextI
  by_cases h : 0 ≤ idx zs n
  · rw [if_neg (by omega), if_pos h]
  · rw [if_pos (by omega), if_neg h]
theorem side_ahead (zs : List Int) (n : Int) : sideI zs n (-1) = atI zs (idx zs n - 1) := by
  unfold sideI
  by_cases h : idx zs n < 0
  · rw [if_pos h, atI_out (Or.inl (by omega))]
  · rw [if_neg h]; rfl

end Go.Proofs.Ytnimbbfblidahaa

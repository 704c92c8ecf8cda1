/- The laws' beginning: a roster in a box, cut to seven. -/
import Derived.Test.YtehplflhaegkbaaGreatDoorRoJ
namespace Go.Proofs.YtehplflhaegkbaaGreatDoor
open Go.RowKit

/-- The box at block B holds a roster of the call's own. -/
def BoxR (B : Nat) (w : World) (e nw : Int) (a : Option Addr) (c : Nat) (ys : List Int) (W : World) : Prop :=
  W.cell? ⟨B, 0, none⟩ = some (.int .i64 e) ∧ W.cell? ⟨B, 1, none⟩ = some (.slice a ys.length c) ∧ W.cell? ⟨B, 2, none⟩ = some (.int .i64 nw) ∧
  W.frozen? ⟨B, 0, none⟩ = false ∧ W.frozen? ⟨B, 1, none⟩ = false ∧ W.frozen? ⟨B, 2, none⟩ = false ∧
  OwnI W (B + 1) (.slice a ys.length c) ys ∧ Below w.heap.size w W ∧ ys.length ≤ c
theorem BoxR.keep {B : Nat} {w W W' : World} {e nw : Int} {a : Option Addr} {c : Nat} {ys : List Int} (h : BoxR B w e nw a c ys W) (hb : Below W.heap.size W W') : BoxR B w e nw a c ys W' := by
  obtain ⟨x0, x1, x2, f0, f1, f2, ho, hl, hc⟩ := h
  exact ⟨cell_keep hb x0, cell_keep hb x1, cell_keep hb x2, frozen_keep hb x0 f0, frozen_keep hb x1 f1, frozen_keep hb x2 f2, ownsRow_below ho hb, below_on hl hb, hc⟩
theorem BoxR.ints {B : Nat} {w W : World} {e nw : Int} {a : Option Addr} {c : Nat} {ys : List Int} (h : BoxR B w e nw a c ys W) : IntsAt W a ys := own_ints h.2.2.2.2.2.2.1
theorem BoxR.lt {B : Nat} {w W : World} {e nw : Int} {a : Option Addr} {c : Nat} {ys : List Int} (h : BoxR B w e nw a c ys W) : B < W.heap.size := cell_old h.1
theorem BoxR.make {B : Nat} {w w2 : World} {e nw : Int} {base : Nat} {a : Option Addr} {c : Nat} {ys : List Int} (u0 u1 u2 : Value) (hB : w.heap.size ≤ B)
    (x0 : w2.cell? ⟨B, 0, none⟩ = some u0) (x1 : w2.cell? ⟨B, 1, none⟩ = some u1) (x2 : w2.cell? ⟨B, 2, none⟩ = some u2)
    (f0 : w2.frozen? ⟨B, 0, none⟩ = false) (f1 : w2.frozen? ⟨B, 1, none⟩ = false) (f2 : w2.frozen? ⟨B, 2, none⟩ = false)
    (ho : OwnI w2 base (.slice a ys.length c) ys) (hb : B < base) (hl : Below w.heap.size w w2) (hc : ys.length ≤ c) :
    BoxR B w e nw a c ys (((w2.setCell ⟨B, 0, none⟩ (.int .i64 e)).setCell ⟨B, 1, none⟩ (.slice a ys.length c)).setCell ⟨B, 2, none⟩ (.int .i64 nw)) := by
  refine ⟨?_, ?_, ?_, by simp [f0], by simp [f1], by simp [f2], ownsRow_base (own_set3 ho hb _ _ _) hb, below_set3 hl hB _ _ _ _ _ _, hc⟩
  · rw [World.cell?_setCell_other _ _ _ _ (by simp), World.cell?_setCell_other _ _ _ _ (by simp)]
    exact World.cell?_setCell_same _ _ _ x0
  · rw [World.cell?_setCell_other _ _ _ _ (by simp)]
    exact World.cell?_setCell_same _ _ _ (u := u1) (by rw [World.cell?_setCell_other _ _ _ _ (by simp)]; exact x1)
  · exact World.cell?_setCell_same _ _ _ (u := u2) (by rw [World.cell?_setCell_other _ _ _ _ (by simp), World.cell?_setCell_other _ _ _ _ (by simp)]; exact x2)

theorem roster_ys (e nw : Int) (a : Option Addr) (c : Nat) (zs ys : List Int) (w : World) (hz : IntsAt w a zs) (hl : zs.length ≤ 9223372036854775807) (hcap : zs.length ≤ c) (h : zs.take 7 = ys) :
    Calls Tryz.prog 5 #[rosV e a zs c nw] w (RosR w e nw ys) := by
  subst h; exact roster_any e nw a c zs w hz hl hcap
/-! plain facts on places -/
theorem mayB_mayL {e : Int} {zs : List Int} {nw : Int} (h : mayB e zs nw = true) : mayL zs = true ∧ 1 ≤ zs.length ∧ zs.length ≤ 5 := by
  unfold mayB lenB at h
  simp only [Bool.and_eq_true, decide_eq_true_eq] at h
  exact ⟨h.1.2, h.1.1.2⟩
theorem nthI_inj {zs : List Int} (h : mayL zs = true) {i j : Nat} (hi : i < zs.length) (hj : j < zs.length) (e : nthI zs i = nthI zs j) : i = j := by
  unfold mayL at h
  have h' := (of_decide_eq_true h).2
  unfold nthI at e
  rw [List.getD_eq_getElem?_getD, List.getD_eq_getElem?_getD, List.getElem?_eq_getElem hi, List.getElem?_eq_getElem hj] at e
  simp only [Option.getD_some] at e
  exact (List.getElem_inj h').1 e
theorem idx_nth {zs : List Int} (h : mayL zs = true) {i : Nat} (hi : i < zs.length) : idx zs (nthI zs i) = i :=
  idx_hit hi rfl (fun j hj e => by have := nthI_inj h (by omega) hi e; omega)
theorem nextI_nth {zs : List Int} (h : mayL zs = true) {i : Nat} (hi : i < zs.length) : nextI zs (nthI zs i) = if i + 1 < zs.length then nthI zs (i + 1) else 0 := by
  unfold nextI
  rw [idx_nth h hi, if_pos (by omega)]
  by_cases c : i + 1 < zs.length
  · rw [if_pos c, show ((i : Int) + 1) = ((i + 1 : Nat) : Int) from by omega, atI_in c]
  · rw [if_neg c, atI_out (by omega)]

theorem atI_last {zs : List Int} (h : 1 ≤ zs.length) : atI zs (zs.length - 1) = nthI zs (zs.length - 1) := by
  rw [show ((zs.length : Int) - 1) = ((zs.length - 1 : Nat) : Int) from by omega, atI_in (by omega)]
theorem aheadI_nth {zs : List Int} (h : mayL zs = true) {j : Nat} (hj : j + 1 < zs.length) : atI zs (idx zs (nthI zs (j + 1)) - 1) = nthI zs j := by
  rw [idx_nth h hj, show (((j + 1 : Nat) : Int) - 1) = (j : Int) from by omega, atI_in (by omega)]
theorem ahead_at (e nw : Int) (a : Option Addr) (c : Nat) (zs : List Int) (j : Nat) (w : World) (hl : zs.length ≤ 9223372036854775807) (hz : IntsAt w a zs) (h : mayL zs = true) (hj : j + 1 < zs.length) :
    Calls Tryz.prog 41 #[rosV e a zs c nw, .int .i64 (nthI zs (j + 1))] w fun e w' => e = .returned (.int .i64 (nthI zs j)) ∧ Below w.heap.size w w' := by
  have := ahead_any e nw (nthI zs (j + 1)) a c zs w hl hz
  rw [aheadI_nth h hj] at this
  exact this
/-- The one that stands at a place; behind all: nought. -/
def orI (zs : List Int) (k : Nat) : Int := if k < zs.length then nthI zs k else 0
theorem orI_in {zs : List Int} {k : Nat} (h : k < zs.length) : orI zs k = nthI zs k := if_pos h
theorem next_at (e nw : Int) (a : Option Addr) (c : Nat) (zs : List Int) (j : Nat) (w : World) (hl : zs.length ≤ 9223372036854775807) (hz : IntsAt w a zs) (h : mayL zs = true) (hj : j < zs.length) :
    Calls Tryz.prog 40 #[rosV e a zs c nw, .int .i64 (nthI zs j)] w fun e w' => e = .returned (.int .i64 (orI zs (j + 1))) ∧ Below w.heap.size w w' := by
  have := next_any e nw (nthI zs j) a c zs w hl hz
  rw [nextI_nth h hj] at this
  exact this
theorem IntsAt.form {w : World} {a : Option Addr} {zs : List Int} (h : IntsAt w a zs) (hl : 1 ≤ zs.length) : ∃ b off, a = some ⟨b, off, none⟩ ∧ b < w.heap.size ∧ ∀ j, j < zs.length → w.cell? ⟨b, off + j, none⟩ = some (.int .i64 (nthI zs j)) := by
  rcases h with h | h
  · rw [h] at hl; simp at hl
  · exact h

end Go.Proofs.YtehplflhaegkbaaGreatDoor

/- Walks of pair, z, and of the document's Pow, On, Mark. -/
import Derived.Test.YtdpkmcbpeloljaaDoorGg
import Derived.Deep.CutBlock
import Derived.Lib.Walk
namespace Go.Proofs.YtdpkmcbpeloljaaDoor
open Go.RowKit

theorem norm_norm (p : ZP) : norm (norm p) = norm p := norm_same (same_norm p)
theorem norm_bd (p : ZP) : 0 ≤ (norm p).1 ∧ (norm p).1 < 65521 ∧ 0 ≤ (norm p).2 ∧ (norm p).2 < 65521 := by
  have h1 := rs_bd p.1
  have h2 := rs_bd p.2
  exact ⟨h1.1, h1.2, h2.1, h2.2⟩
theorem radd_norm (p q : ZP) (w : World) : Calls Tryd.prog 48 #[zv (norm p), zv (norm q)] w fun e w' => e = .returned (zv (norm (cadd p q))) ∧ Below w.heap.size w w' := by
  have h1 := norm_bd p
  have h2 := norm_bd q
  refine (radd _ _ w (by omega) (by omega)).mono ?_
  rintro e w' ⟨rfl, hb⟩
  exact ⟨by rw [norm_same ((same_norm p).add (same_norm q))], hb⟩
theorem rmul_norm (p q : ZP) (w : World) : Calls Tryd.prog 22 #[zv (norm p), zv (norm q)] w fun e w' => e = .returned (zv (norm (cmul p q))) ∧ Below w.heap.size w w' := by
  refine (rmul _ _ w (norm_bd p) (norm_bd q)).mono ?_
  rintro e w' ⟨rfl, hb⟩
  exact ⟨by rw [norm_same ((same_norm p).mul (same_norm q))], hb⟩
/-- A box of two cells that may be written. -/
def Box2 (B : Nat) (u v : Value) (W : World) : Prop := W.cell? ⟨B, 0, none⟩ = some u ∧ W.cell? ⟨B, 1, none⟩ = some v ∧ W.frozen? ⟨B, 0, none⟩ = false ∧ W.frozen? ⟨B, 1, none⟩ = false
theorem Box2.keep {B : Nat} {u v : Value} {W W' : World} (h : Box2 B u v W) (hb : Below W.heap.size W W') : Box2 B u v W' :=
  ⟨cell_keep hb h.1, cell_keep hb h.2.1, frozen_keep hb h.1 h.2.2.1, frozen_keep hb h.2.1 h.2.2.2⟩
theorem Box2.drew {B : Nat} {u v : Value} {W : World} (h : Box2 B u v W) : Box2 B u v W.drew := h.keep (Below.refl _ _).drew
theorem Box2.set {B : Nat} {u v : Value} {W : World} (h : Box2 B u v W) (u' v' : Value) : Box2 B u' v' ((W.setCell ⟨B, 0, none⟩ u').setCell ⟨B, 1, none⟩ v') := by
  obtain ⟨h0, h1, f0, f1⟩ := h
  refine ⟨?_, World.cell?_setCell_same _ _ _ (u := v) (by rw [World.cell?_setCell_other _ _ _ _ (by simp)]; exact h1), by simp [f0], by simp [f1]⟩
  rw [World.cell?_setCell_other _ _ _ _ (by simp)]; exact World.cell?_setCell_same _ _ _ h0
theorem Box2.other {B B' : Nat} {u v : Value} {W : World} (h : Box2 B u v W) (hne : B ≠ B') (u' v' : Value) : Box2 B u v ((W.setCell ⟨B', 0, none⟩ u').setCell ⟨B', 1, none⟩ v') := by
  obtain ⟨h0, h1, f0, f1⟩ := h
  refine ⟨?_, ?_, by simp [f0], by simp [f1]⟩
  · rw [World.cell?_setCell_other _ _ _ _ (by intro e; simp only [Addr.mk.injEq] at e; omega), World.cell?_setCell_other _ _ _ _ (by intro e; simp only [Addr.mk.injEq] at e; omega)]; exact h0
  · rw [World.cell?_setCell_other _ _ _ _ (by intro e; simp only [Addr.mk.injEq] at e; omega), World.cell?_setCell_other _ _ _ _ (by intro e; simp only [Addr.mk.injEq] at e; omega)]; exact h1
theorem below_set2 {B b : Nat} {a w : World} (h : Below B a w) (hb : B ≤ b) (u v : Value) : Below B a ((w.setCell ⟨b, 0, none⟩ u).setCell ⟨b, 1, none⟩ v) :=
  (h.setCell (p := ⟨b, 0, none⟩) hb u).setCell (p := ⟨b, 1, none⟩) hb v
def bxZ (B : Nat) (p : ZP) (W : World) : Prop := Box2 B (.int .i64 (norm p).1) (.int .i64 (norm p).2) W
/-- The state of the document's Pow. -/
def PowS (w : World) (p u : ZP) (W : World) : Prop := bxZ w.heap.size p W ∧ Box2 (w.heap.size + 1) (.int .i64 0) (.int .i64 0) W ∧ bxZ (w.heap.size + 1 + 1) u W ∧ Below w.heap.size w W
theorem PowS.keep {w W W' : World} {p u : ZP} (h : PowS w p u W) (hb : Below W.heap.size W W') : PowS w p u W' := ⟨h.1.keep hb, h.2.1.keep hb, h.2.2.1.keep hb, below_on h.2.2.2 hb⟩
theorem PowS.set {w W : World} {p u : ZP} (h : PowS w p u W) (u' : ZP) : PowS w p u' ((W.setCell ⟨w.heap.size + 1 + 1, 0, none⟩ (.int .i64 (norm u').1)).setCell ⟨w.heap.size + 1 + 1, 1, none⟩ (.int .i64 (norm u').2)) :=
  ⟨h.1.other (by omega) _ _, h.2.1.other (by omega) _ _, h.2.2.1.set _ _, below_set2 h.2.2.2 (by omega) _ _⟩
theorem PowS.start (w : World) (p : ZP) (t : TypeId) : PowS w p (1, 0) (((w.alloc (.cells #[.int .i64 (norm p).1, .int .i64 (norm p).2] t)).alloc (.cells #[.int .i64 0, .int .i64 0] t)).alloc (.cells #[.int .i64 1, .int .i64 0] t)) := by
  refine ⟨⟨?_, ?_, ?_, ?_⟩, ⟨?_, ?_, ?_, ?_⟩, ⟨?_, ?_, ?_, ?_⟩, below_alloc (below_alloc (below_alloc (Below.refl _ _) _) _) _⟩ <;> simp [go_sem, norm, rs]
set_option maxRecDepth 100000 in
set_option maxHeartbeats 800000 in
theorem rpow (p : ZP) (n : Nat) (w : World) (hn : n ≤ 9223372036854775807) :
    Calls Tryd.prog 24 #[zv (norm p), .int .i64 n] w fun e w' => e = .returned (zv (norm (cpow p n))) ∧ Below w.heap.size w w' := by
  have H := Lib.hid (PowS.start w p 45)
  go_enter Tryd.func24, Tryd.ntmps24
  go_wp2_with fail
  generalize (((w.alloc (.cells #[.int .i64 (norm p).1, .int .i64 (norm p).2] 45)).alloc (.cells #[.int .i64 0, .int .i64 0] 45)).alloc (.cells #[.int .i64 1, .int .i64 0] 45)) = V at H ⊢
  go_loopw [6] (fun i wr => ∃ k : Nat, k ≤ n ∧ i = .int .i64 k ∧ PowS w p (cpow p k) wr) (fun i _ => n - (intOf i).toNat)
  case atStart => exact ⟨0, Nat.zero_le _, rfl, H.out⟩
  case round =>
    obtain ⟨k, hk, rfl, hS⟩ := hrel
    have HS := Lib.hid hS
    obtain ⟨⟨x0, x1, x2, x3⟩, ⟨y0, y1, y2, y3⟩, ⟨z0, z1, z2, z3⟩, -⟩ := hS
    clear H
    by_cases hlt : k < n
    · go_wp2_with (go_at_call 22; refine (rmul_norm (cpow p k) p _).mono ?_; rintro e' w1 ⟨rfl, hb⟩; have HK := Lib.hid (HS.out.keep hb); clear x0 x1 x2 x3 y0 y1 y2 y3 z0 z1 z2 z3 hb; obtain ⟨-, -, ⟨z0, z1, z2, z3⟩, -⟩ := HK.out)
      go_roundw
      case rel => exact ⟨k + 1, by omega, by go_num, HK.out.set _⟩
      case measure => simp [intOf]; omega
    · have hkn : k = n := by omega
      subst hkn
      go_wp2_with fail
      obtain ⟨q0, q1⟩ := set_two (.int .i64 (norm (cpow p k)).1) (.int .i64 (norm (cpow p k)).2) y0 y1
      refine bodyPost_ret (v := zv (norm (cpow p k))) (by simp [results, Tryd.results24, go_sem, q0, q1, zv]) rfl ⟨rfl, ?_⟩
      exact below_set2 HS.out.2.2.2 (by omega) _ _
end Go.Proofs.YtdpkmcbpeloljaaDoor

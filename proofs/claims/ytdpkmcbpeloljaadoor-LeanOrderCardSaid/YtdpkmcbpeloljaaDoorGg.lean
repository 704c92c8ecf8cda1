/- Walks of the document's numbers: mod, Add, Mul, Pow, On, Mark; pair, z. -/
import Derived.Test.YtdpkmcbpeloljaaDoorGf
import Derived.StillTailTactics
import Derived.IntWalk
namespace Go.Proofs.YtdpkmcbpeloljaaDoor
open Go.RowKit

/-- A drawn region of reads and quiet calls ahead of a tail, the world under a name. -/
theorem still_tail {P : Program} {id : Nat} {Q : Exit → Act → World → Prop} {a : Act} {w : World} {l : List Oper} (n : Nat) (hm : P.follows .mixedOrders = true) (hB : Region.lexTailB .any l.toArray n = true)
    (h : ∀ W : World, W = w.drew → wpStill P l.toArray W (fun a' => wpList P l.toArray Q (l.drop n) a' W) (l.take n) a) : (Code.region id l.toArray true).wp P Q a w :=
  wp_region_still_tail n hm hB (h w.drew rfl)
/-- A pair of whole numbers as the document's struct. -/
abbrev zv (p : ZP) : Value := .agg #[.int .i64 p.1, .int .i64 p.2]
def norm (p : ZP) : ZP := (rs p.1, rs p.2)
theorem same_norm (p : ZP) : Same (norm p) p := same_rs p
theorem norm_same {p q : ZP} (h : Same p q) : norm p = norm q := by unfold norm; rw [h.1, h.2]
set_option maxRecDepth 100000 in
set_option maxHeartbeats 400000 in
theorem mod_rs (n : Int) (w : World) : Calls Tryd.prog 30 #[.int .i64 n] w fun e w' => e = .returned (.int .i64 (rs n)) ∧ w' = w := by
  obtain ⟨t1, t2, t3, t4⟩ := tmod_rs n
  obtain ⟨m, hm⟩ : ∃ m, n.tmod 65521 = m := ⟨_, rfl⟩
  rw [hm] at t1 t2 t3 t4
  have T1 := Lib.hid t1
  have T2 := Lib.hid t2
  clear t1 t2
  by_cases hlt : m < 0
  · have hlt' : decide (m < 0) = true := by simpa using hlt
    go_enter Tryd.func30, Tryd.ntmps30
    go_wp2_with fail
    go_ret
    exact ⟨ret_int (T1.out hlt), rfl⟩
  · have hlt' : decide (m < 0) = false := by simpa using hlt
    go_enter Tryd.func30, Tryd.ntmps30
    go_wp2_with fail
    go_ret
    exact ⟨ret_int (T2.out hlt), rfl⟩
/-- Two pairs in boxes, and a place for a third. -/
def Z3 (w : World) (a b c d : Int) (W : World) : Prop :=
  W.cell? ⟨w.heap.size, 0, none⟩ = some (.int .i64 a) ∧ W.cell? ⟨w.heap.size, 1, none⟩ = some (.int .i64 b) ∧
  W.cell? ⟨w.heap.size + 1, 0, none⟩ = some (.int .i64 c) ∧ W.cell? ⟨w.heap.size + 1, 1, none⟩ = some (.int .i64 d) ∧
  W.cell? ⟨w.heap.size + 1 + 1, 0, none⟩ = some (.int .i64 0) ∧ W.cell? ⟨w.heap.size + 1 + 1, 1, none⟩ = some (.int .i64 0) ∧
  W.frozen? ⟨w.heap.size + 1 + 1, 0, none⟩ = false ∧ W.frozen? ⟨w.heap.size + 1 + 1, 1, none⟩ = false ∧ Below w.heap.size w W
theorem Z3.start (w : World) (a b c d : Int) (t : TypeId) : Z3 w a b c d (((w.alloc (.cells #[.int .i64 a, .int .i64 b] t)).alloc (.cells #[.int .i64 c, .int .i64 d] t)).alloc (.cells #[.int .i64 0, .int .i64 0] t)) := by
  refine ⟨?_, ?_, ?_, ?_, ?_, ?_, ?_, ?_, below_alloc (below_alloc (below_alloc (Below.refl _ _) _) _) _⟩ <;> simp [go_sem]
theorem Z3.drew {w W : World} {a b c d : Int} (h : Z3 w a b c d W) : Z3 w a b c d W.drew := by
  obtain ⟨h1, h2, h3, h4, h5, h6, h7, h8, h9⟩ := h
  exact ⟨by simpa using h1, by simpa using h2, by simpa using h3, by simpa using h4, by simpa using h5, by simpa using h6, by simpa using h7, by simpa using h8, h9.drew⟩
theorem set_two {W : World} {B : Nat} {u v : Value} (u' v' : Value) (h0 : W.cell? ⟨B, 0, none⟩ = some u) (h1 : W.cell? ⟨B, 1, none⟩ = some v) :
    (W.setCell ⟨B, 0, none⟩ u').cell? ⟨B, 0, none⟩ = some u' ∧ ((W.setCell ⟨B, 0, none⟩ u').setCell ⟨B, 1, none⟩ v').cell? ⟨B, 1, none⟩ = some v' :=
  ⟨World.cell?_setCell_same _ _ _ h0, World.cell?_setCell_same _ _ _ (u := v) (by rw [World.cell?_setCell_other _ _ _ _ (by simp)]; exact h1)⟩
set_option maxRecDepth 100000 in
set_option maxHeartbeats 800000 in
theorem radd (p q : ZP) (w : World) (hp : -4294967296 ≤ p.1 ∧ p.1 ≤ 4294967296 ∧ -4294967296 ≤ p.2 ∧ p.2 ≤ 4294967296) (hq : -4294967296 ≤ q.1 ∧ q.1 ≤ 4294967296 ∧ -4294967296 ≤ q.2 ∧ q.2 ≤ 4294967296) :
    Calls Tryd.prog 48 #[zv p, zv q] w fun e w' => e = .returned (zv (norm (cadd p q))) ∧ Below w.heap.size w w' := by
  obtain ⟨a, b⟩ := p
  obtain ⟨c, d⟩ := q
  dsimp only at hp hq
  obtain ⟨h1, h2, h3, h4⟩ := hp
  obtain ⟨g1, g2, g3, g4⟩ := hq
  unfold zv
  have H := Lib.hid (Z3.start w a b c d 45)
  go_enter Tryd.func48, Tryd.ntmps48
  go_wp2_with fail
  generalize (((w.alloc (.cells #[.int .i64 a, .int .i64 b] 45)).alloc (.cells #[.int .i64 c, .int .i64 d] 45)).alloc (.cells #[.int .i64 0, .int .i64 0] 45)) = V at H ⊢
  refine still_tail 13 (by kernel_rfl) (by kernel_rfl) fun W hW => ?_
  simp only [List.take_succ_cons, List.take_zero, List.drop_succ_cons, List.drop_zero]
  obtain ⟨x0, x1, x2, x3, x4, x5, x6, x7, x8⟩ := (show Z3 w a b c d W from hW ▸ H.out.drew)
  have HB := Lib.hid x8
  clear x8 hW H
  repeat still_step
  still_call (mod_rs _ _)
  repeat still_step
  still_call (mod_rs _ _)
  repeat still_step
  refine wpStill_nil ?_
  go_wp2_with fail
  obtain ⟨y0, y1⟩ := set_two (.int .i64 (rs (a + c))) (.int .i64 (rs (b + d))) x4 x5
  refine bodyPost_ret (v := .agg #[.int .i64 (rs (a + c)), .int .i64 (rs (b + d))]) (by simp [results, Tryd.results48, go_sem, y0, y1]) rfl ⟨rfl, ?_⟩
  exact (HB.out.setCell (p := ⟨w.heap.size + 1 + 1, 0, none⟩) (by simp; omega) _).setCell (p := ⟨w.heap.size + 1 + 1, 1, none⟩) (by simp; omega) _
set_option maxRecDepth 100000 in
set_option maxHeartbeats 800000 in
theorem rmul (p q : ZP) (w : World) (hp : 0 ≤ p.1 ∧ p.1 < 65521 ∧ 0 ≤ p.2 ∧ p.2 < 65521) (hq : 0 ≤ q.1 ∧ q.1 < 65521 ∧ 0 ≤ q.2 ∧ q.2 < 65521) :
    Calls Tryd.prog 22 #[zv p, zv q] w fun e w' => e = .returned (zv (norm (cmul p q))) ∧ Below w.heap.size w w' := by
  obtain ⟨a, b⟩ := p
  obtain ⟨c, d⟩ := q
  dsimp only at hp hq
  obtain ⟨h1, h2, h3, h4⟩ := hp
  obtain ⟨g1, g2, g3, g4⟩ := hq
  have bd : ∀ x y : Int, (0 ≤ x ∧ x < 65521) → (0 ≤ y ∧ y < 65521) → 0 ≤ x * y ∧ x * y ≤ 4293001441 := fun x y hx hy =>
    ⟨Int.mul_nonneg hx.1 hy.1, by
      have := Int.mul_le_mul (show x ≤ 65521 by omega) (show y ≤ 65521 by omega) hy.1 (by decide)
      omega⟩
  obtain ⟨p1, p2⟩ := bd a c ⟨h1, h2⟩ ⟨g1, g2⟩
  obtain ⟨p3, p4⟩ := bd b d ⟨h3, h4⟩ ⟨g3, g4⟩
  obtain ⟨p5, p6⟩ := bd a d ⟨h1, h2⟩ ⟨g3, g4⟩
  obtain ⟨p7, p8⟩ := bd b c ⟨h3, h4⟩ ⟨g1, g2⟩
  clear bd
  have k1 : IntKind.i64.wrap (a * c) = a * c := IntWalk.i64_in _ (by omega)
  have k2 : IntKind.i64.wrap (b * d) = b * d := IntWalk.i64_in _ (by omega)
  have k3 : IntKind.i64.wrap (a * d) = a * d := IntWalk.i64_in _ (by omega)
  have k4 : IntKind.i64.wrap (b * c) = b * c := IntWalk.i64_in _ (by omega)
  have k5 : IntKind.i64.wrap (a * c - b * d) = a * c - b * d := IntWalk.i64_in _ (by omega)
  have k6 : IntKind.i64.wrap (a * d + b * c) = a * d + b * c := IntWalk.i64_in _ (by omega)
  unfold zv
  have H := Lib.hid (Z3.start w a b c d 45)
  go_enter Tryd.func22, Tryd.ntmps22
  go_wp2_with fail
  generalize (((w.alloc (.cells #[.int .i64 a, .int .i64 b] 45)).alloc (.cells #[.int .i64 c, .int .i64 d] 45)).alloc (.cells #[.int .i64 0, .int .i64 0] 45)) = V at H ⊢
  refine still_tail 25 (by kernel_rfl) (by kernel_rfl) fun W hW => ?_
  simp only [List.take_succ_cons, List.take_zero, List.drop_succ_cons, List.drop_zero]
  obtain ⟨x0, x1, x2, x3, x4, x5, x6, x7, x8⟩ := (show Z3 w a b c d W from hW ▸ H.out.drew)
  have HB := Lib.hid x8
  clear x8 hW H
  repeat still_step
  still_call (mod_rs _ _)
  repeat still_step
  still_call (mod_rs _ _)
  repeat still_step
  refine wpStill_nil ?_
  go_wp2_with fail
  obtain ⟨y0, y1⟩ := set_two (.int .i64 (rs (a * c - b * d))) (.int .i64 (rs (a * d + b * c))) x4 x5
  refine bodyPost_ret (v := .agg #[.int .i64 (rs (a * c - b * d)), .int .i64 (rs (a * d + b * c))]) (by simp [results, Tryd.results22, go_sem, y0, y1]) rfl ⟨rfl, ?_⟩
  exact (HB.out.setCell (p := ⟨w.heap.size + 1 + 1, 0, none⟩) (by simp; omega) _).setCell (p := ⟨w.heap.size + 1 + 1, 1, none⟩) (by simp; omega) _
end Go.Proofs.YtdpkmcbpeloljaaDoor

/- Walks of the document's numbers: mod, Add, Mul, Pow, On, Mark; pair, z. Walks of pair, z, and of the document's Pow, On, Mark. Walks of the document's On, Mark. -/
import Derived.Test.YtehplflhaegkbaaGreatDoorM2
import Derived.StillTailTactics
import Derived.IntWalk
import Derived.Deep.CutBlock
import Derived.Lib.Walk
import Derived.Deep.CutRange
namespace Go.Proofs.YtehplflhaegkbaaGreatDoor
open Go.RowKit

/-- A drawn region of reads and quiet calls ahead of a tail, the world under a name. -/
theorem still_tail {P : Program} {id : Nat} {Q : Exit → Act → World → Prop} {a : Act} {w : World} {l : List Oper} (n : Nat) (hm : P.follows .mixedOrders = true) (hB : Region.lexTailB .any l.toArray n = true)
    (h : ∀ W : World, W = w.drew → wpStill P l.toArray W (fun a' => wpList P l.toArray Q (l.drop n) a' W) (l.take n) a) : (Code.region id l.toArray true).wp P Q a w :=
  wp_region_still_tail n hm hB (h w.drew rfl)
/-- A pair of whole numbers as the document's struct. -/
abbrev zv (p : ZP) : Value := .agg #[.int .i64 p.1, .int .i64 p.2]
def norm (p : ZP) : ZP := (rs p.1, rs p.2)
theorem same_norm (p : ZP) : Same (norm p) p := same_rs p
theorem norm_same {p q : ZP} (h : Same p q) : norm p = norm q := by unfold norm; rw [h.1, h.2]
set_option maxRecDepth 100000 in
set_option maxHeartbeats 400000 in
theorem mod_rs (n : Int) (w : World) : Calls Tryz.prog 27 #[.int .i64 n] w fun e w' => e = .returned (.int .i64 (rs n)) ∧ w' = w := by
  obtain ⟨t1, t2, t3, t4⟩ := tmod_rs n
  obtain ⟨m, hm⟩ : ∃ m, n.tmod 65521 = m := ⟨_, rfl⟩
  rw [hm] at t1 t2 t3 t4
  have T1 := Lib.hid t1
  have T2 := Lib.hid t2
  clear t1 t2
  by_cases hlt : m < 0
  · have hlt' : decide (m < 0) = true := by simpa using hlt
    go_enter Tryz.func27, Tryz.ntmps27
    go_wp2_with fail
    go_ret
    exact ⟨ret_int (T1.out hlt), rfl⟩
  · have hlt' : decide (m < 0) = false := by simpa using hlt
    go_enter Tryz.func27, Tryz.ntmps27
    go_wp2_with fail
    go_ret
    exact ⟨ret_int (T2.out hlt), rfl⟩
/-- Two pairs in boxes, and a place for a third. -/
def Z3 (w : World) (a b c d : Int) (W : World) : Prop :=
  W.cell? ⟨w.heap.size, 0, none⟩ = some (.int .i64 a) ∧ W.cell? ⟨w.heap.size, 1, none⟩ = some (.int .i64 b) ∧
  W.cell? ⟨w.heap.size + 1, 0, none⟩ = some (.int .i64 c) ∧ W.cell? ⟨w.heap.size + 1, 1, none⟩ = some (.int .i64 d) ∧
  W.cell? ⟨w.heap.size + 1 + 1, 0, none⟩ = some (.int .i64 0) ∧ W.cell? ⟨w.heap.size + 1 + 1, 1, none⟩ = some (.int .i64 0) ∧
  W.frozen? ⟨w.heap.size + 1 + 1, 0, none⟩ = false ∧ W.frozen? ⟨w.heap.size + 1 + 1, 1, none⟩ = false ∧ Below w.heap.size w W
theorem Z3.start (w : World) (a b c d : Int) (t : TypeId) : Z3 w a b c d (((w.alloc (.cells #[.int .i64 a, .int .i64 b] t)).alloc (.cells #[.int .i64 c, .int .i64 d] t)).alloc (.cells #[.int .i64 0, .int .i64 0] t)) := by
  refine ⟨?_, ?_, ?_, ?_, ?_, ?_, ?_, ?_, below_alloc (below_alloc (below_alloc (Below.refl _ _) _) _) _⟩ <;> simp [go_sem]
theorem Z3.drew {w W : World} {a b c d : Int} (h : Z3 w a b c d W) : Z3 w a b c d W.drew := by
  obtain ⟨h1, h2, h3, h4, h5, h6, h7, h8, h9⟩ := h
  exact ⟨by simpa using h1, by simpa using h2, by simpa using h3, by simpa using h4, by simpa using h5, by simpa using h6, by simpa using h7, by simpa using h8, h9.drew⟩
theorem set_two {W : World} {B : Nat} {u v : Value} (u' v' : Value) (h0 : W.cell? ⟨B, 0, none⟩ = some u) (h1 : W.cell? ⟨B, 1, none⟩ = some v) :
    (W.setCell ⟨B, 0, none⟩ u').cell? ⟨B, 0, none⟩ = some u' ∧ ((W.setCell ⟨B, 0, none⟩ u').setCell ⟨B, 1, none⟩ v').cell? ⟨B, 1, none⟩ = some v' :=
  ⟨World.cell?_setCell_same _ _ _ h0, World.cell?_setCell_same _ _ _ (u := v) (by rw [World.cell?_setCell_other _ _ _ _ (by simp)]; exact h1)⟩
set_option maxRecDepth 100000 in
set_option maxHeartbeats 800000 in
theorem radd (p q : ZP) (w : World) (hp : -4294967296 ≤ p.1 ∧ p.1 ≤ 4294967296 ∧ -4294967296 ≤ p.2 ∧ p.2 ≤ 4294967296) (hq : -4294967296 ≤ q.1 ∧ q.1 ≤ 4294967296 ∧ -4294967296 ≤ q.2 ∧ q.2 ≤ 4294967296) :
    Calls Tryz.prog 45 #[zv p, zv q] w fun e w' => e = .returned (zv (norm (cadd p q))) ∧ Below w.heap.size w w' := by
  obtain ⟨a, b⟩ := p
  obtain ⟨c, d⟩ := q
  dsimp only at hp hq
  obtain ⟨h1, h2, h3, h4⟩ := hp
  obtain ⟨g1, g2, g3, g4⟩ := hq
  unfold zv
  have H := Lib.hid (Z3.start w a b c d 42)
  go_enter Tryz.func45, Tryz.ntmps45
  go_wp2_with fail
  generalize (((w.alloc (.cells #[.int .i64 a, .int .i64 b] 42)).alloc (.cells #[.int .i64 c, .int .i64 d] 42)).alloc (.cells #[.int .i64 0, .int .i64 0] 42)) = V at H ⊢
  refine still_tail 13 (by kernel_rfl) (by kernel_rfl) fun W hW => ?_
  simp only [List.take_succ_cons, List.take_zero, List.drop_succ_cons, List.drop_zero]
  obtain ⟨x0, x1, x2, x3, x4, x5, x6, x7, x8⟩ := (show Z3 w a b c d W from hW ▸ H.out.drew)
  have HB := Lib.hid x8
  clear x8 hW H
  repeat still_step
  still_call (mod_rs _ _)
  repeat still_step
  still_call (mod_rs _ _)
  repeat still_step
  refine wpStill_nil ?_
  go_wp2_with fail
  obtain ⟨y0, y1⟩ := set_two (.int .i64 (rs (a + c))) (.int .i64 (rs (b + d))) x4 x5
  refine bodyPost_ret (v := .agg #[.int .i64 (rs (a + c)), .int .i64 (rs (b + d))]) (by simp [results, Tryz.results45, go_sem, y0, y1]) rfl ⟨rfl, ?_⟩
  exact (HB.out.setCell (p := ⟨w.heap.size + 1 + 1, 0, none⟩) (by simp; omega) _).setCell (p := ⟨w.heap.size + 1 + 1, 1, none⟩) (by simp; omega) _
set_option maxRecDepth 100000 in
set_option maxHeartbeats 800000 in
theorem rmul (p q : ZP) (w : World) (hp : 0 ≤ p.1 ∧ p.1 < 65521 ∧ 0 ≤ p.2 ∧ p.2 < 65521) (hq : 0 ≤ q.1 ∧ q.1 < 65521 ∧ 0 ≤ q.2 ∧ q.2 < 65521) :
    Calls Tryz.prog 19 #[zv p, zv q] w fun e w' => e = .returned (zv (norm (cmul p q))) ∧ Below w.heap.size w w' := by
  obtain ⟨a, b⟩ := p
  obtain ⟨c, d⟩ := q
  dsimp only at hp hq
  obtain ⟨h1, h2, h3, h4⟩ := hp
  obtain ⟨g1, g2, g3, g4⟩ := hq
  have bd : ∀ x y : Int, (0 ≤ x ∧ x < 65521) → (0 ≤ y ∧ y < 65521) → 0 ≤ x * y ∧ x * y ≤ 4293001441 := fun x y hx hy =>
    ⟨Int.mul_nonneg hx.1 hy.1, by
      have := Int.mul_le_mul (show x ≤ 65521 by omega) (show y ≤ 65521 by omega) hy.1 (by decide)
      omega⟩
  obtain ⟨p1, p2⟩ := bd a c ⟨h1, h2⟩ ⟨g1, g2⟩
  obtain ⟨p3, p4⟩ := bd b d ⟨h3, h4⟩ ⟨g3, g4⟩
  obtain ⟨p5, p6⟩ := bd a d ⟨h1, h2⟩ ⟨g3, g4⟩
  obtain ⟨p7, p8⟩ := bd b c ⟨h3, h4⟩ ⟨g1, g2⟩
  clear bd
  have k1 : IntKind.i64.wrap (a * c) = a * c := IntWalk.i64_in _ (by omega)
  have k2 : IntKind.i64.wrap (b * d) = b * d := IntWalk.i64_in _ (by omega)
  have k3 : IntKind.i64.wrap (a * d) = a * d := IntWalk.i64_in _ (by omega)
  have k4 : IntKind.i64.wrap (b * c) = b * c := IntWalk.i64_in _ (by omega)
  have k5 : IntKind.i64.wrap (a * c - b * d) = a * c - b * d := IntWalk.i64_in _ (by omega)
  have k6 : IntKind.i64.wrap (a * d + b * c) = a * d + b * c := IntWalk.i64_in _ (by omega)
  unfold zv
  have H := Lib.hid (Z3.start w a b c d 42)
  go_enter Tryz.func19, Tryz.ntmps19
  go_wp2_with fail
  generalize (((w.alloc (.cells #[.int .i64 a, .int .i64 b] 42)).alloc (.cells #[.int .i64 c, .int .i64 d] 42)).alloc (.cells #[.int .i64 0, .int .i64 0] 42)) = V at H ⊢
  refine still_tail 25 (by kernel_rfl) (by kernel_rfl) fun W hW => ?_
  simp only [List.take_succ_cons, List.take_zero, List.drop_succ_cons, List.drop_zero]
  obtain ⟨x0, x1, x2, x3, x4, x5, x6, x7, x8⟩ := (show Z3 w a b c d W from hW ▸ H.out.drew)
  have HB := Lib.hid x8
  clear x8 hW H
  repeat still_step
  still_call (mod_rs _ _)
  repeat still_step
  still_call (mod_rs _ _)
  repeat still_step
  refine wpStill_nil ?_
  go_wp2_with fail
  obtain ⟨y0, y1⟩ := set_two (.int .i64 (rs (a * c - b * d))) (.int .i64 (rs (a * d + b * c))) x4 x5
  refine bodyPost_ret (v := .agg #[.int .i64 (rs (a * c - b * d)), .int .i64 (rs (a * d + b * c))]) (by simp [results, Tryz.results19, go_sem, y0, y1]) rfl ⟨rfl, ?_⟩
  exact (HB.out.setCell (p := ⟨w.heap.size + 1 + 1, 0, none⟩) (by simp; omega) _).setCell (p := ⟨w.heap.size + 1 + 1, 1, none⟩) (by simp; omega) _
end Go.Proofs.YtehplflhaegkbaaGreatDoor
namespace Go.Proofs.YtehplflhaegkbaaGreatDoor
open Go.RowKit

theorem norm_norm (p : ZP) : norm (norm p) = norm p := norm_same (same_norm p)
theorem norm_bd (p : ZP) : 0 ≤ (norm p).1 ∧ (norm p).1 < 65521 ∧ 0 ≤ (norm p).2 ∧ (norm p).2 < 65521 := by
  have h1 := rs_bd p.1
  have h2 := rs_bd p.2
  exact ⟨h1.1, h1.2, h2.1, h2.2⟩
theorem radd_norm (p q : ZP) (w : World) : Calls Tryz.prog 45 #[zv (norm p), zv (norm q)] w fun e w' => e = .returned (zv (norm (cadd p q))) ∧ Below w.heap.size w w' := by
  have h1 := norm_bd p
  have h2 := norm_bd q
  refine (radd _ _ w (by omega) (by omega)).mono ?_
  rintro e w' ⟨rfl, hb⟩
  exact ⟨by rw [norm_same ((same_norm p).add (same_norm q))], hb⟩
theorem rmul_norm (p q : ZP) (w : World) : Calls Tryz.prog 19 #[zv (norm p), zv (norm q)] w fun e w' => e = .returned (zv (norm (cmul p q))) ∧ Below w.heap.size w w' := by
  refine (rmul _ _ w (norm_bd p) (norm_bd q)).mono ?_
  rintro e w' ⟨rfl, hb⟩
  exact ⟨by rw [norm_same ((same_norm p).mul (same_norm q))], hb⟩
/-- A box of two cells that may be written. -/
def Box2 (B : Nat) (u v : Value) (W : World) : Prop := W.cell? ⟨B, 0, none⟩ = some u ∧ W.cell? ⟨B, 1, none⟩ = some v ∧ W.frozen? ⟨B, 0, none⟩ = false ∧ W.frozen? ⟨B, 1, none⟩ = false
theorem Box2.keep {B : Nat} {u v : Value} {W W' : World} (h : Box2 B u v W) (hb : Below W.heap.size W W') : Box2 B u v W' :=
  ⟨cell_keep hb h.1, cell_keep hb h.2.1, frozen_keep hb h.1 h.2.2.1, frozen_keep hb h.2.1 h.2.2.2⟩
theorem Box2.drew {B : Nat} {u v : Value} {W : World} (h : Box2 B u v W) : Box2 B u v W.drew := h.keep (Below.refl _ _).drew
theorem Box2.set {B : Nat} {u v : Value} {W : World} (h : Box2 B u v W) (u' v' : Value) : Box2 B u' v' ((W.setCell ⟨B, 0, none⟩ u').setCell ⟨B, 1, none⟩ v') := by
  obtain ⟨h0, h1, f0, f1⟩ := h
  refine ⟨?_, World.cell?_setCell_same _ _ _ (u := v) (by rw [World.cell?_setCell_other _ _ _ _ (by simp)]; exact h1), by simp [f0], by simp [f1]⟩
  rw [World.cell?_setCell_other _ _ _ _ (by simp)]; exact World.cell?_setCell_same _ _ _ h0
theorem Box2.other {B B' : Nat} {u v : Value} {W : World} (h : Box2 B u v W) (hne : B ≠ B') (u' v' : Value) : Box2 B u v ((W.setCell ⟨B', 0, none⟩ u').setCell ⟨B', 1, none⟩ v') := by
  obtain ⟨h0, h1, f0, f1⟩ := h
  refine ⟨?_, ?_, by simp [f0], by simp [f1]⟩
  · rw [World.cell?_setCell_other _ _ _ _ (by intro e; simp only [Addr.mk.injEq] at e; omega), World.cell?_setCell_other _ _ _ _ (by intro e; simp only [Addr.mk.injEq] at e; omega)]; exact h0
  · rw [World.cell?_setCell_other _ _ _ _ (by intro e; simp only [Addr.mk.injEq] at e; omega), World.cell?_setCell_other _ _ _ _ (by intro e; simp only [Addr.mk.injEq] at e; omega)]; exact h1
theorem below_set2 {B b : Nat} {a w : World} (h : Below B a w) (hb : B ≤ b) (u v : Value) : Below B a ((w.setCell ⟨b, 0, none⟩ u).setCell ⟨b, 1, none⟩ v) :=
  (h.setCell (p := ⟨b, 0, none⟩) hb u).setCell (p := ⟨b, 1, none⟩) hb v
def bxZ (B : Nat) (p : ZP) (W : World) : Prop := Box2 B (.int .i64 (norm p).1) (.int .i64 (norm p).2) W
/-- The state of the document's Pow. -/
def PowS (w : World) (p u : ZP) (W : World) : Prop := bxZ w.heap.size p W ∧ Box2 (w.heap.size + 1) (.int .i64 0) (.int .i64 0) W ∧ bxZ (w.heap.size + 1 + 1) u W ∧ Below w.heap.size w W
theorem PowS.keep {w W W' : World} {p u : ZP} (h : PowS w p u W) (hb : Below W.heap.size W W') : PowS w p u W' := ⟨h.1.keep hb, h.2.1.keep hb, h.2.2.1.keep hb, below_on h.2.2.2 hb⟩
theorem PowS.set {w W : World} {p u : ZP} (h : PowS w p u W) (u' : ZP) : PowS w p u' ((W.setCell ⟨w.heap.size + 1 + 1, 0, none⟩ (.int .i64 (norm u').1)).setCell ⟨w.heap.size + 1 + 1, 1, none⟩ (.int .i64 (norm u').2)) :=
  ⟨h.1.other (by omega) _ _, h.2.1.other (by omega) _ _, h.2.2.1.set _ _, below_set2 h.2.2.2 (by omega) _ _⟩
theorem PowS.start (w : World) (p : ZP) (t : TypeId) : PowS w p (1, 0) (((w.alloc (.cells #[.int .i64 (norm p).1, .int .i64 (norm p).2] t)).alloc (.cells #[.int .i64 0, .int .i64 0] t)).alloc (.cells #[.int .i64 1, .int .i64 0] t)) := by
  refine ⟨⟨?_, ?_, ?_, ?_⟩, ⟨?_, ?_, ?_, ?_⟩, ⟨?_, ?_, ?_, ?_⟩, below_alloc (below_alloc (below_alloc (Below.refl _ _) _) _) _⟩ <;> simp [go_sem, norm, rs]
set_option maxRecDepth 100000 in
set_option maxHeartbeats 800000 in
theorem rpow (p : ZP) (n : Nat) (w : World) (hn : n ≤ 9223372036854775807) :
    Calls Tryz.prog 21 #[zv (norm p), .int .i64 n] w fun e w' => e = .returned (zv (norm (cpow p n))) ∧ Below w.heap.size w w' := by
  have H := Lib.hid (PowS.start w p 42)
  go_enter Tryz.func21, Tryz.ntmps21
  go_wp2_with fail
  generalize (((w.alloc (.cells #[.int .i64 (norm p).1, .int .i64 (norm p).2] 42)).alloc (.cells #[.int .i64 0, .int .i64 0] 42)).alloc (.cells #[.int .i64 1, .int .i64 0] 42)) = V at H ⊢
  go_loopw [6] (fun i wr => ∃ k : Nat, k ≤ n ∧ i = .int .i64 k ∧ PowS w p (cpow p k) wr) (fun i _ => n - (intOf i).toNat)
  case atStart => exact ⟨0, Nat.zero_le _, rfl, H.out⟩
  case round =>
    obtain ⟨k, hk, rfl, hS⟩ := hrel
    have HS := Lib.hid hS
    obtain ⟨⟨x0, x1, x2, x3⟩, ⟨y0, y1, y2, y3⟩, ⟨z0, z1, z2, z3⟩, -⟩ := hS
    clear H
    by_cases hlt : k < n
    · go_wp2_with (go_at_call 19; refine (rmul_norm (cpow p k) p _).mono ?_; rintro e' w1 ⟨rfl, hb⟩; have HK := Lib.hid (HS.out.keep hb); clear x0 x1 x2 x3 y0 y1 y2 y3 z0 z1 z2 z3 hb; obtain ⟨-, -, ⟨z0, z1, z2, z3⟩, -⟩ := HK.out)
      go_roundw
      case rel => exact ⟨k + 1, by omega, by go_num, HK.out.set _⟩
      case measure => simp [intOf]; omega
    · have hkn : k = n := by omega
      subst hkn
      go_wp2_with fail
      obtain ⟨q0, q1⟩ := set_two (.int .i64 (norm (cpow p k)).1) (.int .i64 (norm (cpow p k)).2) y0 y1
      refine bodyPost_ret (v := zv (norm (cpow p k))) (by simp [results, Tryz.results21, go_sem, q0, q1, zv]) rfl ⟨rfl, ?_⟩
      exact below_set2 HS.out.2.2.2 (by omega) _ _
end Go.Proofs.YtehplflhaegkbaaGreatDoor
namespace Go.Proofs.YtehplflhaegkbaaGreatDoor
open Go.RowKit

theorem rmul35 (p : ZP) (w : World) : Calls Tryz.prog 19 #[.agg #[.int .i64 (norm p).1, .int .i64 (norm p).2], .agg #[.int .i64 3, .int .i64 5]] w fun e w' => e = .returned (zv (norm (cmul p (3, 5)))) ∧ Below w.heap.size w w' := rmul_norm p (3, 5) w
theorem raddb (p : ZP) (b : UInt8) (w : World) : Calls Tryz.prog 45 #[.agg #[.int .i64 (norm p).1, .int .i64 (norm p).2], .agg #[.int .i64 ((b.toNat : Int) + 1), .int .i64 0]] w fun e w' => e = .returned (zv (norm (cadd p ((b.toNat : Int) + 1, 0)))) ∧ Below w.heap.size w w' := by
  have hb := b.toNat_lt
  have h1 := norm_bd p
  refine (radd (norm p) ((b.toNat : Int) + 1, 0) w (by omega) (by dsimp only; omega)).mono ?_
  rintro e w' ⟨rfl, hb⟩
  exact ⟨by rw [norm_same ((same_norm p).add (Same.refl _))], hb⟩
def OnR (w : World) (p : ZP) (W : World) : Prop := bxZ w.heap.size p W ∧ Box2 (w.heap.size + 1) (.int .i64 0) (.int .i64 0) W ∧ Below w.heap.size w W
theorem OnR.keep {w W W' : World} {p : ZP} (h : OnR w p W) (hb : Below W.heap.size W W') : OnR w p W' := ⟨h.1.keep hb, h.2.1.keep hb, below_on h.2.2 hb⟩
theorem OnR.set {w W : World} {p : ZP} (h : OnR w p W) (u' : ZP) : OnR w u' ((W.setCell ⟨w.heap.size, 0, none⟩ (.int .i64 (norm u').1)).setCell ⟨w.heap.size, 1, none⟩ (.int .i64 (norm u').2)) :=
  ⟨h.1.set _ _, h.2.1.other (by omega) _ _, below_set2 h.2.2 (by omega) _ _⟩
theorem OnR.start (w : World) (p : ZP) (t : TypeId) : OnR w p ((w.alloc (.cells #[.int .i64 (norm p).1, .int .i64 (norm p).2] t)).alloc (.cells #[.int .i64 0, .int .i64 0] t)) := by
  refine ⟨⟨?_, ?_, ?_, ?_⟩, ⟨?_, ?_, ?_, ?_⟩, below_alloc (below_alloc (Below.refl _ _) _) _⟩ <;> simp [go_sem]
theorem str_next (s : ByteArray) (k : Nat) (h : k < s.size) : s.data.toList.take (k + 1) = s.data.toList.take k ++ [s[k]] := by
  rw [List.take_succ_eq_append_getElem (by simpa using h)]; rfl
set_option maxRecDepth 100000 in
set_option maxHeartbeats 1600000 in
theorem ron (p : ZP) (s : ByteArray) (w : World) (hs : s.size ≤ 9223372036854775807) :
    Calls Tryz.prog 28 #[zv (norm p), .string s] w fun e w' => e = .returned (zv (norm (con p s.data.toList))) ∧ Below w.heap.size w w' := by
  have H := Lib.hid (OnR.start w p 42)
  go_enter Tryz.func28, Tryz.ntmps28
  go_wp2_with fail
  generalize ((w.alloc (.cells #[.int .i64 (norm p).1, .int .i64 (norm p).2] 42)).alloc (.cells #[.int .i64 0, .int .i64 0] 42)) = V at H ⊢
  go_loopw [5] (fun i wr => ∃ k : Nat, k ≤ s.size ∧ i = .int .i64 k ∧ OnR w (con p (s.data.toList.take k)) wr) (fun i _ => s.size - (intOf i).toNat)
  case atStart => exact ⟨0, Nat.zero_le _, rfl, H.out⟩
  case round =>
    obtain ⟨k, hk, rfl, hS⟩ := hrel
    have HS := Lib.hid hS
    obtain ⟨⟨x0, x1, x2, x3⟩, ⟨y0, y1, y2, y3⟩, -⟩ := hS
    clear H
    by_cases hlt : k < s.size
    · have HN := Lib.hid (str_next s k hlt)
      have hb := (s[k]).toNat_lt
      have q0 : (k : Int) < (s.size : Int) := by omega
      have q2 : IntKind.i64.wrap ((s[k]).toNat : Int) = ((s[k]).toNat : Int) := IntWalk.i64_in _ (by omega)
      have q1 : IntKind.i64.wrap (((s[k]).toNat : Int) + 1) = ((s[k]).toNat : Int) + 1 := IntWalk.i64_in _ (by omega)
      go_wp2_with fail
      obtain ⟨wo, rfl⟩ : ∃ wo : World, wo = wr := ⟨_, rfl⟩
      have HD := Lib.hid (HS.out.keep (Below.refl _ _).drew)
      clear x0 x1 x2 x3 y0 y1 y2 y3
      obtain ⟨⟨x0, x1, x2, x3⟩, -⟩ := HD.out
      go_region_with (first | (go_at_call 19; (with_reducible refine (rmul35 _ _).mono ?_); rintro e' w1 ⟨rfl, hb1⟩; have HK := Lib.hid (HD.out.keep hb1); clear hb1) | (go_at_call 45; (with_reducible refine (raddb _ _ _).mono ?_); rintro e' w2 ⟨rfl, hb2⟩; have HK2 := Lib.hid (HK.out.keep hb2); clear x0 x1 x2 x3 hb2; obtain ⟨⟨x0, x1, x2, x3⟩, -⟩ := HK2.out))
      all_goals
        go_wp2_with fail
        go_roundw
        case rel => exact ⟨k + 1, by omega, by go_num, by rw [HN.out, con_snoc]; exact HK2.out.set (cstep (con p (s.data.toList.take k)) s[k])⟩
        case measure => simp [intOf]; omega
    · have hkn : k = s.size := by omega
      have HT := Lib.hid (show s.data.toList.take k = s.data.toList by rw [hkn]; exact List.take_of_length_le (by simp))
      rw [HT.out] at HS x0 x1
      clear hkn
      go_wp2_with fail
      obtain ⟨q0, q1⟩ := set_two (.int .i64 (norm (con p s.data.toList)).1) (.int .i64 (norm (con p s.data.toList)).2) y0 y1
      refine bodyPost_ret (v := zv (norm (con p s.data.toList))) (by simp [results, Tryz.results28, go_sem, q0, q1, zv]) rfl ⟨rfl, ?_⟩
      exact below_set2 HS.out.2.2 (by omega) _ _
theorem ron01 (s : ByteArray) (w : World) (hs : s.size ≤ 9223372036854775807) :
    Calls Tryz.prog 28 #[.agg #[.int .i64 0, .int .i64 1], .string s] w fun e w' => e = .returned (zv (norm (cmark s.data.toList))) ∧ Below w.heap.size w w' := ron (0, 1) s w hs
set_option maxRecDepth 100000 in
set_option maxHeartbeats 800000 in
theorem rmark (s : ByteArray) (w : World) (hs : s.size ≤ 9223372036854775807) :
    Calls Tryz.prog 20 #[.string s] w fun e w' => e = .returned (zv (norm (cmark s.data.toList))) ∧ Below w.heap.size w w' := by
  have hx : Box2 w.heap.size (.int .i64 0) (.int .i64 0) (w.alloc (.cells #[.int .i64 0, .int .i64 0] 42)) := by
    refine ⟨?_, ?_, ?_, ?_⟩ <;> simp [go_sem]
  have HX := Lib.hid hx
  have HL : Hid (Below w.heap.size w (w.alloc (.cells #[.int .i64 0, .int .i64 0] 42))) := Lib.hid (below_alloc (Below.refl _ _) _)
  clear hx
  go_enter Tryz.func20, Tryz.ntmps20
  go_wp2_with (go_at_call 28; refine (ron01 _ _ hs).mono ?_; rintro e' w1 ⟨rfl, hb⟩; obtain ⟨x0, x1, x2, x3⟩ := HX.out.keep hb; replace HL := Lib.hid (below_on HL.out hb); clear hb)
  obtain ⟨y0, y1⟩ := set_two (.int .i64 (norm (cmark s.data.toList)).1) (.int .i64 (norm (cmark s.data.toList)).2) x0 x1
  refine bodyPost_ret (v := zv (norm (cmark s.data.toList))) (by simp [results, Tryz.results20, go_sem, y0, y1, zv]) rfl ⟨rfl, ?_⟩
  exact below_set2 HL.out (Nat.le_refl _) _ _
end Go.Proofs.YtehplflhaegkbaaGreatDoor

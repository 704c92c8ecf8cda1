/- GaussAll: the walk. -/
import Derived.Test.YtchfphhelafbbaaDoorBg
namespace Go.Proofs.YtchfphhelafbbaaDoor
open Go.RowKit

theorem toB {f : FuncId} {args : Array Value} {w : World} {v : Value} (h : Calls Tryd.prog f args w fun e w' => e = .returned v ∧ w = w') : Calls Tryd.prog f args w fun e w' => e = .returned v ∧ Below w.heap.size w w' :=
  h.mono fun _ _ ⟨he, hw⟩ => ⟨he, hw ▸ Below.refl _ _⟩
/-- Two boxes of a pair each. -/
def ZZ (w : World) (B : Nat) (p q : ZP) (V : World) : Prop := V.cell? ⟨B, 0, none⟩ = some (.int .i64 (norm p).1) ∧ V.cell? ⟨B, 1, none⟩ = some (.int .i64 (norm p).2) ∧ V.cell? ⟨B + 1, 0, none⟩ = some (.int .i64 (norm q).1) ∧ V.cell? ⟨B + 1, 1, none⟩ = some (.int .i64 (norm q).2) ∧ Below w.heap.size w V
theorem ZZ.keep {w V V' : World} {B : Nat} {p q : ZP} (h : ZZ w B p q V) (hb : Below V.heap.size V V') : ZZ w B p q V' := ⟨cell_keep hb h.1, cell_keep hb h.2.1, cell_keep hb h.2.2.1, cell_keep hb h.2.2.2.1, below_on h.2.2.2.2 hb⟩
theorem ZZ.all {w V : World} {B : Nat} {p q : ZP} (h : ZZ w B p q V) : V.cell? ⟨B, 0, none⟩ = some (.int .i64 (norm p).1) ∧ V.cell? ⟨B, 1, none⟩ = some (.int .i64 (norm p).2) ∧ V.cell? ⟨B + 1, 0, none⟩ = some (.int .i64 (norm q).1) ∧ V.cell? ⟨B + 1, 1, none⟩ = some (.int .i64 (norm q).2) ∧ ZZ w B p q V := ⟨h.1, h.2.1, h.2.2.1, h.2.2.2.1, h⟩
theorem ZZ.start {w w1 : World} (h : Below w.heap.size w w1) (p q : ZP) (t : TypeId) : ZZ w w1.heap.size p q ((w1.alloc (.cells #[.int .i64 (norm p).1, .int .i64 (norm p).2] t)).alloc (.cells #[.int .i64 (norm q).1, .int .i64 (norm q).2] t)) := by
  refine ⟨?_, ?_, ?_, ?_, below_alloc (below_alloc h _) _⟩ <;> simp [go_sem]
theorem pair_p (a b : Int) (p : ZP) (hp : Hid ((a, b) = p)) (w : World) : Calls Tryd.prog 23 #[.int .i64 a, .int .i64 b] w fun e w' => e = .returned (.agg #[.int .i64 (norm p).1, .int .i64 (norm p).2]) ∧ Below w.heap.size w w' := by
  have := pair_any a b w
  rw [hp.out] at this
  exact this
theorem z_p (p : ZP) (w : World) : Calls Tryd.prog 22 #[.agg #[.int .i64 (norm p).1, .int .i64 (norm p).2]] w fun e w' => e = .returned (cv p) ∧ Below w.heap.size w w' := z_norm p w
set_option maxRecDepth 100000 in
set_option maxHeartbeats 6400000 in
theorem gaussAll_neg (a b c d n : Int) (hn : n < 0) (w : World) (L : Laid w) : Calls Tryd.prog 16 #[.int .i64 a, .int .i64 b, .int .i64 c, .int .i64 d, .int .i64 n] w fun e w' => e = .returned (.bool true) ∧ Below w.heap.size w w' := by
  obtain ⟨p, hp⟩ : ∃ p, Hid ((a, b) = p) := ⟨_, Lib.hid rfl⟩
  obtain ⟨q, hq⟩ : ∃ q, Hid ((c, d) = q) := ⟨_, Lib.hid rfl⟩
  have HL := Lib.hid L
  have HB : Hid (Below w.heap.size w w) := Lib.hid (Below.refl _ _)
  have hg := eqGuard_cv
  have hE := fun (p q : ZP) w => run_eq_cv 23 p q w
  have d1 : decide (40 < n) = false := decide_eq_false (by omega)
  have d2 : decide (0 ≤ n) = false := decide_eq_false (by omega)
  have d2' : decide (n < 0) = true := decide_eq_true (by omega)
  have e1 : eqZ (cadd p q) (cadd p q) = true := eqZ_of rfl
  have e2 : eqZ (cmul p q) (cmul p q) = true := eqZ_of rfl
  have e4 : ∀ w, (binOp .eql 23 (cv (0, 0)) (.complex .f64 0 0)).run Tryd.prog w = .ok (.bool true) w := fun w => by
    rw [zero_cv, run_eq_cv, eqZ_of rfl]
  clear L
  go_enter Tryd.func16, Tryd.ntmps16
  go_wp2_with (first | (go_at_call 19; refine (begun_any _ HL.out).mono ?_; rintro e' w1 ⟨rfl, hb⟩; have HB := Lib.hid (below_on HB.out hb); clear hb) | (go_at_call 23; (first | ((with_reducible refine (pair_p a b p hp _).mono ?_)) | ((with_reducible refine (pair_p c d q hq _).mono ?_))); rintro e' w1 ⟨rfl, hb⟩; have HB := Lib.hid (below_on HB.out hb); clear hb))
  have H : Hid (ZZ w w1.heap.size p q ((w1.alloc (.cells #[.int .i64 (norm p).1, .int .i64 (norm p).2] 29)).alloc (.cells #[.int .i64 (norm q).1, .int .i64 (norm q).2] 29))) := Lib.hid (ZZ.start HB.out _ _ _)
  generalize ((w1.alloc (.cells #[.int .i64 (norm p).1, .int .i64 (norm p).2] 29)).alloc (.cells #[.int .i64 (norm q).1, .int .i64 (norm q).2] 29)) = V at H ⊢
  generalize w1.heap.size = B at H ⊢
  obtain ⟨x0, x1, x2, x3, -⟩ := H.out
  go_region_held3 (fun V => V.cell? ⟨B, 0, none⟩ = some (.int .i64 (norm p).1) ∧ V.cell? ⟨B, 1, none⟩ = some (.int .i64 (norm p).2) ∧ V.cell? ⟨B + 1, 0, none⟩ = some (.int .i64 (norm q).1) ∧ V.cell? ⟨B + 1, 1, none⟩ = some (.int .i64 (norm q).2) ∧ ZZ w B p q V)
    (first | exact (H.out.keep (Below.refl _ _).drew).all | exact ((by with_reducible assumption : _ ∧ _ ∧ _ ∧ _ ∧ ZZ _ _ _ _ _).2.2.2.2.keep hb).all)
    ((go_at_call 22; (first | ((with_reducible refine (z_p p _).mono ?_)) | ((with_reducible refine (z_p q _).mono ?_))); rintro e' w' ⟨rfl, hb⟩))
  have s1 := (by with_reducible assumption : _ ∧ _ ∧ _ ∧ _ ∧ ZZ _ _ _ _ _).2.2.2.2
  have H := Lib.hid s1
  clear s1 x0 x1 x2 x3
  obtain ⟨x0, x1, x2, x3, -⟩ := H.out
  go_wp2_with fail

  go_region_held3 (fun V => V.cell? ⟨B, 0, none⟩ = some (.int .i64 (norm p).1) ∧ V.cell? ⟨B, 1, none⟩ = some (.int .i64 (norm p).2) ∧ V.cell? ⟨B + 1, 0, none⟩ = some (.int .i64 (norm q).1) ∧ V.cell? ⟨B + 1, 1, none⟩ = some (.int .i64 (norm q).2) ∧ ZZ w B p q V)
    (first | exact (H.out.keep (Below.refl _ _).drew).all | exact ((by with_reducible assumption : _ ∧ _ ∧ _ ∧ _ ∧ ZZ _ _ _ _ _).2.2.2.2.keep hb).all)
    (first | (go_at_call 21; refine (toB (may_cv p _)).mono ?_; rintro e' w' ⟨rfl, hb⟩) | (go_at_call 24; refine (toB (add_cv p q _)).mono ?_; rintro e' w' ⟨rfl, hb⟩) | (go_at_call 45; refine (radd_norm p q _).mono ?_; rintro e' w' ⟨rfl, hb⟩) | (go_at_call 25; refine (toB (mul_cv p q _)).mono ?_; rintro e' w' ⟨rfl, hb⟩) | (go_at_call 46; refine (rmul_norm p q _).mono ?_; rintro e' w' ⟨rfl, hb⟩) | (go_at_call 47; refine (toB (pow_neg p n _ hn)).mono ?_; rintro e' w' ⟨rfl, hb⟩) | (go_at_call 22; (first | ((with_reducible refine (z_p (cadd p q) _).mono ?_)) | ((with_reducible refine (z_p (cmul p q) _).mono ?_))); rintro e' w' ⟨rfl, hb⟩))
  have s1 := (by with_reducible assumption : _ ∧ _ ∧ _ ∧ _ ∧ ZZ _ _ _ _ _).2.2.2.2
  have H := Lib.hid s1
  clear s1 x0 x1 x2 x3
  go_wp2_with fail
  go_ret
  exact ⟨rfl, H.out.2.2.2.2⟩
set_option maxRecDepth 100000 in
set_option maxHeartbeats 6400000 in
theorem gaussAll_low (a b c d : Int) (n : Nat) (hn : n ≤ 40) (w : World) (L : Laid w) : Calls Tryd.prog 16 #[.int .i64 a, .int .i64 b, .int .i64 c, .int .i64 d, .int .i64 n] w fun e w' => e = .returned (.bool true) ∧ Below w.heap.size w w' := by
  obtain ⟨p, hp⟩ : ∃ p, Hid ((a, b) = p) := ⟨_, Lib.hid rfl⟩
  obtain ⟨q, hq⟩ : ∃ q, Hid ((c, d) = q) := ⟨_, Lib.hid rfl⟩
  have HL := Lib.hid L
  have HB : Hid (Below w.heap.size w w) := Lib.hid (Below.refl _ _)
  have hg := eqGuard_cv
  have hE := fun (p q : ZP) w => run_eq_cv 23 p q w
  have d1 : decide ((40 : Int) < (n : Int)) = false := decide_eq_false (by omega)
  have d1n : decide (40 < n) = false := decide_eq_false (by omega)
  have d2 : decide ((0 : Int) ≤ (n : Int)) = true := decide_eq_true (by omega)
  have hn63 : n ≤ 9223372036854775807 := by omega
  have e1 : eqZ (cadd p q) (cadd p q) = true := eqZ_of rfl
  have e2 : eqZ (cmul p q) (cmul p q) = true := eqZ_of rfl
  have e4 : eqZ (cpow p n) (cpow p n) = true := eqZ_of rfl
  clear L
  go_enter Tryd.func16, Tryd.ntmps16
  go_wp2_with (first | (go_at_call 19; refine (begun_any _ HL.out).mono ?_; rintro e' w1 ⟨rfl, hb⟩; have HB := Lib.hid (below_on HB.out hb); clear hb) | (go_at_call 23; (first | ((with_reducible refine (pair_p a b p hp _).mono ?_)) | ((with_reducible refine (pair_p c d q hq _).mono ?_))); rintro e' w1 ⟨rfl, hb⟩; have HB := Lib.hid (below_on HB.out hb); clear hb))
  have H : Hid (ZZ w w1.heap.size p q ((w1.alloc (.cells #[.int .i64 (norm p).1, .int .i64 (norm p).2] 29)).alloc (.cells #[.int .i64 (norm q).1, .int .i64 (norm q).2] 29))) := Lib.hid (ZZ.start HB.out _ _ _)
  generalize ((w1.alloc (.cells #[.int .i64 (norm p).1, .int .i64 (norm p).2] 29)).alloc (.cells #[.int .i64 (norm q).1, .int .i64 (norm q).2] 29)) = V at H ⊢
  generalize w1.heap.size = B at H ⊢
  obtain ⟨x0, x1, x2, x3, -⟩ := H.out
  go_region_held3 (fun V => V.cell? ⟨B, 0, none⟩ = some (.int .i64 (norm p).1) ∧ V.cell? ⟨B, 1, none⟩ = some (.int .i64 (norm p).2) ∧ V.cell? ⟨B + 1, 0, none⟩ = some (.int .i64 (norm q).1) ∧ V.cell? ⟨B + 1, 1, none⟩ = some (.int .i64 (norm q).2) ∧ ZZ w B p q V)
    (first | exact (H.out.keep (Below.refl _ _).drew).all | exact ((by with_reducible assumption : _ ∧ _ ∧ _ ∧ _ ∧ ZZ _ _ _ _ _).2.2.2.2.keep hb).all)
    ((go_at_call 22; (first | ((with_reducible refine (z_p p _).mono ?_)) | ((with_reducible refine (z_p q _).mono ?_))); rintro e' w' ⟨rfl, hb⟩))
  have s1 := (by with_reducible assumption : _ ∧ _ ∧ _ ∧ _ ∧ ZZ _ _ _ _ _).2.2.2.2
  have H := Lib.hid s1
  clear s1 x0 x1 x2 x3
  obtain ⟨x0, x1, x2, x3, -⟩ := H.out
  go_wp2_with (first | (go_at_call 44; refine (rpow p n _ hn63).mono ?_; rintro e' w1 ⟨rfl, hb⟩; have H := Lib.hid (H.out.keep hb); clear hb) | (go_at_call 22; refine (z_norm (cpow p n) _).mono ?_; rintro e' w1 ⟨rfl, hb⟩; have H := Lib.hid (H.out.keep hb); clear hb))
  clear x0 x1 x2 x3
  obtain ⟨x0, x1, x2, x3, -⟩ := H.out
  go_region_held3 (fun V => V.cell? ⟨B, 0, none⟩ = some (.int .i64 (norm p).1) ∧ V.cell? ⟨B, 1, none⟩ = some (.int .i64 (norm p).2) ∧ V.cell? ⟨B + 1, 0, none⟩ = some (.int .i64 (norm q).1) ∧ V.cell? ⟨B + 1, 1, none⟩ = some (.int .i64 (norm q).2) ∧ ZZ w B p q V)
    (first | exact (H.out.keep (Below.refl _ _).drew).all | exact ((by with_reducible assumption : _ ∧ _ ∧ _ ∧ _ ∧ ZZ _ _ _ _ _).2.2.2.2.keep hb).all)
    (first | (go_at_call 21; refine (toB (may_cv p _)).mono ?_; rintro e' w' ⟨rfl, hb⟩) | (go_at_call 24; refine (toB (add_cv p q _)).mono ?_; rintro e' w' ⟨rfl, hb⟩) | (go_at_call 45; refine (radd_norm p q _).mono ?_; rintro e' w' ⟨rfl, hb⟩) | (go_at_call 25; refine (toB (mul_cv p q _)).mono ?_; rintro e' w' ⟨rfl, hb⟩) | (go_at_call 46; refine (rmul_norm p q _).mono ?_; rintro e' w' ⟨rfl, hb⟩) | (go_at_call 47; refine (toB (pow_cv p n _ hn63)).mono ?_; rintro e' w' ⟨rfl, hb⟩) | (go_at_call 22; (first | ((with_reducible refine (z_p (cadd p q) _).mono ?_)) | ((with_reducible refine (z_p (cmul p q) _).mono ?_))); rintro e' w' ⟨rfl, hb⟩))
  have s1 := (by with_reducible assumption : _ ∧ _ ∧ _ ∧ _ ∧ ZZ _ _ _ _ _).2.2.2.2
  have H := Lib.hid s1
  clear s1 x0 x1 x2 x3
  go_wp2_with fail
  go_ret
  exact ⟨rfl, H.out.2.2.2.2⟩
set_option maxRecDepth 100000 in
set_option maxHeartbeats 6400000 in
theorem gaussAll_high (a b c d m : Int) (n : Nat) (hm : 40 < m) (h63 : m ≤ 9223372036854775807) (hmn : m.tmod 40 = (n : Int)) (w : World) (L : Laid w) : Calls Tryd.prog 16 #[.int .i64 a, .int .i64 b, .int .i64 c, .int .i64 d, .int .i64 m] w fun e w' => e = .returned (.bool true) ∧ Below w.heap.size w w' := by
  obtain ⟨p, hp⟩ : ∃ p, Hid ((a, b) = p) := ⟨_, Lib.hid rfl⟩
  obtain ⟨q, hq⟩ : ∃ q, Hid ((c, d) = q) := ⟨_, Lib.hid rfl⟩
  have hn : n ≤ 40 := by have := Int.tmod_lt_of_pos m (b := 40) (by decide); omega
  have HL := Lib.hid L
  have HB : Hid (Below w.heap.size w w) := Lib.hid (Below.refl _ _)
  have hg := eqGuard_cv
  have hE := fun (p q : ZP) w => run_eq_cv 23 p q w
  have d1 : decide (40 < m) = true := decide_eq_true (by omega)
  have d2 : decide ((0 : Int) ≤ (n : Int)) = true := decide_eq_true (by omega)
  have hn63 : n ≤ 9223372036854775807 := by omega
  have e1 : eqZ (cadd p q) (cadd p q) = true := eqZ_of rfl
  have e2 : eqZ (cmul p q) (cmul p q) = true := eqZ_of rfl
  have e4 : eqZ (cpow p n) (cpow p n) = true := eqZ_of rfl
  clear L
  go_enter Tryd.func16, Tryd.ntmps16
  go_wp2_with (first | (go_at_call 19; refine (begun_any _ HL.out).mono ?_; rintro e' w1 ⟨rfl, hb⟩; have HB := Lib.hid (below_on HB.out hb); clear hb) | (go_at_call 23; (first | ((with_reducible refine (pair_p a b p hp _).mono ?_)) | ((with_reducible refine (pair_p c d q hq _).mono ?_))); rintro e' w1 ⟨rfl, hb⟩; have HB := Lib.hid (below_on HB.out hb); clear hb))
  have H : Hid (ZZ w w1.heap.size p q ((w1.alloc (.cells #[.int .i64 (norm p).1, .int .i64 (norm p).2] 29)).alloc (.cells #[.int .i64 (norm q).1, .int .i64 (norm q).2] 29))) := Lib.hid (ZZ.start HB.out _ _ _)
  generalize ((w1.alloc (.cells #[.int .i64 (norm p).1, .int .i64 (norm p).2] 29)).alloc (.cells #[.int .i64 (norm q).1, .int .i64 (norm q).2] 29)) = V at H ⊢
  generalize w1.heap.size = B at H ⊢
  obtain ⟨x0, x1, x2, x3, -⟩ := H.out
  go_region_held3 (fun V => V.cell? ⟨B, 0, none⟩ = some (.int .i64 (norm p).1) ∧ V.cell? ⟨B, 1, none⟩ = some (.int .i64 (norm p).2) ∧ V.cell? ⟨B + 1, 0, none⟩ = some (.int .i64 (norm q).1) ∧ V.cell? ⟨B + 1, 1, none⟩ = some (.int .i64 (norm q).2) ∧ ZZ w B p q V)
    (first | exact (H.out.keep (Below.refl _ _).drew).all | exact ((by with_reducible assumption : _ ∧ _ ∧ _ ∧ _ ∧ ZZ _ _ _ _ _).2.2.2.2.keep hb).all)
    ((go_at_call 22; (first | ((with_reducible refine (z_p p _).mono ?_)) | ((with_reducible refine (z_p q _).mono ?_))); rintro e' w' ⟨rfl, hb⟩))
  have s1 := (by with_reducible assumption : _ ∧ _ ∧ _ ∧ _ ∧ ZZ _ _ _ _ _).2.2.2.2
  have H := Lib.hid s1
  clear s1 x0 x1 x2 x3
  obtain ⟨x0, x1, x2, x3, -⟩ := H.out
  go_wp2_with (first | (go_at_call 44; refine (rpow p n _ hn63).mono ?_; rintro e' w1 ⟨rfl, hb⟩; have H := Lib.hid (H.out.keep hb); clear hb) | (go_at_call 22; refine (z_norm (cpow p n) _).mono ?_; rintro e' w1 ⟨rfl, hb⟩; have H := Lib.hid (H.out.keep hb); clear hb))
  clear x0 x1 x2 x3
  obtain ⟨x0, x1, x2, x3, -⟩ := H.out
  go_region_held3 (fun V => V.cell? ⟨B, 0, none⟩ = some (.int .i64 (norm p).1) ∧ V.cell? ⟨B, 1, none⟩ = some (.int .i64 (norm p).2) ∧ V.cell? ⟨B + 1, 0, none⟩ = some (.int .i64 (norm q).1) ∧ V.cell? ⟨B + 1, 1, none⟩ = some (.int .i64 (norm q).2) ∧ ZZ w B p q V)
    (first | exact (H.out.keep (Below.refl _ _).drew).all | exact ((by with_reducible assumption : _ ∧ _ ∧ _ ∧ _ ∧ ZZ _ _ _ _ _).2.2.2.2.keep hb).all)
    (first | (go_at_call 21; refine (toB (may_cv p _)).mono ?_; rintro e' w' ⟨rfl, hb⟩) | (go_at_call 24; refine (toB (add_cv p q _)).mono ?_; rintro e' w' ⟨rfl, hb⟩) | (go_at_call 45; refine (radd_norm p q _).mono ?_; rintro e' w' ⟨rfl, hb⟩) | (go_at_call 25; refine (toB (mul_cv p q _)).mono ?_; rintro e' w' ⟨rfl, hb⟩) | (go_at_call 46; refine (rmul_norm p q _).mono ?_; rintro e' w' ⟨rfl, hb⟩) | (go_at_call 47; refine (toB (pow_cv p n _ hn63)).mono ?_; rintro e' w' ⟨rfl, hb⟩) | (go_at_call 22; (first | ((with_reducible refine (z_p (cadd p q) _).mono ?_)) | ((with_reducible refine (z_p (cmul p q) _).mono ?_))); rintro e' w' ⟨rfl, hb⟩))
  have s1 := (by with_reducible assumption : _ ∧ _ ∧ _ ∧ _ ∧ ZZ _ _ _ _ _).2.2.2.2
  have H := Lib.hid s1
  clear s1 x0 x1 x2 x3
  go_wp2_with fail
  go_ret
  exact ⟨rfl, H.out.2.2.2.2⟩
theorem gaussAll_walk (a b c d n : Int) (h63 : n ≤ 9223372036854775807) (w : World) (L : Laid w) : Calls Tryd.prog 16 #[.int .i64 a, .int .i64 b, .int .i64 c, .int .i64 d, .int .i64 n] w fun e w' => e = .returned (.bool true) ∧ Below w.heap.size w w' := by
  by_cases h : n < 0
  · exact gaussAll_neg a b c d n h w L
  by_cases h4 : 40 < n
  · obtain ⟨k, hk⟩ := Int.eq_ofNat_of_zero_le (Int.tmod_nonneg 40 (show 0 ≤ n by omega))
    exact gaussAll_high a b c d n k h4 h63 hk w L
  · obtain ⟨k, rfl⟩ := Int.eq_ofNat_of_zero_le (show 0 ≤ n by omega)
    exact gaussAll_low a b c d k (by omega) w L
end Go.Proofs.YtchfphhelafbbaaDoor

/- Equality of numbers; numbers by their bits. -/
import Derived.Test.YtdpkmcbpeloljaaDoorGn
namespace Go.Proofs.YtdpkmcbpeloljaaDoor
open Go.RowKit

/-- Numbers by their bits. -/
theorem cv_bits {a b : Int} {x y : Nat} (h0 : fl (rs a) = x) (h1 : fl (rs b) = y) : Value.complex .f64 x y = cv (a, b) := by
  subst h0 h1; rfl
theorem k23 : Value.complex .f64 4611686018427387904 4613937818241073152 = cv (2, 3) := cv_bits (by decide) (by decide)
theorem k7255 : Value.complex .f64 4619567317775286272 4643176031446892544 = cv (7, 255) := cv_bits (by decide) (by decide)
theorem k655 : Value.complex .f64 4679236989180968960 4626885667169763328 = cv (65514, 22) := cv_bits (by decide) (by decide)
theorem k653 : Value.complex .f64 4679237401497829376 4613937818241073152 = cv (65517, 3) := cv_bits (by decide) (by decide)
/-- Are two numbers the same? (A plain name.) -/
def eqZ (p q : ZP) : Bool := decide (norm p = norm q)
theorem eqZ_of {p q : ZP} (h : norm p = norm q) : eqZ p q = true := decide_eq_true h
theorem eqZ_same {p q : ZP} (h : Same p q) : eqZ p q = true := eqZ_of (norm_same h)
theorem eqZ_iff {p q : ZP} : eqZ p q = true ↔ norm p = norm q := by unfold eqZ; simp
theorem run_eq_cv (t : TypeId) (p q : ZP) (w : World) : (binOp .eql t (cv p) (cv q)).run Tryd.prog w = .ok (.bool (eqZ p q)) w := by
  rw [cv_eq, cv_eq, run_eql_complex]
  have h1 := eq_fl (rs_abs p.1) (rs_abs q.1)
  have h2 := eq_fl (rs_abs p.2) (rs_abs q.2)
  unfold eqF at h1 h2
  rw [h1, h2]
  unfold eqZ norm
  congr 2
  rw [Bool.eq_iff_iff]
  simp
theorem eqGuard_cv (op : BinOp) (t : TypeId) (x y : Operand) (p : ZP) (v : Value) : eqGuard op t x y (cv p) v = pure () := eqGuard_at_complex _ _ _ _ _ _ _ _
end Go.Proofs.YtdpkmcbpeloljaaDoor

/- Plain laws on marks: bytes that differ. -/
import Derived.Test.YtdpkmcbpeloljaaDoorGf
namespace Go.Proofs.YtdpkmcbpeloljaaDoor
open Go.RowKit

/-- The inverse of the step. -/
def inv35 : ZP := (63594, 25052)
theorem inv35_law : Same (cmul (3, 5) inv35) (1, 0) := by unfold Same; decide +kernel
theorem same35 {p q : ZP} (h : Same (cmul p (3, 5)) (cmul q (3, 5))) : Same p q := by
  have e : ∀ p : ZP, Same (cmul (cmul p (3, 5)) inv35) p := fun p => by
    rw [cmul_assoc]
    have := (Same.refl p).mul inv35_law
    rwa [cmul_one] at this
  exact ((e p).symm.trans (h.mul (Same.refl _))).trans (e q)
theorem rs_cancel {a b c : Int} (h : rs (a + c) = rs (b + c)) : rs a = rs b := by
  have := rs_sub h (show rs c = rs c from rfl)
  rwa [Int.add_sub_cancel, Int.add_sub_cancel] at this
theorem same_cancel {p q r : ZP} (h : Same (cadd p r) (cadd q r)) : Same p q := ⟨rs_cancel h.1, rs_cancel h.2⟩
theorem con_inj {p q : ZP} (l : List UInt8) (h : Same (con p l) (con q l)) : Same p q := by
  induction l generalizing p q with
  | nil => exact h
  | cons b t ih => exact same35 (same_cancel (ih h))
theorem byte_bd (b : UInt8) : 0 ≤ (b.toNat : Int) ∧ (b.toNat : Int) < 256 := by have := b.toNat_lt; omega
theorem rs_near {a x y : Int} (h : rs (a + x) = rs (a + y)) (hx : 0 ≤ x ∧ x < 65521) (hy : 0 ≤ y ∧ y < 65521) : x = y := by
  have h2 : rs x = rs y := by
    rw [Int.add_comm a x, Int.add_comm a y] at h
    exact rs_cancel h
  rwa [rs_of hx.1 hx.2, rs_of hy.1 hy.2] at h2
theorem step_inj {p : ZP} {x y : UInt8} (h : Same (cstep p x) (cstep p y)) : x = y := by
  have h1 : rs ((cmul p (3, 5)).1 + ((x.toNat : Int) + 1)) = rs ((cmul p (3, 5)).1 + ((y.toNat : Int) + 1)) := h.1
  have bx := byte_bd x
  have bz := byte_bd y
  have := rs_near h1 (by omega) (by omega)
  exact UInt8.toNat.inj (by omega)
theorem swap_inj {p : ZP} {x y : UInt8} (h : Same (cstep (cstep p x) y) (cstep (cstep p y) x)) : x = y := by
  have h1 : rs (((cmul p (3, 5)).1 + ((x.toNat : Int) + 1)) * 5 + ((cmul p (3, 5)).2 + 0) * 3 + 0) = rs (((cmul p (3, 5)).1 + ((y.toNat : Int) + 1)) * 5 + ((cmul p (3, 5)).2 + 0) * 3 + 0) := h.2
  generalize (cmul p (3, 5)).1 = A at h1
  generalize (cmul p (3, 5)).2 = B at h1
  have bx := byte_bd x
  have bz := byte_bd y
  have h2 : rs ((A * 5 + B * 3) + (((x.toNat : Int) + 1) * 5)) = rs ((A * 5 + B * 3) + (((y.toNat : Int) + 1) * 5)) := by
    rw [show (A * 5 + B * 3) + (((x.toNat : Int) + 1) * 5) = (A + ((x.toNat : Int) + 1)) * 5 + (B + 0) * 3 + 0 by omega, show (A * 5 + B * 3) + (((y.toNat : Int) + 1) * 5) = (A + ((y.toNat : Int) + 1)) * 5 + (B + 0) * 3 + 0 by omega]
    exact h1
  have := rs_near h2 (by omega) (by omega)
  exact UInt8.toNat.inj (by omega)
/-- One byte another. -/
theorem cmark_set (l : List UInt8) (k : Nat) (hk : k < l.length) (y : UInt8) : Same (cmark (l.set k y)) (cmark l) ↔ y = l[k] := by
  constructor
  · intro h
    have e1 : l.set k y = l.take k ++ y :: l.drop (k + 1) := List.set_eq_take_append_cons_drop ▸ by rw [if_pos hk]
    have e2 : l = l.take k ++ l[k] :: l.drop (k + 1) := by rw [List.getElem_cons_drop, List.take_append_drop]
    unfold cmark at h
    rw [e1] at h
    rw [show con (0, 1) l = con (0, 1) (l.take k ++ l[k] :: l.drop (k + 1)) from congrArg _ e2, con_append, con_append] at h
    exact step_inj (con_inj _ h)
  · rintro rfl
    rw [List.set_getElem_self]; exact Same.refl _
/-- Two neighbours exchanged. -/
theorem cmark_swap (u t : List UInt8) (x y : UInt8) : Same (cmark (u ++ y :: x :: t)) (cmark (u ++ x :: y :: t)) ↔ x = y := by
  constructor
  · intro h
    unfold cmark at h
    rw [con_append, con_append] at h
    exact (swap_inj (con_inj t h)).symm
  · rintro rfl; exact Same.refl _
theorem cmark_zeros : ∀ n : Fin 41, ¬ Same (cmark (List.replicate n.val 0)) (cmark (List.replicate (n.val + 1) 0)) := by
  unfold Same; decide +kernel
end Go.Proofs.YtdpkmcbpeloljaaDoor

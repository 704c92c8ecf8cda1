/- Walks of math.Trunc, of gauss.whole, gauss.May: of any float64s. -/
import Derived.Test.YtdpkmcbpeloljaaDoorRows
import Derived.Test.YtdpkmcbpeloljaaDoorKit
import Derived.Test.YtdpkmcbpeloljaaDoorFl
import Derived.BigQuiet
import Derived.Deep.QuietTactic
import Derived.Deep.RegionHeld3
import Derived.Deep.DeepCutAuto
namespace Go.Proofs.YtdpkmcbpeloljaaDoor
open Go.RowKit

def isNaNB (x : Nat) : Bool := (Ieee.double.read x).isNaN
/-- What math.Trunc makes of a word. -/
def truncB (x : Nat) : Nat := Ieee.double.write ((Ieee.double.read x).integral .zero)
theorem toIntegral_num (x : Nat) (name : String) (way : Ieee.Toward) (h : isNaNB x = false) : Extern.MathFloor.toIntegral name way #[Value.float .f64 x] = pure (Value.float .f64 (FloatKind.f64.encode ((Ieee.double.read x).integral way))) := by
  unfold isNaNB at h
  have e : FloatKind.decode .f64 x = Ieee.double.read x := rfl
  cases hd : Ieee.double.read x with
  | nan s t => rw [hd] at h; simp [Ieee.Datum.isNaN] at h
  | infinity s =>
    rw [hd] at e
    delta Extern.MathFloor.toIntegral
    generalize FloatKind.decode = D at e ⊢
    conv => lhs; whnf
    rw [e]
  | number s m i =>
    rw [hd] at e
    delta Extern.MathFloor.toIntegral
    generalize FloatKind.decode = D at e ⊢
    conv => lhs; whnf
    rw [e]
theorem archTrunc_any (x : Nat) (w : World) (h : isNaNB x = false) : (callFunc 70 #[.float .f64 x]).run Tryd.prog w = .ok (.value (.float .f64 (truncB x))) w := by
  rw [run_callFunc_extern Tryd.func70 (by kernel_rfl) (by kernel_rfl) (by kernel_rfl) (e := Extern.MathFloor.toIntegral "math.archTrunc" .zero) (by kernel_rfl)]
  rw [toIntegral_num x _ _ h]
  rfl
set_option maxRecDepth 100000 in
set_option maxHeartbeats 400000 in
theorem Trunc_any (n : Nat) (w : World) (h : isNaNB n = false) :
    Calls Tryd.prog 60 #[.float .f64 n] w fun e w' => e = .returned (.float .f64 (truncB n)) ∧ w = w' := by
  have k : ∀ w, (callFunc 70 #[.float .f64 n]).run Tryd.prog w = .ok (.value (.float .f64 (truncB n))) w := fun w => archTrunc_any n w h
  clear h
  go_enter Tryd.func60, Tryd.ntmps60
  go_wp2_with fail
  go_ret
  exact ⟨rfl, rfl⟩
def geB (x y : Nat) : Bool := FloatKind.f64.format.order x y == some .gt || FloatKind.f64.format.order x y == some .eq
def leB (x y : Nat) : Bool := FloatKind.f64.format.order x y == some .lt || FloatKind.f64.format.order x y == some .eq
def eqF (x y : Nat) : Bool := FloatKind.f64.format.order x y == some .eq
theorem geB_nan {x y : Nat} (h : geB x y = true) : isNaNB x = false := by
  unfold geB at h
  unfold isNaNB
  cases hd : Ieee.double.read x with
  | nan s t =>
    have : FloatKind.f64.format.order x y = none := by
      show (Ieee.double.read x).order (Ieee.double.read y) = none
      rw [hd]; rfl
    rw [this] at h; simp at h
  | infinity s => rfl
  | number s m i => rfl
/-- What gauss.whole tells. -/
def wholeB (x a b : Nat) : Bool := geB x a && leB x b && eqF x (truncB x)
set_option maxRecDepth 100000 in
set_option maxHeartbeats 400000 in
theorem whole_any (x a b : Nat) (w : World) :
    Calls Tryd.prog 45 #[.float .f64 x, .float .f64 a, .float .f64 b] w fun e w' => e = .returned (.bool (wholeB x a b)) ∧ w = w' := by
  by_cases h1 : geB x a = true
  · have h1' : (FloatKind.f64.format.order x a == some .gt || FloatKind.f64.format.order x a == some .eq) = true := h1
    have HN := Lib.hid (geB_nan h1)
    by_cases h2 : leB x b = true
    · have h2' : (FloatKind.f64.format.order x b == some .lt || FloatKind.f64.format.order x b == some .eq) = true := h2
      have HT := Lib.hid (show wholeB x a b = (FloatKind.f64.format.order x (truncB x) == some .eq) by unfold wholeB; rw [h1, h2]; simp [eqF])
      clear h1 h2
      go_enter Tryd.func45, Tryd.ntmps45
      go_wp2_with (first | (go_at_call 60; refine (Trunc_any _ _ HN.out).mono ?_; rintro e' w' ⟨rfl, rfl⟩))
      go_ret
      rw [HT.out]
      exact ⟨rfl, rfl⟩
    · have h2' : leB x b = false := by simpa using h2
      have h2'' : (FloatKind.f64.format.order x b == some .lt || FloatKind.f64.format.order x b == some .eq) = false := h2'
      have HT := Lib.hid (show wholeB x a b = false by unfold wholeB; rw [h2']; simp)
      clear h1 h2 h2'
      go_enter Tryd.func45, Tryd.ntmps45
      go_wp2_with fail
      go_ret
      rw [HT.out]
      exact ⟨rfl, rfl⟩
  · have h1' : geB x a = false := by simpa using h1
    have h1'' : (FloatKind.f64.format.order x a == some .gt || FloatKind.f64.format.order x a == some .eq) = false := h1'
    have HT := Lib.hid (show wholeB x a b = false by unfold wholeB; rw [h1']; simp)
    clear h1 h1'
    go_enter Tryd.func45, Tryd.ntmps45
    go_wp2_with fail
    go_ret
    rw [HT.out]
    exact ⟨rfl, rfl⟩
end Go.Proofs.YtdpkmcbpeloljaaDoor

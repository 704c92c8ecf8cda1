/- Walks of gauss.On, Mark. -/
import Derived.Test.YtdpkmcbpeloljaaDoorGe
import Derived.Shelf.Strings.Builder1
namespace Go.Proofs.YtdpkmcbpeloljaaDoor
open Go.RowKit

def cstep (p : ZP) (b : UInt8) : ZP := cadd (cmul p (3, 5)) ((b.toNat : Int) + 1, 0)
/-- A mark taken on over bytes. -/
def con (p : ZP) (l : List UInt8) : ZP := l.foldl cstep p
theorem con_append (p : ZP) (l k : List UInt8) : con p (l ++ k) = con (con p l) k := by unfold con; rw [List.foldl_append]
theorem con_snoc (p : ZP) (l : List UInt8) (b : UInt8) : con p (l ++ [b]) = cstep (con p l) b := by rw [con_append]; rfl
theorem Same.step {p q : ZP} (h : Same p q) (b : UInt8) : Same (cstep p b) (cstep q b) := (h.mul (Same.refl _)).add (Same.refl _)
theorem Same.con {p q : ZP} (h : Same p q) (l : List UInt8) : Same (con p l) (con q l) := by
  induction l generalizing p q with
  | nil => exact h
  | cons b t ih => exact ih (h.step b)
theorem step_cv : Value.complex .f64 4613937818241073152 4617315517961601024 = cv (3, 5) := by
  have e0 : fl (rs 3) = 4613937818241073152 := by decide
  have e1 : fl (rs 5) = 4617315517961601024 := by decide
  show _ = Value.complex .f64 (fl (rs 3)) (fl (rs 5))
  rw [e0, e1]
theorem byte_cv (b : UInt8) : Value.complex .f64 (fl ((b.toNat : Int) + 1)) 0 = cv ((b.toNat : Int) + 1, 0) := by
  have hb := b.toNat_lt
  have e0 : fl (rs 0) = 0 := by decide
  have e1 : rs ((b.toNat : Int) + 1) = (b.toNat : Int) + 1 := rs_of (by omega) (by omega)
  show _ = Value.complex .f64 (fl (rs ((b.toNat : Int) + 1))) (fl (rs 0))
  rw [e0, e1]
theorem byte_sum (b : UInt8) (t : TypeId) (w : World) : (binOp .add t (.float .f64 (fl (b.toNat : Int))) (.float .f64 4607182418800017408)).run Tryd.prog w = .ok (.float .f64 (fl ((b.toNat : Int) + 1))) w := by
  have hb := b.toNat_lt
  refine run_float_arith w .add t .f64 _ _ _ ?_
  rw [← show fl 1 = 4607182418800017408 by decide]
  exact add_fl (by omega) (by decide) (by omega)
theorem cells_byte {l : List UInt8} {k : Nat} (h : k < l.length) : (Lib.byteCells l)[k]? = some (.int .u8 ((l[k]).toNat : Int)) := by
  unfold Lib.byteCells; simp [h]
theorem take_next {α : Type} (l : List α) (k : Nat) (h : k < l.length) : l.take (k + 1) = l.take k ++ [l[k]] := by
  rw [List.take_succ_eq_append_getElem h]
set_option maxRecDepth 100000 in
set_option maxHeartbeats 800000 in
theorem on_cv (p : ZP) (a : Option Addr) (c : Nat) (l : List UInt8) (w : World) (hl : l.length ≤ 9223372036854775807) (hz : RowAt w a (Lib.byteCells l)) :
    Calls Tryd.prog 29 #[cv p, .slice a l.length c] w fun e w' => e = .returned (cv (con p l)) ∧ w = w' := by
  have hS := Lib.hid step_cv
  have kf : ∀ n, floatOfInt .f64 n = fl n := fun _ => rfl
  go_enter Tryd.func29, Tryd.ntmps29
  go_wp2_with (go_at_call 27; refine (may_cv _ _).mono ?_; rintro e' w' ⟨rfl, rfl⟩)
  go_loop [0, 12] (fun z i => ∃ (k : Nat), k ≤ l.length ∧ i = .int .i64 k ∧ z = cv (con p (l.take k))) (fun _ i => l.length - (intOf i).toNat)
  case atStart => exact ⟨0, Nat.zero_le _, rfl, rfl⟩
  case round =>
    obtain ⟨k, hk, rfl, rfl⟩ := hrel
    by_cases hlt : k < l.length
    · rcases hz with h | ⟨b, off, rfl, -, hc⟩
      · unfold Lib.byteCells at h; simp at h; subst h; simp at hlt
      have hcell := hc k _ (cells_byte hlt)
      have hsum := byte_sum l[k]
      have HC := Lib.hid (byte_cv l[k])
      have HN := Lib.hid (take_next l k hlt)
      clear hc
      go_wp2_with (first | (go_at_call 19; rw [hS.out]; refine (mul_cv _ _ _).mono ?_; rintro e' w' ⟨rfl, rfl⟩) | (go_at_call 47; rw [HC.out]; refine (add_cv _ _ _).mono ?_; rintro e' w' ⟨rfl, rfl⟩))
      go_round
      case rel => exact ⟨k + 1, by omega, by go_num, by rw [HN.out, con_snoc]; rfl⟩
      case measure => simp [intOf]; omega
    · have hk' : k = l.length := by omega
      have HV := Lib.hid (show con p (l.take k) = con p l by rw [hk', List.take_length])
      clear hk'
      go_wp2_with fail
      go_ret
      rw [HV.out]
      exact ⟨rfl, rfl⟩
set_option maxRecDepth 100000 in
set_option maxHeartbeats 400000 in
theorem on_no (x y : Nat) (v : Value) (w : World) (h : mayN x y = false) :
    Calls Tryd.prog 29 #[.complex .f64 x y, v] w fun e w' => e = .returned (cv (0, 0)) ∧ w = w' := by
  have H := Lib.hid h
  clear h
  rw [← zero_cv]
  go_enter Tryd.func29, Tryd.ntmps29
  go_wp2_with (go_at_call 27; (first | (with_reducible refine (may_no _ _ _ H.out).mono ?_)); rintro e' w' ⟨rfl, rfl⟩)
  go_ret
  exact ⟨rfl, rfl⟩
theorem mark0_cv : Value.complex .f64 0 4607182418800017408 = cv (0, 1) := by
  have e0 : fl (rs 0) = 0 := by decide
  have e1 : fl (rs 1) = 4607182418800017408 := by decide
  show _ = Value.complex .f64 (fl (rs 0)) (fl (rs 1))
  rw [e0, e1]
/-- The mark of bytes. -/
def cmark (l : List UInt8) : ZP := con (0, 1) l
set_option maxRecDepth 100000 in
set_option maxHeartbeats 400000 in
theorem mark_cv (a : Option Addr) (c : Nat) (l : List UInt8) (w : World) (hl : l.length ≤ 9223372036854775807) (hz : RowAt w a (Lib.byteCells l)) :
    Calls Tryd.prog 20 #[.slice a l.length c] w fun e w' => e = .returned (cv (cmark l)) ∧ w = w' := by
  have H := Lib.hid mark0_cv
  go_enter Tryd.func20, Tryd.ntmps20
  go_wp2_with (go_at_call 29; rw [H.out]; refine (on_cv _ _ _ _ _ hl hz).mono ?_; rintro e' w' ⟨rfl, rfl⟩)
  go_ret
  exact ⟨rfl, rfl⟩
end Go.Proofs.YtdpkmcbpeloljaaDoor

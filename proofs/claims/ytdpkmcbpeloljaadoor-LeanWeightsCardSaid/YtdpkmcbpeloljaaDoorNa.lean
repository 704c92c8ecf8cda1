/- Walks of lean.Weight, the document's Weight. -/
import Derived.Test.YtdpkmcbpeloljaaDoorCb
import Derived.Test.YtdpkmcbpeloljaaDoorGi
namespace Go.Proofs.YtdpkmcbpeloljaaDoor
open Go.RowKit

/-- A node's weight for a key. -/
def wgt (n : Int) (l : List UInt8) : Int := if n < 1 ∨ 5 < n then -1 else rs (cmul (cmark l) (cpow (2, 1) (7 * n.toNat))).1
theorem wgt_out {n : Int} (l : List UInt8) (h : n < 1 ∨ 5 < n) : wgt n l = -1 := if_pos h
theorem wgt_in {n : Int} (l : List UInt8) (h : ¬ (n < 1 ∨ 5 < n)) : wgt n l = rs (cmul (cmark l) (cpow (2, 1) (7 * n.toNat))).1 := if_neg h
theorem wgt_bd (n : Int) (l : List UInt8) : -1 ≤ wgt n l ∧ wgt n l < 65521 := by
  unfold wgt
  split
  · decide
  · have := rs_bd (cmul (cmark l) (cpow (2, 1) (7 * n.toNat))).1; omega
theorem wgt_neg (n : Int) (l : List UInt8) : wgt n l = -1 ↔ n < 1 ∨ 5 < n := by
  unfold wgt
  split
  · rename_i h; simp [h]
  · rename_i h
    have := rs_bd (cmul (cmark l) (cpow (2, 1) (7 * n.toNat))).1
    constructor
    · intro e; omega
    · intro e; exact absurd e h
theorem turn_cv : Value.complex .f64 4611686018427387904 4607182418800017408 = cv (2, 1) := cv_bits (by decide) (by decide)
theorem pow_at (p : ZP) (n : Nat) (k : Int) (hk : k = (n : Int)) (w : World) (hn : n ≤ 9223372036854775807) :
    Calls Tryd.prog 21 #[cv p, .int .i64 k] w fun e w' => e = .returned (cv (cpow p n)) ∧ w = w' := by
  subst hk; exact pow_cv p n w hn
theorem rpow_at (p : ZP) (n : Nat) (k : Int) (hk : k = (n : Int)) (w : World) (hn : n ≤ 9223372036854775807) :
    Calls Tryd.prog 24 #[zv (norm p), .int .i64 k] w fun e w' => e = .returned (zv (norm (cpow p n))) ∧ Below w.heap.size w w' := by
  subst hk; exact rpow p n w hn
set_option maxRecDepth 100000 in
set_option maxHeartbeats 1600000 in
theorem weight_any (n : Int) (s : ByteArray) (w : World) (hs : s.size ≤ 9223372036854775807) :
    Calls Tryd.prog 14 #[.int .i64 n, .string s] w fun e w' => e = .returned (.int .i64 (wgt n s.data.toList)) ∧ Below w.heap.size w w' := by
  have HB : Hid (Below w.heap.size w w) := Lib.hid (Below.refl _ _)
  by_cases h1 : n < 1
  · have HW := Lib.hid (wgt_out s.data.toList (Or.inl h1))
    have d1 : decide (n < 1) = true := decide_eq_true h1
    go_enter Tryd.func14, Tryd.ntmps14
    go_wp2_with fail
    go_ret
    exact ⟨by rw [HW.out]; rfl, HB.out⟩
  have d1 : decide (n < 1) = false := decide_eq_false h1
  by_cases h2 : 5 < n
  · have HW := Lib.hid (wgt_out s.data.toList (Or.inr h2))
    have d2 : decide (5 < n) = true := decide_eq_true h2
    go_enter Tryd.func14, Tryd.ntmps14
    go_wp2_with fail
    go_ret
    exact ⟨by rw [HW.out]; rfl, HB.out⟩
  have d2 : decide (5 < n) = false := decide_eq_false h2
  have HW := Lib.hid (wgt_in s.data.toList (by omega : ¬ (n < 1 ∨ 5 < n)))
  have h7 : 7 * n = ((7 * n.toNat : Nat) : Int) := by omega
  have HP := Lib.hid (fun w => pow_at (2, 1) (7 * n.toNat) (7 * n) h7 w (by omega))
  obtain ⟨Q, hQ⟩ : ∃ Q, cpow (2, 1) (7 * n.toNat) = Q := ⟨_, rfl⟩
  rw [hQ] at HP HW
  have kc := run_bytes
  have HT := Lib.hid turn_cv
  obtain ⟨R, hR⟩ : ∃ R, rs (cmul (cmark s.data.toList) Q).1 = R := ⟨_, rfl⟩
  have hRb : 0 ≤ R ∧ R < 65521 := by rw [← hR]; exact rs_bd _
  have kv : ∀ w, (convert 38 3 (.float .f64 (fl R))).run Tryd.prog w = .ok (.int .i64 R) w := fun w => run_convert_float_int w _ _ _ _ _ _ (by rw [Tryd.underlying38]; rfl) Tryd.underlying3 (toIntVal_fl (by omega))
  have HV : Hid (∃ y, cv (cmul (cmark s.data.toList) Q) = .complex .f64 (fl R) y) := Lib.hid ⟨_, by rw [cv_eq, hR]⟩
  rw [hR] at HW
  clear hQ hR h7
  go_enter Tryd.func14, Tryd.ntmps14
  go_wp2_with (first | (go_at_call 20; refine (mark_bsl _ _ hs).mono ?_; rintro e' w1 ⟨rfl, hb⟩; have HB := Lib.hid (below_on HB.out hb); clear hb) | (go_at_call 21; rw [HT.out]; refine (HP.out _).mono ?_; rintro e' w' ⟨rfl, rfl⟩))
  obtain ⟨y, hy⟩ := HV.out
  refine (mul_cv _ _ _).mono ?_
  rw [hy]
  rintro e' w' ⟨rfl, rfl⟩
  clear hy HV
  go_wp2_with fail
  go_ret
  exact ⟨by rw [HW.out]; rfl, HB.out⟩
set_option maxRecDepth 100000 in
set_option maxHeartbeats 1600000 in
theorem rweight_any (n : Int) (s : ByteArray) (w : World) (hs : s.size ≤ 9223372036854775807) :
    Calls Tryd.prog 15 #[.int .i64 n, .string s] w fun e w' => e = .returned (.int .i64 (wgt n s.data.toList)) ∧ Below w.heap.size w w' := by
  have HB : Hid (Below w.heap.size w w) := Lib.hid (Below.refl _ _)
  by_cases h1 : n < 1
  · have HW := Lib.hid (wgt_out s.data.toList (Or.inl h1))
    have d1 : decide (n < 1) = true := decide_eq_true h1
    go_enter Tryd.func15, Tryd.ntmps15
    go_wp2_with fail
    go_ret
    exact ⟨by rw [HW.out]; rfl, HB.out⟩
  have d1 : decide (n < 1) = false := decide_eq_false h1
  by_cases h2 : 5 < n
  · have HW := Lib.hid (wgt_out s.data.toList (Or.inr h2))
    have d2 : decide (5 < n) = true := decide_eq_true h2
    go_enter Tryd.func15, Tryd.ntmps15
    go_wp2_with fail
    go_ret
    exact ⟨by rw [HW.out]; rfl, HB.out⟩
  have d2 : decide (5 < n) = false := decide_eq_false h2
  have HW := Lib.hid (wgt_in s.data.toList (by omega : ¬ (n < 1 ∨ 5 < n)))
  have h7 : 7 * n = ((7 * n.toNat : Nat) : Int) := by omega
  have HP : Hid (∀ w, Calls Tryd.prog 24 #[.agg #[.int .i64 2, .int .i64 1], .int .i64 (7 * n)] w fun e w' => e = .returned (zv (norm (cpow (2, 1) (7 * n.toNat)))) ∧ Below w.heap.size w w') := Lib.hid (fun w => rpow_at (2, 1) (7 * n.toNat) (7 * n) h7 w (by omega))
  obtain ⟨Q, hQ⟩ : ∃ Q, cpow (2, 1) (7 * n.toNat) = Q := ⟨_, rfl⟩
  rw [hQ] at HP HW
  obtain ⟨x, y, hxy⟩ : ∃ x y, norm (cmul (cmark s.data.toList) Q) = (x, y) := ⟨_, _, rfl⟩
  have HM : Hid (∀ w, Calls Tryd.prog 22 #[zv (norm (cmark s.data.toList)), zv (norm Q)] w fun e w' => e = .returned (.agg #[.int .i64 x, .int .i64 y]) ∧ Below w.heap.size w w') := Lib.hid (fun w => (rmul_norm (cmark s.data.toList) Q w).mono (by rintro e w' ⟨rfl, hb⟩; exact ⟨by rw [hxy], hb⟩))
  have HF : Hid (wgt n s.data.toList = x) := Lib.hid (by rw [HW.out, show rs (cmul (cmark s.data.toList) Q).1 = (norm (cmul (cmark s.data.toList) Q)).1 from rfl, hxy])
  clear hxy HW
  have hfd : ∀ w : World, (Instr.field 45 (.agg #[.int .i64 x, .int .i64 y]) 0).run Tryd.prog w = .ok (.int .i64 x) w := fun _ => by kernel_rfl
  clear hQ h7
  go_enter Tryd.func15, Tryd.ntmps15
  go_wp2_with (first | (go_at_call 23; refine (rmark _ _ hs).mono ?_; rintro e' w1 ⟨rfl, hb⟩; have HB := Lib.hid (below_on HB.out hb); clear hb) | (go_at_call 24; refine (HP.out _).mono ?_; rintro e' w1 ⟨rfl, hb⟩; have HB := Lib.hid (below_on HB.out hb); clear hb) | (go_at_call 22; refine (HM.out _).mono ?_; rintro e' w1 ⟨rfl, hb⟩; have HB := Lib.hid (below_on HB.out hb); clear hb))
  go_ret
  exact ⟨by rw [HF.out]; rfl, HB.out⟩
end Go.Proofs.YtdpkmcbpeloljaaDoor

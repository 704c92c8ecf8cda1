/- Walks of gauss.Add, Mul, Pow on residues. -/
import Derived.Test.YtdpkmcbpeloljaaDoorGd
namespace Go.Proofs.YtdpkmcbpeloljaaDoor
open Go.RowKit

/-! the ring: pairs of whole numbers, alike modulo 65521 -/
abbrev ZP := Int × Int
def Same (p q : ZP) : Prop := rs p.1 = rs q.1 ∧ rs p.2 = rs q.2
def cadd (p q : ZP) : ZP := (p.1 + q.1, p.2 + q.2)
def cmul (p q : ZP) : ZP := (p.1 * q.1 - p.2 * q.2, p.1 * q.2 + p.2 * q.1)
def cpow (p : ZP) : Nat → ZP
  | 0 => (1, 0)
  | n + 1 => cmul (cpow p n) p
theorem Same.refl (p : ZP) : Same p p := ⟨rfl, rfl⟩
theorem Same.symm {p q : ZP} (h : Same p q) : Same q p := ⟨h.1.symm, h.2.symm⟩
theorem Same.trans {p q r : ZP} (h : Same p q) (g : Same q r) : Same p r := ⟨h.1.trans g.1, h.2.trans g.2⟩
theorem rs_add {a b c d : Int} (h : rs a = rs b) (g : rs c = rs d) : rs (a + c) = rs (b + d) := by
  unfold rs at *; rw [Int.add_emod, h, g, ← Int.add_emod]
theorem rs_sub {a b c d : Int} (h : rs a = rs b) (g : rs c = rs d) : rs (a - c) = rs (b - d) := by
  unfold rs at *; rw [Int.sub_emod, h, g, ← Int.sub_emod]
theorem rs_mul {a b c d : Int} (h : rs a = rs b) (g : rs c = rs d) : rs (a * c) = rs (b * d) := by
  unfold rs at *; rw [Int.mul_emod, h, g, ← Int.mul_emod]
theorem Same.add {p q r s : ZP} (h : Same p q) (g : Same r s) : Same (cadd p r) (cadd q s) := ⟨rs_add h.1 g.1, rs_add h.2 g.2⟩
theorem Same.mul {p q r s : ZP} (h : Same p q) (g : Same r s) : Same (cmul p r) (cmul q s) :=
  ⟨rs_sub (rs_mul h.1 g.1) (rs_mul h.2 g.2), rs_add (rs_mul h.1 g.2) (rs_mul h.2 g.1)⟩
theorem cmul_assoc (p q r : ZP) : cmul (cmul p q) r = cmul p (cmul q r) := by
  unfold cmul; apply Prod.ext <;> grind
theorem cmul_comm (p q : ZP) : cmul p q = cmul q p := by
  unfold cmul; apply Prod.ext <;> grind
theorem cmul_add (p q r : ZP) : cmul p (cadd q r) = cadd (cmul p q) (cmul p r) := by
  unfold cmul cadd; apply Prod.ext <;> grind
theorem cadd_comm (p q : ZP) : cadd p q = cadd q p := by
  unfold cadd; apply Prod.ext <;> grind
theorem cmul_one (p : ZP) : cmul p (1, 0) = p := by
  unfold cmul; apply Prod.ext <;> grind
theorem one_cmul (p : ZP) : cmul (1, 0) p = p := by
  unfold cmul; apply Prod.ext <;> grind
theorem cpow_add (p : ZP) (m n : Nat) : cpow p (m + n) = cmul (cpow p m) (cpow p n) := by
  induction n with
  | zero => rw [Nat.add_zero]; exact (cmul_one _).symm
  | succ n ih => rw [← Nat.add_assoc]; show cmul (cpow p (m + n)) p = _; rw [ih, cmul_assoc]; rfl
theorem Same.pow {p q : ZP} (h : Same p q) (n : Nat) : Same (cpow p n) (cpow q n) := by
  induction n with
  | zero => exact Same.refl _
  | succ n ih => exact ih.mul h
theorem cpow_sq (p : ZP) (n : Nat) : cpow (cmul p p) n = cpow p (2 * n) := by
  induction n with
  | zero => rfl
  | succ n ih =>
    show cmul (cpow (cmul p p) n) (cmul p p) = _
    rw [ih, show 2 * (n + 1) = 2 * n + 1 + 1 from by omega]
    show _ = cmul (cmul (cpow p (2 * n)) p) p
    rw [cmul_assoc]
/-- A residue as a complex128. -/
def cv (p : ZP) : Value := cr p.1 p.2
theorem cv_same {p q : ZP} (h : Same p q) : cv p = cv q := cr_eq h.1 h.2
theorem cv_eq (p : ZP) : cv p = .complex .f64 (fl (rs p.1)) (fl (rs p.2)) := rfl

theorem sum_fl {a b c d : Int} (ha : a.natAbs < 2 ^ 53) (hb : b.natAbs < 2 ^ 53) (hc : c.natAbs < 2 ^ 53) (hd : d.natAbs < 2 ^ 53) (h1 : (a + c).natAbs < 2 ^ 53) (h2 : (b + d).natAbs < 2 ^ 53) :
    cSumBits .add .f64 (fl a) (fl b) (fl c) (fl d) = some (fl (a + c), fl (b + d)) := by
  unfold cSumBits floatBits
  have e1 : FloatKind.f64.format.add (fl a) (fl c) = some (fl (a + c)) := add_fl ha hc h1
  have e2 : FloatKind.f64.format.add (fl b) (fl d) = some (fl (b + d)) := add_fl hb hd h2
  simp only [e1, e2]; rfl
theorem prod_fl {a b c d : Int} (ha : 0 ≤ a ∧ a < 65521) (hb : 0 ≤ b ∧ b < 65521) (hc : 0 ≤ c ∧ c < 65521) (hd : 0 ≤ d ∧ d < 65521) :
    cMulBits (fl a) (fl b) (fl c) (fl d) = some (fl (a * c - b * d), fl (a * d + b * c)) ∧ (-1125899906842624 ≤ a * c - b * d ∧ a * c - b * d ≤ 1125899906842624) ∧ (-1125899906842624 ≤ a * d + b * c ∧ a * d + b * c ≤ 1125899906842624) := by
  have bd : ∀ x y : Int, (0 ≤ x ∧ x < 65521) → (0 ≤ y ∧ y < 65521) → 0 ≤ x * y ∧ x * y ≤ 4293001441 := fun x y hx hy =>
    ⟨Int.mul_nonneg hx.1 hy.1, by
      have := Int.mul_le_mul (show x ≤ 65521 by omega) (show y ≤ 65521 by omega) hy.1 (by decide)
      omega⟩
  have h1 := bd a c ha hc
  have h2 := bd b d hb hd
  have h3 := bd a d ha hd
  have h4 := bd b c hb hc
  refine ⟨?_, by omega, by omega⟩
  have e1 : FloatKind.f64.format.mul (fl a) (fl c) = some (fl (a * c)) := mul_fl ha.1 hc.1 (by omega) (by omega) (by omega)
  have e2 : FloatKind.f64.format.mul (fl b) (fl d) = some (fl (b * d)) := mul_fl hb.1 hd.1 (by omega) (by omega) (by omega)
  have e3 : FloatKind.f64.format.mul (fl a) (fl d) = some (fl (a * d)) := mul_fl ha.1 hd.1 (by omega) (by omega) (by omega)
  have e4 : FloatKind.f64.format.mul (fl b) (fl c) = some (fl (b * c)) := mul_fl hb.1 hc.1 (by omega) (by omega) (by omega)
  have e5 : FloatKind.f64.format.sub (fl (a * c)) (fl (b * d)) = some (fl (a * c - b * d)) := sub_fl (by omega) (by omega) (by omega)
  have e6 : FloatKind.f64.format.add (fl (a * d)) (fl (b * c)) = some (fl (a * d + b * c)) := add_fl (by omega) (by omega) (by omega)
  unfold cMulBits floatBits
  simp only [e1, e2, e3, e4, Option.bind_some, e5, e6]
theorem same_rs (p : ZP) : Same (rs p.1, rs p.2) p := ⟨rs_rs _, rs_rs _⟩
theorem may_cv (p : ZP) (w : World) : Calls Tryd.prog 27 #[cv p] w fun e w' => e = .returned (.bool true) ∧ w = w' := may_cr p.1 p.2 w
theorem zero_cv : Value.complex .f64 0 0 = cv (0, 0) := by
  have e : fl (rs 0) = 0 := by decide
  show _ = Value.complex .f64 (fl (rs 0)) (fl (rs 0))
  rw [e]
set_option maxRecDepth 100000 in
set_option maxHeartbeats 400000 in
theorem add_cv (p q : ZP) (w : World) :
    Calls Tryd.prog 47 #[cv p, cv q] w fun e w' => e = .returned (cv (cadd p q)) ∧ w = w' := by
  have b1 := rs_bd p.1
  have b2 := rs_bd p.2
  have b3 := rs_bd q.1
  have b4 := rs_bd q.2
  have ks : ∀ w, (binOp .add 39 (cv p) (cv q)).run Tryd.prog w = .ok (cz (rs p.1 + rs q.1) (rs p.2 + rs q.2)) w := fun w => run_complex_sum w .add (Or.inl rfl) _ _ _ _ _ _ _ _ (sum_fl (by omega) (by omega) (by omega) (by omega) (by omega) (by omega))
  have HE := Lib.hid (cv_same (((same_rs p).add (same_rs q))))
  go_enter Tryd.func47, Tryd.ntmps47
  go_wp2_with (first | (go_at_call 27; refine (may_cv _ _).mono ?_; rintro e' w' ⟨rfl, rfl⟩) | (go_at_call 28; refine (mod_yes _ _ _ (by omega) (by omega)).mono ?_; rintro e' w' ⟨rfl, rfl⟩))
  go_ret
  exact ⟨by rw [← HE.out]; rfl, rfl⟩
set_option maxRecDepth 100000 in
set_option maxHeartbeats 400000 in
theorem mul_cv (p q : ZP) (w : World) :
    Calls Tryd.prog 19 #[cv p, cv q] w fun e w' => e = .returned (cv (cmul p q)) ∧ w = w' := by
  obtain ⟨hp, h1, h2⟩ := prod_fl (rs_bd p.1) (rs_bd p.2) (rs_bd q.1) (rs_bd q.2)
  have ks : ∀ w, (binOp .mul 39 (cv p) (cv q)).run Tryd.prog w = .ok (cz (rs p.1 * rs q.1 - rs p.2 * rs q.2) (rs p.1 * rs q.2 + rs p.2 * rs q.1)) w := fun w => run_complex_mul w _ _ _ _ _ _ _ hp
  have HE := Lib.hid (cv_same (((same_rs p).mul (same_rs q))))
  clear hp
  have H1 := Lib.hid h1
  have H2 := Lib.hid h2
  clear h1 h2
  go_enter Tryd.func19, Tryd.ntmps19
  go_wp2_with (first | (go_at_call 27; refine (may_cv _ _).mono ?_; rintro e' w' ⟨rfl, rfl⟩) | (go_at_call 28; refine (mod_yes _ _ _ H1.out H2.out).mono ?_; rintro e' w' ⟨rfl, rfl⟩))
  go_ret
  exact ⟨by rw [← HE.out]; rfl, rfl⟩
/-! what may not be -/
def mayN (x y : Nat) : Bool := wholeB x 0 4679237813814689792 && wholeB y 0 4679237813814689792
set_option maxRecDepth 100000 in
set_option maxHeartbeats 400000 in
theorem may_no (x y : Nat) (w : World) (h : mayN x y = false) : Calls Tryd.prog 27 #[.complex .f64 x y] w fun e w' => e = .returned (.bool false) ∧ w = w' :=
  (may_bits x y w).mono fun _ _ ⟨h1, h2⟩ => ⟨by rw [h1]; unfold mayN at h; rw [h], h2⟩
set_option maxRecDepth 100000 in
set_option maxHeartbeats 400000 in
theorem add_no (p : ZP) (x y : Nat) (w : World) (h : mayN x y = false) :
    Calls Tryd.prog 47 #[cv p, .complex .f64 x y] w fun e w' => e = .returned (cv (0, 0)) ∧ w = w' := by
  have H := Lib.hid h
  clear h
  rw [← zero_cv]
  go_enter Tryd.func47, Tryd.ntmps47
  go_wp2_with (go_at_call 27; (first | (with_reducible refine (may_cv _ _).mono ?_) | (with_reducible refine (may_no _ _ _ H.out).mono ?_)); rintro e' w' ⟨rfl, rfl⟩)
  go_ret
  exact ⟨rfl, rfl⟩
set_option maxRecDepth 100000 in
set_option maxHeartbeats 400000 in
theorem mul_no (p : ZP) (x y : Nat) (w : World) (h : mayN x y = false) :
    Calls Tryd.prog 19 #[.complex .f64 x y, cv p] w fun e w' => e = .returned (cv (0, 0)) ∧ w = w' := by
  have H := Lib.hid h
  clear h
  rw [← zero_cv]
  go_enter Tryd.func19, Tryd.ntmps19
  go_wp2_with (go_at_call 27; (first | (with_reducible refine (may_cv _ _).mono ?_) | (with_reducible refine (may_no _ _ _ H.out).mono ?_)); rintro e' w' ⟨rfl, rfl⟩)
  go_ret
  exact ⟨rfl, rfl⟩
set_option maxRecDepth 100000 in
set_option maxHeartbeats 400000 in
theorem pow_no (x y : Nat) (n : Int) (w : World) (h : mayN x y = false) :
    Calls Tryd.prog 21 #[.complex .f64 x y, .int .i64 n] w fun e w' => e = .returned (cv (0, 0)) ∧ w = w' := by
  have H := Lib.hid h
  clear h
  rw [← zero_cv]
  go_enter Tryd.func21, Tryd.ntmps21
  go_wp2_with (go_at_call 27; (first | (with_reducible refine (may_no _ _ _ H.out).mono ?_)); rintro e' w' ⟨rfl, rfl⟩)
  go_ret
  exact ⟨rfl, rfl⟩
set_option maxRecDepth 100000 in
set_option maxHeartbeats 400000 in
theorem pow_neg (p : ZP) (n : Int) (w : World) (h : n < 0) :
    Calls Tryd.prog 21 #[cv p, .int .i64 n] w fun e w' => e = .returned (cv (0, 0)) ∧ w = w' := by
  rw [← zero_cv]
  go_enter Tryd.func21, Tryd.ntmps21
  go_wp2_with (go_at_call 27; (first | (with_reducible refine (may_cv _ _).mono ?_)); rintro e' w' ⟨rfl, rfl⟩)
  go_ret
  exact ⟨rfl, rfl⟩
theorem i64_and1 (n : Int) : bits .and .i64 n 1 = n % 2 := by
  have h1 : (BitVec.ofInt 64 n &&& BitVec.ofInt 64 1).toNat = (BitVec.ofInt 64 n).toNat % 2 ^ 1 := by
    rw [BitVec.toNat_and, show (BitVec.ofInt 64 1).toNat = 2 ^ 1 - 1 by decide, Nat.and_two_pow_sub_one_eq_mod]
  have h2 := BitVec.toNat_ofInt (n := 64) (i := n)
  show IntKind.i64.wrap ((BitVec.ofInt 64 n &&& BitVec.ofInt 64 1).toNat : Nat) = _
  rw [h1, h2, IntKind.wrap_i64]
  omega
theorem one_cv : Value.complex .f64 4607182418800017408 0 = cv (1, 0) := by
  have e0 : fl (rs 0) = 0 := by decide
  have e1 : fl (rs 1) = 4607182418800017408 := by decide
  show _ = Value.complex .f64 (fl (rs 1)) (fl (rs 0))
  rw [e0, e1]
set_option maxRecDepth 100000 in
set_option maxHeartbeats 800000 in
theorem pow_cv (p : ZP) (n : Nat) (w : World) (hn : n ≤ 9223372036854775807) :
    Calls Tryd.prog 21 #[cv p, .int .i64 n] w fun e w' => e = .returned (cv (cpow p n)) ∧ w = w' := by
  have h1 := Lib.hid one_cv
  go_enter Tryd.func21, Tryd.ntmps21
  go_wp2_with (go_at_call 27; (first | (with_reducible refine (may_cv _ _).mono ?_)); rintro e' w' ⟨rfl, rfl⟩)
  rw [h1.out]
  go_loop [0, 1, 5] (fun a i o => ∃ (k : Nat) (s u : ZP), k ≤ n ∧ i = .int .i64 k ∧ a = cv s ∧ o = cv u ∧ Same (cmul u (cpow s k)) (cpow p n)) (fun _ i _ => (intOf i).toNat)
  case atStart => exact ⟨n, p, (1, 0), Nat.le_refl _, rfl, rfl, rfl, by rw [one_cmul]; exact Same.refl _⟩
  case round =>
    obtain ⟨k, s, u, hk, rfl, rfl, rfl, hS⟩ := hrel
    have HS := Lib.hid hS
    clear hS
    by_cases h0 : k = 0
    · subst h0
      have HV := Lib.hid (show cv u = cv (cpow p n) by have := cv_same HS.out; rw [show cpow s 0 = (1, 0) from rfl, cmul_one] at this; exact this)
      go_wp2_with fail
      go_ret
      exact ⟨congrArg Ending.returned (HV.out), rfl⟩
    · have k0 : (0 : Int) < (k : Int) := by omega
      have kd : ((k / 2 : Nat) : Int) = (k : Int) / 2 := by omega
      by_cases hodd : k % 2 = 1
      · have hb : bits .and .i64 (k : Int) 1 = 1 := by rw [i64_and1]; omega
        have HN := Lib.hid (show Same (cmul (cmul u s) (cpow (cmul s s) (k / 2))) (cpow p n) by
          have e : cmul (cmul u s) (cpow (cmul s s) (k / 2)) = cmul u (cpow s k) := by
            rw [cpow_sq, cmul_assoc]
            congr 1
            have : k = 1 + 2 * (k / 2) := by omega
            conv => rhs; rw [this]
            rw [cpow_add]
            congr 1
            exact (one_cmul s).symm
          rw [e]; exact HS.out)
        clear hodd h0
        go_wp2_with (go_at_call 19; refine (mul_cv _ _ _).mono ?_; rintro e' w' ⟨rfl, rfl⟩)
        go_round
        case rel => exact ⟨k / 2, _, _, by omega, by rw [kd], rfl, rfl, HN.out⟩
        case measure => simp [intOf]; omega
      · have hb : bits .and .i64 (k : Int) 1 = 0 := by rw [i64_and1]; omega
        have HN := Lib.hid (show Same (cmul u (cpow (cmul s s) (k / 2))) (cpow p n) by
          rw [cpow_sq, show 2 * (k / 2) = k from by omega]; exact HS.out)
        clear hodd h0
        go_wp2_with (go_at_call 19; refine (mul_cv _ _ _).mono ?_; rintro e' w' ⟨rfl, rfl⟩)
        go_round
        case rel => exact ⟨k / 2, _, _, by omega, by rw [kd], rfl, rfl, HN.out⟩
        case measure => simp [intOf]; omega
end Go.Proofs.YtdpkmcbpeloljaaDoor

/- Walk of gauss.Read. Walk of the document's Read. Equality of numbers; numbers by their bits. -/
import Derived.Test.YthbbfdlacclccaaDoorM4
namespace Go.Proofs.YthbbfdlacclccaaDoor
open Go.RowKit

theorem Box2.lo {B : Nat} {u v : Value} {W : World} (h : Box2 B u v W) (u' : Value) : Box2 B u' v (W.setCell ⟨B, 0, none⟩ u') := by
  obtain ⟨h0, h1, f0, f1⟩ := h
  exact ⟨World.cell?_setCell_same _ _ _ h0, by rw [World.cell?_setCell_other _ _ _ _ (by simp)]; exact h1, by simp [f0], by simp [f1]⟩
theorem Box2.hi {B : Nat} {u v : Value} {W : World} (h : Box2 B u v W) (v' : Value) : Box2 B u v' (W.setCell ⟨B, 1, none⟩ v') := by
  obtain ⟨h0, h1, f0, f1⟩ := h
  exact ⟨by rw [World.cell?_setCell_other _ _ _ _ (by simp)]; exact h0, World.cell?_setCell_same _ _ _ h1, by simp [f0], by simp [f1]⟩
set_option maxRecDepth 100000 in
set_option maxHeartbeats 6400000 in
theorem read_any (s : ByteArray) (w : World) (hs : s.size ≤ 9223372036854775807) :
    Calls Tryd.prog 15 #[.string s] w fun e w' => e = .returned (rdV (readZ s.data.toList)) ∧ Below w.heap.size w w' := by
  have HZ := Lib.hid zero_cv
  by_cases h8 : s.size = 8
  · have h8' : ((s.size : Int) != 8) = false := by simp; omega
    have hl8 : s.data.toList.length = 8 := by simpa using h8
    have H8 := Lib.hid h8
    have HL8 := Lib.hid hl8
    have hx : Box2 w.heap.size (.int .i64 ((0 : Nat) : Int)) (.int .i64 ((0 : Nat) : Int)) (w.alloc (.cells #[.int .i64 0, .int .i64 0] 56)) := by
      refine ⟨?_, ?_, ?_, ?_⟩ <;> simp [go_sem]
    have HX := Lib.hid hx
    clear h8 hl8 hx
    go_enter Tryd.func15, Tryd.ntmps15
    go_wp2_with fail
    have HL : Hid (Below w.heap.size w (w.alloc (.cells #[.int .i64 0, .int .i64 0] 56))) := Lib.hid (below_alloc (Below.refl _ _) _)
    generalize (w.alloc (.cells #[.int .i64 0, .int .i64 0] 56)) = V at HX HL ⊢
    go_loopw [13] (fun i wr => ∃ k a b : Nat, k ≤ 8 ∧ i = .int .i64 k ∧ RdI s.data.toList k a b ∧ Box2 w.heap.size (.int .i64 (a : Int)) (.int .i64 (b : Int)) wr ∧ Below w.heap.size w wr) (fun i _ => 8 - (intOf i).toNat)
    case atStart => exact ⟨0, 0, 0, by omega, rfl, rdI_zero _, HX.out, HL.out⟩
    case round =>
      obtain ⟨k, a, b, hk, rfl, hI, hB, hL⟩ := hrel
      have HI := Lib.hid hI
      have HB := Lib.hid hB
      have ha : a < 65536 := hI.2.2.2.1
      have hb : b < 65536 := hI.2.2.2.2
      obtain ⟨x0, x1, f0, f1⟩ := hB
      have HL1 := Lib.hid hL
      clear HX HL hI hL
      by_cases hlt : k < 8
      · have hks : k < s.size := by have := H8.out; omega
        have hkl : k < s.data.toList.length := by have := HL8.out; omega
        have q0 : (k : Int) < (s.size : Int) := by omega
        obtain ⟨n, hn⟩ : ∃ n, (s[k]).toNat = n := ⟨_, rfl⟩
        have hn2 : (s.data.toList[k]).toNat = n := hn
        have HN2 := Lib.hid hn2
        have hn256 : n < 256 := by rw [← hn]; exact (s[k]).toNat_lt
        have q2 : IntKind.i64.wrap (n : Int) = (n : Int) := IntWalk.i64_in _ (by omega)
        clear hn2
        by_cases hd : 48 ≤ n ∧ n ≤ 57
        · obtain ⟨d1, d2⟩ := hd
          have HV := Lib.hid (show hval s.data.toList[k] = n - 48 by unfold hval; rw [HN2.out, if_pos (by omega)])
          have HO := Lib.hid (show okc s.data.toList[k] = true by unfold okc; rw [HN2.out, decide_eq_true ⟨d1, d2⟩]; rfl)
          have e1 : decide ((48 : Int) ≤ (n : Int)) = true := decide_eq_true (by omega)
          have e2 : decide ((n : Int) ≤ 57) = true := decide_eq_true (by omega)
          by_cases hk4 : k < 4
          · have k4 : (k : Int) / 4 = 0 := by omega
            have HT := Lib.hid (show (a : Int) * 16 + ((n : Int) - 48) = ((a * 16 + (n - 48) : Nat) : Int) by omega)
            go_wp2_with fail
            go_roundw
            case rel => exact ⟨k + 1, _, b, by omega, by go_num, rdI_lo HI.out hkl hk4 HO.out, by rw [HV.out, ← HT.out]; exact HB.out.lo _, HL1.out.setCell (by exact Nat.le_refl _) _⟩
            case measure => simp [intOf]; omega
          · have k4 : (k : Int) / 4 = 1 := by omega
            have HT := Lib.hid (show (b : Int) * 16 + ((n : Int) - 48) = ((b * 16 + (n - 48) : Nat) : Int) by omega)
            go_wp2_with fail
            go_roundw
            case rel => exact ⟨k + 1, a, _, by omega, by go_num, rdI_hi HI.out hkl (by omega) hlt HO.out, by rw [HV.out, ← HT.out]; exact HB.out.hi _, HL1.out.setCell (by exact Nat.le_refl _) _⟩
            case measure => simp [intOf]; omega
        by_cases hd2 : 97 ≤ n ∧ n ≤ 102
        · obtain ⟨d1, d2⟩ := hd2
          have HV := Lib.hid (show hval s.data.toList[k] = n - 87 by unfold hval; rw [HN2.out, if_neg (by omega)])
          have HO := Lib.hid (show okc s.data.toList[k] = true by unfold okc; rw [HN2.out, decide_eq_true (And.intro d1 d2)]; simp)
          have e1 : decide ((48 : Int) ≤ (n : Int)) = true := decide_eq_true (by omega)
          have e2 : decide ((n : Int) ≤ 57) = false := decide_eq_false (by omega)
          have e3 : decide ((97 : Int) ≤ (n : Int)) = true := decide_eq_true (by omega)
          have e4 : decide ((n : Int) ≤ 102) = true := decide_eq_true (by omega)
          clear hd
          by_cases hk4 : k < 4
          · have k4 : (k : Int) / 4 = 0 := by omega
            have HT := Lib.hid (show (a : Int) * 16 + ((n : Int) - 87) = ((a * 16 + (n - 87) : Nat) : Int) by omega)
            go_wp2_with fail
            go_roundw
            case rel => exact ⟨k + 1, _, b, by omega, by go_num, rdI_lo HI.out hkl hk4 HO.out, by rw [HV.out, ← HT.out]; exact HB.out.lo _, HL1.out.setCell (by exact Nat.le_refl _) _⟩
            case measure => simp [intOf]; omega
          · have k4 : (k : Int) / 4 = 1 := by omega
            have HT := Lib.hid (show (b : Int) * 16 + ((n : Int) - 87) = ((b * 16 + (n - 87) : Nat) : Int) by omega)
            go_wp2_with fail
            go_roundw
            case rel => exact ⟨k + 1, a, _, by omega, by go_num, rdI_hi HI.out hkl (by omega) hlt HO.out, by rw [HV.out, ← HT.out]; exact HB.out.hi _, HL1.out.setCell (by exact Nat.le_refl _) _⟩
            case measure => simp [intOf]; omega
        · have HO := Lib.hid (show readZ s.data.toList = none from readZ_bad hkl (by
            unfold okc; rw [HN2.out, decide_eq_false hd, decide_eq_false hd2]; rfl))
          by_cases h1 : 48 ≤ n
          · have e1 : decide ((48 : Int) ≤ (n : Int)) = true := decide_eq_true (by omega)
            have e2 : decide ((n : Int) ≤ 57) = false := decide_eq_false (by omega)
            by_cases h2 : 97 ≤ n
            · have e3 : decide ((97 : Int) ≤ (n : Int)) = true := decide_eq_true (by omega)
              have e4 : decide ((n : Int) ≤ 102) = false := decide_eq_false (by omega)
              clear hd hd2
              go_wp2_with fail
              go_ret2
              exact ⟨by rw [HO.out]; unfold rdV; rw [← HZ.out]; rfl, HL1.out⟩
            · have e3 : decide ((97 : Int) ≤ (n : Int)) = false := decide_eq_false (by omega)
              clear hd hd2
              go_wp2_with fail
              go_ret2
              exact ⟨by rw [HO.out]; unfold rdV; rw [← HZ.out]; rfl, HL1.out⟩
          · have e1 : decide ((48 : Int) ≤ (n : Int)) = false := decide_eq_false (by omega)
            have e3 : decide ((97 : Int) ≤ (n : Int)) = false := decide_eq_false (by omega)
            clear hd hd2
            go_wp2_with fail
            go_ret2
            exact ⟨by rw [HO.out]; unfold rdV; rw [← HZ.out]; rfl, HL1.out⟩
      · obtain rfl : k = 8 := by omega
        have hks : ¬ (8 : Nat) < s.size := by have := H8.out; omega
        have kf : ∀ n, floatOfInt .f64 n = fl n := fun _ => rfl
        by_cases hm : a < 65521 ∧ b < 65521
        · have HO := Lib.hid (readZ_yes HL8.out HI.out hm.1 hm.2)
          have HC := Lib.hid (show Value.complex .f64 (fl (a : Int)) (fl (b : Int)) = cv ((a : Int), (b : Int)) by rw [cv_eq]; dsimp only; rw [rs_of (by omega) (by omega), rs_of (by omega) (by omega)])
          clear hm
          go_wp2_with (go_at_call 24; rw [HC.out]; refine (may_cv _ _).mono ?_; rintro e' w' ⟨rfl, rfl⟩)
          go_ret2
          exact ⟨by rw [HO.out]; unfold rdV; first | rfl | rw [← HC.out]; rfl, HL1.out⟩
        · have HO := Lib.hid (readZ_big HL8.out HI.out (by omega))
          have HC := Lib.hid (show mayC (a : Int) (b : Int) = false by
            unfold mayC
            rw [Bool.and_eq_false_iff, decide_eq_false_iff_not, decide_eq_false_iff_not]
            omega)
          clear hm
          go_wp2_with (go_at_call 24; refine (may_cz (a : Int) (b : Int) (by omega) (by omega) _).mono ?_; rw [HC.out]; rintro e' w' ⟨rfl, rfl⟩)
          go_ret2
          exact ⟨by rw [HO.out]; unfold rdV; rw [← HZ.out]; rfl, HL1.out⟩
  · have h8' : ((s.size : Int) != 8) = true := by simp; omega
    have HN := Lib.hid (readZ_len (l := s.data.toList) (by simpa using h8))
    clear h8
    go_enter Tryd.func15, Tryd.ntmps15
    go_wp2_with fail
    go_ret2
    exact ⟨by rw [HN.out]; unfold rdV; rw [← HZ.out]; rfl, Below.refl _ _⟩
end Go.Proofs.YthbbfdlacclccaaDoor
namespace Go.Proofs.YthbbfdlacclccaaDoor
open Go.RowKit

theorem Box2.put {B B' : Nat} {u v : Value} {W : World} (h : Box2 B u v W) (hne : B ≠ B') (i : Nat) (x : Value) : Box2 B u v (W.setCell ⟨B', i, none⟩ x) := by
  obtain ⟨h0, h1, f0, f1⟩ := h
  exact ⟨by rw [World.cell?_setCell_other _ _ _ _ (by intro e; simp only [Addr.mk.injEq] at e; omega)]; exact h0, by rw [World.cell?_setCell_other _ _ _ _ (by intro e; simp only [Addr.mk.injEq] at e; omega)]; exact h1, by simp [f0], by simp [f1]⟩
end Go.Proofs.YthbbfdlacclccaaDoor
namespace Go.Proofs.YthbbfdlacclccaaDoor
open Go.RowKit

/-- Numbers by their bits. -/
theorem cv_bits {a b : Int} {x y : Nat} (h0 : fl (rs a) = x) (h1 : fl (rs b) = y) : Value.complex .f64 x y = cv (a, b) := by
  subst h0 h1; rfl
theorem k23 : Value.complex .f64 4611686018427387904 4613937818241073152 = cv (2, 3) := cv_bits (by decide) (by decide)
theorem k7255 : Value.complex .f64 4619567317775286272 4643176031446892544 = cv (7, 255) := cv_bits (by decide) (by decide)
theorem k655 : Value.complex .f64 4679236989180968960 4626885667169763328 = cv (65514, 22) := cv_bits (by decide) (by decide)
theorem k653 : Value.complex .f64 4679237401497829376 4613937818241073152 = cv (65517, 3) := cv_bits (by decide) (by decide)
/-- Are two numbers the same? (A plain name.) -/
def eqZ (p q : ZP) : Bool := decide (norm p = norm q)
theorem eqZ_of {p q : ZP} (h : norm p = norm q) : eqZ p q = true := decide_eq_true h
theorem eqZ_same {p q : ZP} (h : Same p q) : eqZ p q = true := eqZ_of (norm_same h)
theorem eqZ_iff {p q : ZP} : eqZ p q = true ↔ norm p = norm q := by unfold eqZ; simp
theorem run_eq_cv (t : TypeId) (p q : ZP) (w : World) : (binOp .eql t (cv p) (cv q)).run Tryd.prog w = .ok (.bool (eqZ p q)) w := by
  rw [cv_eq, cv_eq, run_eql_complex]
  have h1 := eq_fl (rs_abs p.1) (rs_abs q.1)
  have h2 := eq_fl (rs_abs p.2) (rs_abs q.2)
  unfold eqF at h1 h2
  rw [h1, h2]
  unfold eqZ norm
  congr 2
  rw [Bool.eq_iff_iff]
  simp
theorem eqGuard_cv (op : BinOp) (t : TypeId) (x y : Operand) (p : ZP) (v : Value) : eqGuard op t x y (cv p) v = pure () := eqGuard_at_complex _ _ _ _ _ _ _ _
end Go.Proofs.YthbbfdlacclccaaDoor

/- PouchLengths: the walk. -/
import Derived.Test.YtchfphhelafbbaaDoorLo
import Derived.Test.YtchfphhelafbbaaDoorLh
namespace Go.Proofs.YtchfphhelafbbaaDoor
open Go.RowKit

theorem len_text (B : ByteArray) (m : Nat) (hB : B.size ≤ 1000) (hm : m ≤ 1000) : ∃ N N1 N2 U : ByteArray, (∀ w, Calls Tryd.prog 42 #[.int .i64 (m : Int)] w fun e w' => e = .returned (.string N) ∧ Below w.heap.size w w') ∧
    (∀ w, (Op.stringOp .add N ⟨#[58]⟩).run Tryd.prog w = .ok (.string N1) w) ∧ (∀ w, (Op.stringOp .add N1 B).run Tryd.prog w = .ok (.string N2) w) ∧ (∀ w, (Op.stringOp .add N2 ⟨#[44]⟩).run Tryd.prog w = .ok (.string U) w) ∧ U.data.toList = Lib.decDigits m ++ 58 :: (B.data.toList ++ [44]) ∧ U.size ≤ 140737488355328 := by
  have hl : B.data.toList.length = B.size := (size_list B).symm
  have hd := itoa_len (v := (m : Int)) (by omega)
  rw [itoa_nat] at hd
  have h1 := run_cat (P := Tryd.prog) (Lib.decDigits m) [58] (by simp; omega)
  have h2 := run_cat (P := Tryd.prog) (Lib.decDigits m ++ [58]) B.data.toList (by simp [hl]; omega)
  have h3 := run_cat (P := Tryd.prog) ((Lib.decDigits m ++ [58]) ++ B.data.toList) [44] (by simp [hl]; omega)
  rw [Lib.mk_data] at h2
  refine ⟨_, _, _, _, fun w => ?_, h1, h2, h3, by simp, ?_⟩
  · have := rdigits (m : Int) w (by omega) (by omega)
    rwa [itoa_nat] at this
  · rw [size_list]
    simp [hl]
    omega
theorem lead_text (B : ByteArray) (m : Nat) (hB : B.size ≤ 1000) (hm : m ≤ 1000) : ∃ N N1 N2 N3 U : ByteArray, (∀ w, Calls Tryd.prog 42 #[.int .i64 (m : Int)] w fun e w' => e = .returned (.string N) ∧ Below w.heap.size w w') ∧
    (∀ w, (Op.stringOp .add ⟨#[48]⟩ N).run Tryd.prog w = .ok (.string N1) w) ∧ (∀ w, (Op.stringOp .add N1 ⟨#[58]⟩).run Tryd.prog w = .ok (.string N2) w) ∧ (∀ w, (Op.stringOp .add N2 B).run Tryd.prog w = .ok (.string N3) w) ∧ (∀ w, (Op.stringOp .add N3 ⟨#[120, 44]⟩).run Tryd.prog w = .ok (.string U) w) ∧ (∃ r, U.data.toList = 48 :: (Lib.decDigits m ++ r)) ∧ U.size ≤ 140737488355328 := by
  have hl : B.data.toList.length = B.size := (size_list B).symm
  have hd := itoa_len (v := (m : Int)) (by omega)
  rw [itoa_nat] at hd
  have h0 := run_cat (P := Tryd.prog) [48] (Lib.decDigits m) (by simp; omega)
  have h1 := run_cat (P := Tryd.prog) ([48] ++ Lib.decDigits m) [58] (by simp; omega)
  have h2 := run_cat (P := Tryd.prog) (([48] ++ Lib.decDigits m) ++ [58]) B.data.toList (by simp [hl]; omega)
  have h3 := run_cat (P := Tryd.prog) ((([48] ++ Lib.decDigits m) ++ [58]) ++ B.data.toList) [120, 44] (by simp [hl]; omega)
  rw [Lib.mk_data] at h2
  refine ⟨_, _, _, _, _, fun w => ?_, h0, h1, h2, h3, ⟨[58] ++ B.data.toList ++ [120, 44], by simp⟩, ?_⟩
  · have := rdigits (m : Int) w (by omega) (by omega)
    rwa [itoa_nat] at this
  · rw [size_list]
    simp [hl]
    omega
theorem pAll_len {B U : ByteArray} {m : Nat} (hU : U.data.toList = Lib.decDigits m ++ 58 :: (B.data.toList ++ [44])) (hm : m ≤ 1000) (hne : m ≠ B.size) : pAll U = (pz, 1) := by
  rcases pAll_two U with h | h
  · exfalso
    obtain ⟨x, hx⟩ : ∃ x, pAll U = (x, 0) := ⟨(pAll U).1, Prod.ext rfl h⟩
    obtain ⟨u, _, e1, e2⟩ := len_inv (by omega) hU hx
    rw [size_list] at hne
    exact hne e2.symm
  · exact h
set_option maxRecDepth 100000 in
set_option maxHeartbeats 6400000 in
theorem pouchLengths_zero (s : ByteArray) (by' : Int) (hs : s.size ≤ 9223372036854775807) (hb1 : -3 ≤ by') (hb2 : by' ≤ 3) (h0 : by' = 0) (w : World) (L : Laid w) : Calls Tryd.prog 15 #[.string s, .int .i64 by'] w fun e w' => e = .returned (.bool true) ∧ Below w.heap.size w w' := by
  obtain ⟨A, hA⟩ : ∃ A, Hid (cutS s 40 = A) := ⟨_, Lib.hid rfl⟩
  have sA : A.size ≤ 40 := by rw [← hA.out, cutS_size]; omega
  have b1 : decide (by' < -3) = false := decide_eq_false (by omega)
  have b2 : decide (3 < by') = false := decide_eq_false (by omega)
  obtain ⟨m, hm⟩ : ∃ m : Nat, max 0 ((A.size : Int) + by') = (m : Int) := ⟨(max 0 ((A.size : Int) + by')).toNat, by omega⟩
  have hm43 : m ≤ 43 := by omega
  have z0 : (by' == 0) = true := by rw [beq_iff_eq]; exact h0
  have hmA' : m = A.size := by omega
  obtain ⟨N, N1, N2, U, dN, cN1, cN2, cN3, hU, sU⟩ := len_text A m (by omega) (by omega)
  obtain ⟨K, K1, K2, K3, F, dK, cK1, cK2, cK3, cK4, ⟨r, hF⟩, sF⟩ := lead_text A (A.size + 1) (by omega) (by omega)
  have HDN := Lib.hid dN
  have HDK : Hid (∀ w, Calls Tryd.prog 42 #[.int .i64 ((A.size : Int) + 1)] w fun e w' => e = .returned (.string K) ∧ Below w.heap.size w w') := Lib.hid dK
  have HAll := Lib.hid (all_flat (pAll_str (u := A) (s := U) (by omega) (by rw [hU, wrapT_eq, hmA', size_list])) sU)
  have HNo := Lib.hid (all_none (lead_bad hF) sF)
  have HL := Lib.hid L
  have HB : Hid (Below w.heap.size w w) := Lib.hid (Below.refl _ _)
  clear hU hF dN dK h0 L hmA'
  go_enter Tryd.func15, Tryd.ntmps15
  go_wp2_with (first | (go_at_call 19; refine (begun_any _ HL.out).mono ?_; rintro e' w1 ⟨rfl, hb⟩; have HB := Lib.hid (below_on HB.out hb); clear hb) | (go_at_call 26; refine (cut_p s A 40 40 _ hA hs (by decide) rfl).mono ?_; rintro e' w' ⟨rfl, rfl⟩) | (go_at_call 42; refine (HDN.out _).mono ?_; rintro e' w1 ⟨rfl, hb⟩; have HB := Lib.hid (below_on HB.out hb); clear hb))
  refine (HAll.out w1 (HL.out.keep HB.out)).mono ?_
  rintro e' w2 ⟨a, c, rfl, hb⟩
  have B2w := Lib.hid (below_alloc (below_on HB.out hb) (.cells #[.int .i64 2, .int .i64 0, .string A, .slice a 0 c] 49))
  have X2 := Lib.hid (Box4.new w2 (.int .i64 2) (.int .i64 0) (.string A) (.slice a 0 c) 49)
  clear hb HB
  go_wp2_with fail
  generalize (w2.alloc (.cells #[.int .i64 2, .int .i64 0, .string A, .slice a 0 c] 49)) = V at B2w X2 ⊢
  refine (HDK.out _).mono ?_
  rintro e' w3 ⟨rfl, hb⟩
  have B3w := Lib.hid (below_on B2w.out hb)
  have X3 := Lib.hid (X2.out.keep hb)
  clear hb B2w X2
  go_wp2_with fail
  refine (HNo.out w3 (HL.out.keep B3w.out)).mono ?_
  rintro e' w4 ⟨k', n', u', a', m', c', rfl, hb⟩
  have B4w := Lib.hid (below_alloc (below_on B3w.out hb) (.cells #[.int .i64 k', .int .i64 n', .string u', .slice a' m' c'] 49))
  have X4 := Lib.hid ((X3.out.keep hb).keep (below_alloc (Below.refl _ _) (.cells #[.int .i64 k', .int .i64 n', .string u', .slice a' m' c'] 49)))
  clear hb B3w X3
  obtain ⟨⟨z0, z1, z2, z3⟩, -⟩ := X4.out
  go_wp2_with fail
  go_ret
  exact ⟨rfl, B4w.out⟩
set_option maxRecDepth 100000 in
set_option maxHeartbeats 6400000 in
theorem pouchLengths_none (s : ByteArray) (by' : Int) (hs : s.size ≤ 9223372036854775807) (hb1 : -3 ≤ by') (hb2 : by' ≤ 3) (h0 : by' ≠ 0) (h2 : ((cutS s 40).size : Int) + by' < 0) (h3 : (cutS s 40).size = 0) (w : World) (L : Laid w) : Calls Tryd.prog 15 #[.string s, .int .i64 by'] w fun e w' => e = .returned (.bool true) ∧ Below w.heap.size w w' := by
  obtain ⟨A, hA⟩ : ∃ A, Hid (cutS s 40 = A) := ⟨_, Lib.hid rfl⟩
  have sA : A.size ≤ 40 := by rw [← hA.out, cutS_size]; omega
  have b1 : decide (by' < -3) = false := decide_eq_false (by omega)
  have b2 : decide (3 < by') = false := decide_eq_false (by omega)
  obtain ⟨m, hm⟩ : ∃ m : Nat, max 0 ((A.size : Int) + by') = (m : Int) := ⟨(max 0 ((A.size : Int) + by')).toNat, by omega⟩
  have hm43 : m ≤ 43 := by omega
  rw [hA.out] at h2 h3
  have z0 : (by' == 0) = false := by rw [beq_eq_false_iff_ne]; exact h0
  have z1 : decide ((A.size : Int) + by' < 0) = true := decide_eq_true h2
  have z2 : ((A.size : Int) == 0) = true := by rw [beq_iff_eq]; omega
  have hmA' : m = A.size := by omega
  clear h3
  obtain ⟨N, N1, N2, U, dN, cN1, cN2, cN3, hU, sU⟩ := len_text A m (by omega) (by omega)
  obtain ⟨K, K1, K2, K3, F, dK, cK1, cK2, cK3, cK4, ⟨r, hF⟩, sF⟩ := lead_text A (A.size + 1) (by omega) (by omega)
  have HDN := Lib.hid dN
  have HDK : Hid (∀ w, Calls Tryd.prog 42 #[.int .i64 ((A.size : Int) + 1)] w fun e w' => e = .returned (.string K) ∧ Below w.heap.size w w') := Lib.hid dK
  have HAll := Lib.hid (all_flat (pAll_str (u := A) (s := U) (by omega) (by rw [hU, wrapT_eq, hmA', size_list])) sU)
  have HNo := Lib.hid (all_none (lead_bad hF) sF)
  have HL := Lib.hid L
  have HB : Hid (Below w.heap.size w w) := Lib.hid (Below.refl _ _)
  clear hU hF dN dK h0 L hmA'
  go_enter Tryd.func15, Tryd.ntmps15
  go_wp2_with (first | (go_at_call 19; refine (begun_any _ HL.out).mono ?_; rintro e' w1 ⟨rfl, hb⟩; have HB := Lib.hid (below_on HB.out hb); clear hb) | (go_at_call 26; refine (cut_p s A 40 40 _ hA hs (by decide) rfl).mono ?_; rintro e' w' ⟨rfl, rfl⟩) | (go_at_call 42; refine (HDN.out _).mono ?_; rintro e' w1 ⟨rfl, hb⟩; have HB := Lib.hid (below_on HB.out hb); clear hb))
  refine (HAll.out w1 (HL.out.keep HB.out)).mono ?_
  rintro e' w2 ⟨a, c, rfl, hb⟩
  have B2w := Lib.hid (below_alloc (below_on HB.out hb) (.cells #[.int .i64 2, .int .i64 0, .string A, .slice a 0 c] 49))
  have X2 := Lib.hid (Box4.new w2 (.int .i64 2) (.int .i64 0) (.string A) (.slice a 0 c) 49)
  clear hb HB
  go_wp2_with fail
  generalize (w2.alloc (.cells #[.int .i64 2, .int .i64 0, .string A, .slice a 0 c] 49)) = V at B2w X2 ⊢
  refine (HDK.out _).mono ?_
  rintro e' w3 ⟨rfl, hb⟩
  have B3w := Lib.hid (below_on B2w.out hb)
  have X3 := Lib.hid (X2.out.keep hb)
  clear hb B2w X2
  go_wp2_with fail
  refine (HNo.out w3 (HL.out.keep B3w.out)).mono ?_
  rintro e' w4 ⟨k', n', u', a', m', c', rfl, hb⟩
  have B4w := Lib.hid (below_alloc (below_on B3w.out hb) (.cells #[.int .i64 k', .int .i64 n', .string u', .slice a' m' c'] 49))
  have X4 := Lib.hid ((X3.out.keep hb).keep (below_alloc (Below.refl _ _) (.cells #[.int .i64 k', .int .i64 n', .string u', .slice a' m' c'] 49)))
  clear hb B3w X3
  obtain ⟨⟨z0, z1, z2, z3⟩, -⟩ := X4.out
  go_wp2_with fail
  go_ret
  exact ⟨rfl, B4w.out⟩
set_option maxRecDepth 100000 in
set_option maxHeartbeats 6400000 in
theorem pouchLengths_low (s : ByteArray) (by' : Int) (hs : s.size ≤ 9223372036854775807) (hb1 : -3 ≤ by') (hb2 : by' ≤ 3) (h0 : by' ≠ 0) (h2 : ((cutS s 40).size : Int) + by' < 0) (h3 : (cutS s 40).size ≠ 0) (w : World) (L : Laid w) : Calls Tryd.prog 15 #[.string s, .int .i64 by'] w fun e w' => e = .returned (.bool true) ∧ Below w.heap.size w w' := by
  obtain ⟨A, hA⟩ : ∃ A, Hid (cutS s 40 = A) := ⟨_, Lib.hid rfl⟩
  have sA : A.size ≤ 40 := by rw [← hA.out, cutS_size]; omega
  have b1 : decide (by' < -3) = false := decide_eq_false (by omega)
  have b2 : decide (3 < by') = false := decide_eq_false (by omega)
  obtain ⟨m, hm⟩ : ∃ m : Nat, max 0 ((A.size : Int) + by') = (m : Int) := ⟨(max 0 ((A.size : Int) + by')).toNat, by omega⟩
  have hm43 : m ≤ 43 := by omega
  rw [hA.out] at h2 h3
  have z0 : (by' == 0) = false := by rw [beq_eq_false_iff_ne]; exact h0
  have z1 : decide ((A.size : Int) + by' < 0) = true := decide_eq_true h2
  have z2 : ((A.size : Int) == 0) = false := by rw [beq_eq_false_iff_ne]; omega
  have hne : m ≠ A.size := by omega
  obtain ⟨N, N1, N2, U, dN, cN1, cN2, cN3, hU, sU⟩ := len_text A m (by omega) (by omega)
  obtain ⟨K, K1, K2, K3, F, dK, cK1, cK2, cK3, cK4, ⟨r, hF⟩, sF⟩ := lead_text A (A.size + 1) (by omega) (by omega)
  have HDN := Lib.hid dN
  have HDK : Hid (∀ w, Calls Tryd.prog 42 #[.int .i64 ((A.size : Int) + 1)] w fun e w' => e = .returned (.string K) ∧ Below w.heap.size w w') := Lib.hid dK
  have HAll := Lib.hid (all_none (pAll_len hU (by omega) hne) sU)
  have HNo := Lib.hid (all_none (lead_bad hF) sF)
  have HL := Lib.hid L
  have HB : Hid (Below w.heap.size w w) := Lib.hid (Below.refl _ _)
  clear hU hF dN dK h0 L hne
  go_enter Tryd.func15, Tryd.ntmps15
  go_wp2_with (first | (go_at_call 19; refine (begun_any _ HL.out).mono ?_; rintro e' w1 ⟨rfl, hb⟩; have HB := Lib.hid (below_on HB.out hb); clear hb) | (go_at_call 26; refine (cut_p s A 40 40 _ hA hs (by decide) rfl).mono ?_; rintro e' w' ⟨rfl, rfl⟩) | (go_at_call 42; refine (HDN.out _).mono ?_; rintro e' w1 ⟨rfl, hb⟩; have HB := Lib.hid (below_on HB.out hb); clear hb))
  refine (HAll.out w1 (HL.out.keep HB.out)).mono ?_
  rintro e' w2 ⟨k1, n1, u1, a, m1, c, rfl, hb⟩
  have B2w := Lib.hid (below_alloc (below_on HB.out hb) (.cells #[.int .i64 k1, .int .i64 n1, .string u1, .slice a m1 c] 49))
  have X2 := Lib.hid (Box4.new w2 (.int .i64 k1) (.int .i64 n1) (.string u1) (.slice a m1 c) 49)
  clear hb HB
  go_wp2_with fail
  generalize (w2.alloc (.cells #[.int .i64 k1, .int .i64 n1, .string u1, .slice a m1 c] 49)) = V at B2w X2 ⊢
  refine (HDK.out _).mono ?_
  rintro e' w3 ⟨rfl, hb⟩
  have B3w := Lib.hid (below_on B2w.out hb)
  have X3 := Lib.hid (X2.out.keep hb)
  clear hb B2w X2
  go_wp2_with fail
  refine (HNo.out w3 (HL.out.keep B3w.out)).mono ?_
  rintro e' w4 ⟨k', n', u', a', m', c', rfl, hb⟩
  have B4w := Lib.hid (below_alloc (below_on B3w.out hb) (.cells #[.int .i64 k', .int .i64 n', .string u', .slice a' m' c'] 49))
  have X4 := Lib.hid ((X3.out.keep hb).keep (below_alloc (Below.refl _ _) (.cells #[.int .i64 k', .int .i64 n', .string u', .slice a' m' c'] 49)))
  clear hb B3w X3
  obtain ⟨⟨z0, z1, z2, z3⟩, -⟩ := X4.out
  go_wp2_with fail
  go_ret
  exact ⟨rfl, B4w.out⟩
set_option maxRecDepth 100000 in
set_option maxHeartbeats 6400000 in
theorem pouchLengths_else (s : ByteArray) (by' : Int) (hs : s.size ≤ 9223372036854775807) (hb1 : -3 ≤ by') (hb2 : by' ≤ 3) (h0 : by' ≠ 0) (h2 : ¬ ((cutS s 40).size : Int) + by' < 0) (w : World) (L : Laid w) : Calls Tryd.prog 15 #[.string s, .int .i64 by'] w fun e w' => e = .returned (.bool true) ∧ Below w.heap.size w w' := by
  obtain ⟨A, hA⟩ : ∃ A, Hid (cutS s 40 = A) := ⟨_, Lib.hid rfl⟩
  have sA : A.size ≤ 40 := by rw [← hA.out, cutS_size]; omega
  have b1 : decide (by' < -3) = false := decide_eq_false (by omega)
  have b2 : decide (3 < by') = false := decide_eq_false (by omega)
  obtain ⟨m, hm⟩ : ∃ m : Nat, max 0 ((A.size : Int) + by') = (m : Int) := ⟨(max 0 ((A.size : Int) + by')).toNat, by omega⟩
  have hm43 : m ≤ 43 := by omega
  rw [hA.out] at h2
  have z0 : (by' == 0) = false := by rw [beq_eq_false_iff_ne]; exact h0
  have z1 : decide ((A.size : Int) + by' < 0) = false := decide_eq_false h2
  have hne : m ≠ A.size := by omega
  obtain ⟨N, N1, N2, U, dN, cN1, cN2, cN3, hU, sU⟩ := len_text A m (by omega) (by omega)
  obtain ⟨K, K1, K2, K3, F, dK, cK1, cK2, cK3, cK4, ⟨r, hF⟩, sF⟩ := lead_text A (A.size + 1) (by omega) (by omega)
  have HDN := Lib.hid dN
  have HDK : Hid (∀ w, Calls Tryd.prog 42 #[.int .i64 ((A.size : Int) + 1)] w fun e w' => e = .returned (.string K) ∧ Below w.heap.size w w') := Lib.hid dK
  have HAll := Lib.hid (all_none (pAll_len hU (by omega) hne) sU)
  have HNo := Lib.hid (all_none (lead_bad hF) sF)
  have HL := Lib.hid L
  have HB : Hid (Below w.heap.size w w) := Lib.hid (Below.refl _ _)
  clear hU hF dN dK h0 L hne
  go_enter Tryd.func15, Tryd.ntmps15
  go_wp2_with (first | (go_at_call 19; refine (begun_any _ HL.out).mono ?_; rintro e' w1 ⟨rfl, hb⟩; have HB := Lib.hid (below_on HB.out hb); clear hb) | (go_at_call 26; refine (cut_p s A 40 40 _ hA hs (by decide) rfl).mono ?_; rintro e' w' ⟨rfl, rfl⟩) | (go_at_call 42; refine (HDN.out _).mono ?_; rintro e' w1 ⟨rfl, hb⟩; have HB := Lib.hid (below_on HB.out hb); clear hb))
  refine (HAll.out w1 (HL.out.keep HB.out)).mono ?_
  rintro e' w2 ⟨k1, n1, u1, a, m1, c, rfl, hb⟩
  have B2w := Lib.hid (below_alloc (below_on HB.out hb) (.cells #[.int .i64 k1, .int .i64 n1, .string u1, .slice a m1 c] 49))
  have X2 := Lib.hid (Box4.new w2 (.int .i64 k1) (.int .i64 n1) (.string u1) (.slice a m1 c) 49)
  clear hb HB
  go_wp2_with fail
  generalize (w2.alloc (.cells #[.int .i64 k1, .int .i64 n1, .string u1, .slice a m1 c] 49)) = V at B2w X2 ⊢
  refine (HDK.out _).mono ?_
  rintro e' w3 ⟨rfl, hb⟩
  have B3w := Lib.hid (below_on B2w.out hb)
  have X3 := Lib.hid (X2.out.keep hb)
  clear hb B2w X2
  go_wp2_with fail
  refine (HNo.out w3 (HL.out.keep B3w.out)).mono ?_
  rintro e' w4 ⟨k', n', u', a', m', c', rfl, hb⟩
  have B4w := Lib.hid (below_alloc (below_on B3w.out hb) (.cells #[.int .i64 k', .int .i64 n', .string u', .slice a' m' c'] 49))
  have X4 := Lib.hid ((X3.out.keep hb).keep (below_alloc (Below.refl _ _) (.cells #[.int .i64 k', .int .i64 n', .string u', .slice a' m' c'] 49)))
  clear hb B3w X3
  obtain ⟨⟨z0, z1, z2, z3⟩, -⟩ := X4.out
  go_wp2_with fail
  go_ret
  exact ⟨rfl, B4w.out⟩
set_option maxRecDepth 100000 in
set_option maxHeartbeats 6400000 in
theorem pouchLengths_less (s : ByteArray) (by' : Int) (hs : s.size ≤ 9223372036854775807) (h : by' < -3) (w : World) (L : Laid w) : Calls Tryd.prog 15 #[.string s, .int .i64 by'] w fun e w' => e = .returned (.bool true) ∧ Below w.heap.size w w' := by
  have b1 : decide (by' < -3) = true := decide_eq_true h
  have HL := Lib.hid L
  have HB : Hid (Below w.heap.size w w) := Lib.hid (Below.refl _ _)
  clear L
  go_enter Tryd.func15, Tryd.ntmps15
  go_wp2_with (first | (go_at_call 19; refine (begun_any _ HL.out).mono ?_; rintro e' w1 ⟨rfl, hb⟩; have HB := Lib.hid (below_on HB.out hb); clear hb) | (go_at_call 26; refine (cut_p s _ 40 40 _ (Lib.hid rfl) hs (by decide) rfl).mono ?_; rintro e' w' ⟨rfl, rfl⟩))
  go_ret
  exact ⟨rfl, HB.out⟩
set_option maxRecDepth 100000 in
set_option maxHeartbeats 6400000 in
theorem pouchLengths_more (s : ByteArray) (by' : Int) (hs : s.size ≤ 9223372036854775807) (h1 : ¬ by' < -3) (h : 3 < by') (w : World) (L : Laid w) : Calls Tryd.prog 15 #[.string s, .int .i64 by'] w fun e w' => e = .returned (.bool true) ∧ Below w.heap.size w w' := by
  have b1 : decide (by' < -3) = false := decide_eq_false h1
  have b2 : decide (3 < by') = true := decide_eq_true h
  have HL := Lib.hid L
  have HB : Hid (Below w.heap.size w w) := Lib.hid (Below.refl _ _)
  clear L
  go_enter Tryd.func15, Tryd.ntmps15
  go_wp2_with (first | (go_at_call 19; refine (begun_any _ HL.out).mono ?_; rintro e' w1 ⟨rfl, hb⟩; have HB := Lib.hid (below_on HB.out hb); clear hb) | (go_at_call 26; refine (cut_p s _ 40 40 _ (Lib.hid rfl) hs (by decide) rfl).mono ?_; rintro e' w' ⟨rfl, rfl⟩))
  go_ret
  exact ⟨rfl, HB.out⟩
theorem pouchLengths_walk (s : ByteArray) (by' : Int) (hs : s.size ≤ 9223372036854775807) (w : World) (L : Laid w) : Calls Tryd.prog 15 #[.string s, .int .i64 by'] w fun e w' => e = .returned (.bool true) ∧ Below w.heap.size w w' := by
  by_cases h1 : by' < -3
  · exact pouchLengths_less s by' hs h1 w L
  by_cases h2 : 3 < by'
  · exact pouchLengths_more s by' hs h1 h2 w L
  by_cases h3 : by' = 0
  · exact pouchLengths_zero s by' hs (by omega) (by omega) h3 w L
  by_cases h4 : ((cutS s 40).size : Int) + by' < 0
  · by_cases h5 : (cutS s 40).size = 0
    · exact pouchLengths_none s by' hs (by omega) (by omega) h3 h4 h5 w L
    · exact pouchLengths_low s by' hs (by omega) (by omega) h3 h4 h5 w L
  · exact pouchLengths_else s by' hs (by omega) (by omega) h3 h4 w L
end Go.Proofs.YtchfphhelafbbaaDoor

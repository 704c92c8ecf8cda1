/- PouchNums: the walk. -/
import Derived.Test.YtchfphhelafbbaaDoorLo
namespace Go.Proofs.YtchfphhelafbbaaDoor
open Go.RowKit

set_option maxRecDepth 100000 in
set_option maxHeartbeats 6400000 in
theorem pouchNums_0 (n lead : Int) (hj : (lead.tmod 5 + 5) % 5 = 0) (h0 : -9223372036854775808 ≤ n) (h1 : n ≤ 9223372036854775807) (w : World) (L : Laid w) : Calls Tryd.prog 14 #[.int .i64 n, .int .i64 lead] w fun e w' => e = .returned (.bool true) ∧ Below w.heap.size w w' := by
  obtain ⟨D, hD⟩ : ∃ D : ByteArray, (⟨(Lib.itoa n).toArray⟩ : ByteArray) = D := ⟨_, rfl⟩
  have hDl : Lib.itoa n = D.data.toList := by rw [← hD]
  have sD := itoa_len (v := n) ⟨h0, h1⟩
  rw [hDl, ← size_list] at sD
  have hDne : D.data.toList ≠ [] := by intro e; rw [size_list, e] at sD; simp at sD
  have HDg := Lib.hid (digits_at n D hDl h0 h1)
  obtain ⟨M, M1, M2, T, dM, cM1, cM2, cM3, hT, sT⟩ := law_text D 35 (by omega)
  have HDM := Lib.hid dM
  have hTp : T.data.toList = pPut (.mk 1 n ⟨#[]⟩ []) := by rw [pPut_num ⟨h0, h1⟩, hDl]; exact hT
  have HPut : Hid (∀ W, Laid W → Calls Tryd.prog 35 #[.agg #[.int .i64 1, .int .i64 n, .string ⟨#[]⟩, .slice none 0 0]] W fun e w' => e = .returned (.string T) ∧ Below W.heap.size W w') := Lib.hid (fun W LW => by
    have := Put_pv (flat_atO (fun _ => True) W 1 n ⟨#[]⟩ (by decide) ⟨h0, h1⟩ (by decide)).pat LW.1 (fun _ => by
      have e : pput (.mk 1 n ⟨#[]⟩ []) = wrapT (Lib.itoa n) 35 := by rw [pput_wrap]; rfl
      rw [e, hDl, ← hT, ← size_list]; exact sT)
    rw [← hTp, Lib.mk_data] at this
    exact this)
  have HAll := Lib.hid (all_flat (pAll_num (n := n) ⟨h0, h1⟩ (s := T) (by rw [hDl]; exact hT)) sT)
  obtain ⟨B0, hB0⟩ : ∃ B : ByteArray, (⟨(48 :: D.data.toList).toArray⟩ : ByteArray) = B := ⟨_, rfl⟩
  obtain ⟨B1, hB1⟩ : ∃ B : ByteArray, (⟨(43 :: D.data.toList).toArray⟩ : ByteArray) = B := ⟨_, rfl⟩
  obtain ⟨B2, hB2⟩ : ∃ B : ByteArray, (⟨(D.data.toList ++ [32]).toArray⟩ : ByteArray) = B := ⟨_, rfl⟩
  obtain ⟨B4, hB4⟩ : ∃ B : ByteArray, (⟨(D.data.toList ++ [57, 57, 57, 57, 57, 57, 57, 57, 57, 57, 57, 57, 57, 57, 57, 57, 57, 57, 57, 57]).toArray⟩ : ByteArray) = B := ⟨_, rfl⟩
  have q0 := run_cat (P := Tryd.prog) [48] D.data.toList (by rw [← size_list]; simp; omega)
  have q1 := run_cat (P := Tryd.prog) [43] D.data.toList (by rw [← size_list]; simp; omega)
  have q2 := run_cat (P := Tryd.prog) D.data.toList [32] (by rw [← size_list]; simp; omega)
  have q4 := run_cat (P := Tryd.prog) D.data.toList [57, 57, 57, 57, 57, 57, 57, 57, 57, 57, 57, 57, 57, 57, 57, 57, 57, 57, 57, 57] (by rw [← size_list]; simp; omega)
  rw [Lib.mk_data] at q0 q1 q2 q4
  have p0 : ∀ w, (Op.stringOp .add ⟨#[48]⟩ D).run Tryd.prog w = .ok (.string B0) w := fun w => by rw [← hB0]; exact q0 w
  have p1 : ∀ w, (Op.stringOp .add ⟨#[43]⟩ D).run Tryd.prog w = .ok (.string B1) w := fun w => by rw [← hB1]; exact q1 w
  have p2 : ∀ w, (Op.stringOp .add D ⟨#[32]⟩).run Tryd.prog w = .ok (.string B2) w := fun w => by rw [← hB2]; exact q2 w
  have p4 : ∀ w, (Op.stringOp .add D ⟨#[57, 57, 57, 57, 57, 57, 57, 57, 57, 57, 57, 57, 57, 57, 57, 57, 57, 57, 57, 57]⟩).run Tryd.prog w = .ok (.string B4) w := fun w => by rw [← hB4]; exact q4 w
  have bad : numP B0.data.toList = none ∧ B0.size ≤ 50 := by
    rw [← hB0]
    exact ⟨bad_nought hDne, by rw [size_list]; show (48 :: D.data.toList).length ≤ 50; rw [List.length_cons, ← size_list]; omega⟩
  obtain ⟨N, N1, N2, U, dN, cN1, cN2, cN3, hU, sU⟩ := law_text B0 35 (by have := bad.2; omega)
  have HDN := Lib.hid dN
  have HNo := Lib.hid (all_none (pAll_bad bad.1 (by rw [← size_list]; have := bad.2; omega) hU) sU)
  have hrem : lead.tmod 5 < 5 ∧ -5 < lead.tmod 5 := ⟨Int.tmod_lt_of_pos lead (by decide), Int.lt_tmod_of_pos lead (by decide)⟩
  obtain ⟨t5, ht5⟩ : ∃ t, lead.tmod 5 = t := ⟨_, rfl⟩
  rw [ht5] at hj hrem
  obtain ⟨hr1, hr2⟩ := hrem
  have HL := Lib.hid L
  have HB : Hid (Below w.heap.size w w) := Lib.hid (Below.refl _ _)
  clear q0 q1 q2 q4 hB0 hB1 hB2 hB4 bad hU hT hTp hD hDl hDne dM dN L
  go_enter Tryd.func14, Tryd.ntmps14
  go_wp2_with (first | (go_at_call 19; refine (begun_any _ HL.out).mono ?_; rintro e' w1 ⟨rfl, hb⟩; have HB := Lib.hid (below_on HB.out hb); clear hb) | (go_at_call 42; refine (HDg.out _).mono ?_; rintro e' w1 ⟨rfl, hb⟩; have HB := Lib.hid (below_on HB.out hb); clear hb) | (go_at_call 35; refine (HPut.out _ (HL.out.keep HB.out)).mono ?_; rintro e' w1 ⟨rfl, hb⟩; have HB := Lib.hid (below_on HB.out hb); clear hb))
  refine (HAll.out w1 (HL.out.keep HB.out)).mono ?_
  rintro e' w2 ⟨a, c, rfl, hb⟩
  have B2w := Lib.hid (below_on (below_on HB.out hb) (below_alloc (Below.refl _ _) (.cells #[.int .i64 1, .int .i64 n, .string ⟨#[]⟩, .slice a 0 c] 49)))
  have X2 := Lib.hid (Box4.new w2 (.int .i64 1) (.int .i64 n) (.string ⟨#[]⟩) (.slice a 0 c) 49)
  clear hb HB
  go_wp2_with fail
  generalize (w2.alloc (.cells #[.int .i64 1, .int .i64 n, .string ⟨#[]⟩, .slice a 0 c] 49)) = V at B2w X2 ⊢
  refine (HDN.out _).mono ?_
  rintro e' w3 ⟨rfl, hb⟩
  have B3w := Lib.hid (below_on (below_alloc B2w.out _) hb)
  have X3 := Lib.hid (X2.out.keep (below_on (below_alloc (Below.refl _ _) _) hb))
  clear hb B2w X2
  go_wp2_with fail
  refine (HNo.out w3 (HL.out.keep B3w.out)).mono ?_
  rintro e' w4 ⟨k', n', u', a', m', c', rfl, hb⟩
  have B4w := Lib.hid (below_alloc (below_on B3w.out hb) (.cells #[.int .i64 k', .int .i64 n', .string u', .slice a' m' c'] 49))
  have X4 := Lib.hid ((X3.out.keep hb).keep (below_alloc (Below.refl _ _) (.cells #[.int .i64 k', .int .i64 n', .string u', .slice a' m' c'] 49)))
  clear hb B3w X3
  go_wp2_with fail
  generalize (w4.alloc (.cells #[.int .i64 k', .int .i64 n', .string u', .slice a' m' c'] 49)) = V2 at B4w X4 ⊢
  refine (HDM.out _).mono ?_
  rintro e' w5 ⟨rfl, hb⟩
  have B5w := Lib.hid (below_on B4w.out hb)
  obtain ⟨⟨z0, z1, z2, z3⟩, -⟩ := X4.out.keep hb
  clear hb B4w X4
  go_wp2_with fail
  go_ret
  exact ⟨rfl, B5w.out⟩
set_option maxRecDepth 100000 in
set_option maxHeartbeats 6400000 in
theorem pouchNums_1 (n lead : Int) (hj : (lead.tmod 5 + 5) % 5 = 1) (h0 : -9223372036854775808 ≤ n) (h1 : n ≤ 9223372036854775807) (w : World) (L : Laid w) : Calls Tryd.prog 14 #[.int .i64 n, .int .i64 lead] w fun e w' => e = .returned (.bool true) ∧ Below w.heap.size w w' := by
  obtain ⟨D, hD⟩ : ∃ D : ByteArray, (⟨(Lib.itoa n).toArray⟩ : ByteArray) = D := ⟨_, rfl⟩
  have hDl : Lib.itoa n = D.data.toList := by rw [← hD]
  have sD := itoa_len (v := n) ⟨h0, h1⟩
  rw [hDl, ← size_list] at sD
  have hDne : D.data.toList ≠ [] := by intro e; rw [size_list, e] at sD; simp at sD
  have HDg := Lib.hid (digits_at n D hDl h0 h1)
  obtain ⟨M, M1, M2, T, dM, cM1, cM2, cM3, hT, sT⟩ := law_text D 35 (by omega)
  have HDM := Lib.hid dM
  have hTp : T.data.toList = pPut (.mk 1 n ⟨#[]⟩ []) := by rw [pPut_num ⟨h0, h1⟩, hDl]; exact hT
  have HPut : Hid (∀ W, Laid W → Calls Tryd.prog 35 #[.agg #[.int .i64 1, .int .i64 n, .string ⟨#[]⟩, .slice none 0 0]] W fun e w' => e = .returned (.string T) ∧ Below W.heap.size W w') := Lib.hid (fun W LW => by
    have := Put_pv (flat_atO (fun _ => True) W 1 n ⟨#[]⟩ (by decide) ⟨h0, h1⟩ (by decide)).pat LW.1 (fun _ => by
      have e : pput (.mk 1 n ⟨#[]⟩ []) = wrapT (Lib.itoa n) 35 := by rw [pput_wrap]; rfl
      rw [e, hDl, ← hT, ← size_list]; exact sT)
    rw [← hTp, Lib.mk_data] at this
    exact this)
  have HAll := Lib.hid (all_flat (pAll_num (n := n) ⟨h0, h1⟩ (s := T) (by rw [hDl]; exact hT)) sT)
  obtain ⟨B0, hB0⟩ : ∃ B : ByteArray, (⟨(48 :: D.data.toList).toArray⟩ : ByteArray) = B := ⟨_, rfl⟩
  obtain ⟨B1, hB1⟩ : ∃ B : ByteArray, (⟨(43 :: D.data.toList).toArray⟩ : ByteArray) = B := ⟨_, rfl⟩
  obtain ⟨B2, hB2⟩ : ∃ B : ByteArray, (⟨(D.data.toList ++ [32]).toArray⟩ : ByteArray) = B := ⟨_, rfl⟩
  obtain ⟨B4, hB4⟩ : ∃ B : ByteArray, (⟨(D.data.toList ++ [57, 57, 57, 57, 57, 57, 57, 57, 57, 57, 57, 57, 57, 57, 57, 57, 57, 57, 57, 57]).toArray⟩ : ByteArray) = B := ⟨_, rfl⟩
  have q0 := run_cat (P := Tryd.prog) [48] D.data.toList (by rw [← size_list]; simp; omega)
  have q1 := run_cat (P := Tryd.prog) [43] D.data.toList (by rw [← size_list]; simp; omega)
  have q2 := run_cat (P := Tryd.prog) D.data.toList [32] (by rw [← size_list]; simp; omega)
  have q4 := run_cat (P := Tryd.prog) D.data.toList [57, 57, 57, 57, 57, 57, 57, 57, 57, 57, 57, 57, 57, 57, 57, 57, 57, 57, 57, 57] (by rw [← size_list]; simp; omega)
  rw [Lib.mk_data] at q0 q1 q2 q4
  have p0 : ∀ w, (Op.stringOp .add ⟨#[48]⟩ D).run Tryd.prog w = .ok (.string B0) w := fun w => by rw [← hB0]; exact q0 w
  have p1 : ∀ w, (Op.stringOp .add ⟨#[43]⟩ D).run Tryd.prog w = .ok (.string B1) w := fun w => by rw [← hB1]; exact q1 w
  have p2 : ∀ w, (Op.stringOp .add D ⟨#[32]⟩).run Tryd.prog w = .ok (.string B2) w := fun w => by rw [← hB2]; exact q2 w
  have p4 : ∀ w, (Op.stringOp .add D ⟨#[57, 57, 57, 57, 57, 57, 57, 57, 57, 57, 57, 57, 57, 57, 57, 57, 57, 57, 57, 57]⟩).run Tryd.prog w = .ok (.string B4) w := fun w => by rw [← hB4]; exact q4 w
  have bad : numP B1.data.toList = none ∧ B1.size ≤ 50 := by
    rw [← hB1]
    exact ⟨bad_plus _, by rw [size_list]; show (43 :: D.data.toList).length ≤ 50; rw [List.length_cons, ← size_list]; omega⟩
  obtain ⟨N, N1, N2, U, dN, cN1, cN2, cN3, hU, sU⟩ := law_text B1 35 (by have := bad.2; omega)
  have HDN := Lib.hid dN
  have HNo := Lib.hid (all_none (pAll_bad bad.1 (by rw [← size_list]; have := bad.2; omega) hU) sU)
  have hrem : lead.tmod 5 < 5 ∧ -5 < lead.tmod 5 := ⟨Int.tmod_lt_of_pos lead (by decide), Int.lt_tmod_of_pos lead (by decide)⟩
  obtain ⟨t5, ht5⟩ : ∃ t, lead.tmod 5 = t := ⟨_, rfl⟩
  rw [ht5] at hj hrem
  obtain ⟨hr1, hr2⟩ := hrem
  have HL := Lib.hid L
  have HB : Hid (Below w.heap.size w w) := Lib.hid (Below.refl _ _)
  clear q0 q1 q2 q4 hB0 hB1 hB2 hB4 bad hU hT hTp hD hDl hDne dM dN L
  go_enter Tryd.func14, Tryd.ntmps14
  go_wp2_with (first | (go_at_call 19; refine (begun_any _ HL.out).mono ?_; rintro e' w1 ⟨rfl, hb⟩; have HB := Lib.hid (below_on HB.out hb); clear hb) | (go_at_call 42; refine (HDg.out _).mono ?_; rintro e' w1 ⟨rfl, hb⟩; have HB := Lib.hid (below_on HB.out hb); clear hb) | (go_at_call 35; refine (HPut.out _ (HL.out.keep HB.out)).mono ?_; rintro e' w1 ⟨rfl, hb⟩; have HB := Lib.hid (below_on HB.out hb); clear hb))
  refine (HAll.out w1 (HL.out.keep HB.out)).mono ?_
  rintro e' w2 ⟨a, c, rfl, hb⟩
  have B2w := Lib.hid (below_on (below_on HB.out hb) (below_alloc (Below.refl _ _) (.cells #[.int .i64 1, .int .i64 n, .string ⟨#[]⟩, .slice a 0 c] 49)))
  have X2 := Lib.hid (Box4.new w2 (.int .i64 1) (.int .i64 n) (.string ⟨#[]⟩) (.slice a 0 c) 49)
  clear hb HB
  go_wp2_with fail
  generalize (w2.alloc (.cells #[.int .i64 1, .int .i64 n, .string ⟨#[]⟩, .slice a 0 c] 49)) = V at B2w X2 ⊢
  refine (HDN.out _).mono ?_
  rintro e' w3 ⟨rfl, hb⟩
  have B3w := Lib.hid (below_on (below_alloc B2w.out _) hb)
  have X3 := Lib.hid (X2.out.keep (below_on (below_alloc (Below.refl _ _) _) hb))
  clear hb B2w X2
  go_wp2_with fail
  refine (HNo.out w3 (HL.out.keep B3w.out)).mono ?_
  rintro e' w4 ⟨k', n', u', a', m', c', rfl, hb⟩
  have B4w := Lib.hid (below_alloc (below_on B3w.out hb) (.cells #[.int .i64 k', .int .i64 n', .string u', .slice a' m' c'] 49))
  have X4 := Lib.hid ((X3.out.keep hb).keep (below_alloc (Below.refl _ _) (.cells #[.int .i64 k', .int .i64 n', .string u', .slice a' m' c'] 49)))
  clear hb B3w X3
  go_wp2_with fail
  generalize (w4.alloc (.cells #[.int .i64 k', .int .i64 n', .string u', .slice a' m' c'] 49)) = V2 at B4w X4 ⊢
  refine (HDM.out _).mono ?_
  rintro e' w5 ⟨rfl, hb⟩
  have B5w := Lib.hid (below_on B4w.out hb)
  obtain ⟨⟨z0, z1, z2, z3⟩, -⟩ := X4.out.keep hb
  clear hb B4w X4
  go_wp2_with fail
  go_ret
  exact ⟨rfl, B5w.out⟩
set_option maxRecDepth 100000 in
set_option maxHeartbeats 6400000 in
theorem pouchNums_2 (n lead : Int) (hj : (lead.tmod 5 + 5) % 5 = 2) (h0 : -9223372036854775808 ≤ n) (h1 : n ≤ 9223372036854775807) (w : World) (L : Laid w) : Calls Tryd.prog 14 #[.int .i64 n, .int .i64 lead] w fun e w' => e = .returned (.bool true) ∧ Below w.heap.size w w' := by
  obtain ⟨D, hD⟩ : ∃ D : ByteArray, (⟨(Lib.itoa n).toArray⟩ : ByteArray) = D := ⟨_, rfl⟩
  have hDl : Lib.itoa n = D.data.toList := by rw [← hD]
  have sD := itoa_len (v := n) ⟨h0, h1⟩
  rw [hDl, ← size_list] at sD
  have hDne : D.data.toList ≠ [] := by intro e; rw [size_list, e] at sD; simp at sD
  have HDg := Lib.hid (digits_at n D hDl h0 h1)
  obtain ⟨M, M1, M2, T, dM, cM1, cM2, cM3, hT, sT⟩ := law_text D 35 (by omega)
  have HDM := Lib.hid dM
  have hTp : T.data.toList = pPut (.mk 1 n ⟨#[]⟩ []) := by rw [pPut_num ⟨h0, h1⟩, hDl]; exact hT
  have HPut : Hid (∀ W, Laid W → Calls Tryd.prog 35 #[.agg #[.int .i64 1, .int .i64 n, .string ⟨#[]⟩, .slice none 0 0]] W fun e w' => e = .returned (.string T) ∧ Below W.heap.size W w') := Lib.hid (fun W LW => by
    have := Put_pv (flat_atO (fun _ => True) W 1 n ⟨#[]⟩ (by decide) ⟨h0, h1⟩ (by decide)).pat LW.1 (fun _ => by
      have e : pput (.mk 1 n ⟨#[]⟩ []) = wrapT (Lib.itoa n) 35 := by rw [pput_wrap]; rfl
      rw [e, hDl, ← hT, ← size_list]; exact sT)
    rw [← hTp, Lib.mk_data] at this
    exact this)
  have HAll := Lib.hid (all_flat (pAll_num (n := n) ⟨h0, h1⟩ (s := T) (by rw [hDl]; exact hT)) sT)
  obtain ⟨B0, hB0⟩ : ∃ B : ByteArray, (⟨(48 :: D.data.toList).toArray⟩ : ByteArray) = B := ⟨_, rfl⟩
  obtain ⟨B1, hB1⟩ : ∃ B : ByteArray, (⟨(43 :: D.data.toList).toArray⟩ : ByteArray) = B := ⟨_, rfl⟩
  obtain ⟨B2, hB2⟩ : ∃ B : ByteArray, (⟨(D.data.toList ++ [32]).toArray⟩ : ByteArray) = B := ⟨_, rfl⟩
  obtain ⟨B4, hB4⟩ : ∃ B : ByteArray, (⟨(D.data.toList ++ [57, 57, 57, 57, 57, 57, 57, 57, 57, 57, 57, 57, 57, 57, 57, 57, 57, 57, 57, 57]).toArray⟩ : ByteArray) = B := ⟨_, rfl⟩
  have q0 := run_cat (P := Tryd.prog) [48] D.data.toList (by rw [← size_list]; simp; omega)
  have q1 := run_cat (P := Tryd.prog) [43] D.data.toList (by rw [← size_list]; simp; omega)
  have q2 := run_cat (P := Tryd.prog) D.data.toList [32] (by rw [← size_list]; simp; omega)
  have q4 := run_cat (P := Tryd.prog) D.data.toList [57, 57, 57, 57, 57, 57, 57, 57, 57, 57, 57, 57, 57, 57, 57, 57, 57, 57, 57, 57] (by rw [← size_list]; simp; omega)
  rw [Lib.mk_data] at q0 q1 q2 q4
  have p0 : ∀ w, (Op.stringOp .add ⟨#[48]⟩ D).run Tryd.prog w = .ok (.string B0) w := fun w => by rw [← hB0]; exact q0 w
  have p1 : ∀ w, (Op.stringOp .add ⟨#[43]⟩ D).run Tryd.prog w = .ok (.string B1) w := fun w => by rw [← hB1]; exact q1 w
  have p2 : ∀ w, (Op.stringOp .add D ⟨#[32]⟩).run Tryd.prog w = .ok (.string B2) w := fun w => by rw [← hB2]; exact q2 w
  have p4 : ∀ w, (Op.stringOp .add D ⟨#[57, 57, 57, 57, 57, 57, 57, 57, 57, 57, 57, 57, 57, 57, 57, 57, 57, 57, 57, 57]⟩).run Tryd.prog w = .ok (.string B4) w := fun w => by rw [← hB4]; exact q4 w
  have bad : numP B2.data.toList = none ∧ B2.size ≤ 50 := by
    rw [← hB2]
    exact ⟨bad_space hDne, by rw [size_list]; show (D.data.toList ++ [32]).length ≤ 50; rw [List.length_append, ← size_list]; simp; omega⟩
  obtain ⟨N, N1, N2, U, dN, cN1, cN2, cN3, hU, sU⟩ := law_text B2 35 (by have := bad.2; omega)
  have HDN := Lib.hid dN
  have HNo := Lib.hid (all_none (pAll_bad bad.1 (by rw [← size_list]; have := bad.2; omega) hU) sU)
  have hrem : lead.tmod 5 < 5 ∧ -5 < lead.tmod 5 := ⟨Int.tmod_lt_of_pos lead (by decide), Int.lt_tmod_of_pos lead (by decide)⟩
  obtain ⟨t5, ht5⟩ : ∃ t, lead.tmod 5 = t := ⟨_, rfl⟩
  rw [ht5] at hj hrem
  obtain ⟨hr1, hr2⟩ := hrem
  have HL := Lib.hid L
  have HB : Hid (Below w.heap.size w w) := Lib.hid (Below.refl _ _)
  clear q0 q1 q2 q4 hB0 hB1 hB2 hB4 bad hU hT hTp hD hDl hDne dM dN L
  go_enter Tryd.func14, Tryd.ntmps14
  go_wp2_with (first | (go_at_call 19; refine (begun_any _ HL.out).mono ?_; rintro e' w1 ⟨rfl, hb⟩; have HB := Lib.hid (below_on HB.out hb); clear hb) | (go_at_call 42; refine (HDg.out _).mono ?_; rintro e' w1 ⟨rfl, hb⟩; have HB := Lib.hid (below_on HB.out hb); clear hb) | (go_at_call 35; refine (HPut.out _ (HL.out.keep HB.out)).mono ?_; rintro e' w1 ⟨rfl, hb⟩; have HB := Lib.hid (below_on HB.out hb); clear hb))
  refine (HAll.out w1 (HL.out.keep HB.out)).mono ?_
  rintro e' w2 ⟨a, c, rfl, hb⟩
  have B2w := Lib.hid (below_on (below_on HB.out hb) (below_alloc (Below.refl _ _) (.cells #[.int .i64 1, .int .i64 n, .string ⟨#[]⟩, .slice a 0 c] 49)))
  have X2 := Lib.hid (Box4.new w2 (.int .i64 1) (.int .i64 n) (.string ⟨#[]⟩) (.slice a 0 c) 49)
  clear hb HB
  go_wp2_with fail
  generalize (w2.alloc (.cells #[.int .i64 1, .int .i64 n, .string ⟨#[]⟩, .slice a 0 c] 49)) = V at B2w X2 ⊢
  refine (HDN.out _).mono ?_
  rintro e' w3 ⟨rfl, hb⟩
  have B3w := Lib.hid (below_on (below_alloc B2w.out _) hb)
  have X3 := Lib.hid (X2.out.keep (below_on (below_alloc (Below.refl _ _) _) hb))
  clear hb B2w X2
  go_wp2_with fail
  refine (HNo.out w3 (HL.out.keep B3w.out)).mono ?_
  rintro e' w4 ⟨k', n', u', a', m', c', rfl, hb⟩
  have B4w := Lib.hid (below_alloc (below_on B3w.out hb) (.cells #[.int .i64 k', .int .i64 n', .string u', .slice a' m' c'] 49))
  have X4 := Lib.hid ((X3.out.keep hb).keep (below_alloc (Below.refl _ _) (.cells #[.int .i64 k', .int .i64 n', .string u', .slice a' m' c'] 49)))
  clear hb B3w X3
  go_wp2_with fail
  generalize (w4.alloc (.cells #[.int .i64 k', .int .i64 n', .string u', .slice a' m' c'] 49)) = V2 at B4w X4 ⊢
  refine (HDM.out _).mono ?_
  rintro e' w5 ⟨rfl, hb⟩
  have B5w := Lib.hid (below_on B4w.out hb)
  obtain ⟨⟨z0, z1, z2, z3⟩, -⟩ := X4.out.keep hb
  clear hb B4w X4
  go_wp2_with fail
  go_ret
  exact ⟨rfl, B5w.out⟩
set_option maxRecDepth 100000 in
set_option maxHeartbeats 6400000 in
theorem pouchNums_3 (n lead : Int) (hj : (lead.tmod 5 + 5) % 5 = 3) (h0 : -9223372036854775808 ≤ n) (h1 : n ≤ 9223372036854775807) (w : World) (L : Laid w) : Calls Tryd.prog 14 #[.int .i64 n, .int .i64 lead] w fun e w' => e = .returned (.bool true) ∧ Below w.heap.size w w' := by
  obtain ⟨D, hD⟩ : ∃ D : ByteArray, (⟨(Lib.itoa n).toArray⟩ : ByteArray) = D := ⟨_, rfl⟩
  have hDl : Lib.itoa n = D.data.toList := by rw [← hD]
  have sD := itoa_len (v := n) ⟨h0, h1⟩
  rw [hDl, ← size_list] at sD
  have hDne : D.data.toList ≠ [] := by intro e; rw [size_list, e] at sD; simp at sD
  have HDg := Lib.hid (digits_at n D hDl h0 h1)
  obtain ⟨M, M1, M2, T, dM, cM1, cM2, cM3, hT, sT⟩ := law_text D 35 (by omega)
  have HDM := Lib.hid dM
  have hTp : T.data.toList = pPut (.mk 1 n ⟨#[]⟩ []) := by rw [pPut_num ⟨h0, h1⟩, hDl]; exact hT
  have HPut : Hid (∀ W, Laid W → Calls Tryd.prog 35 #[.agg #[.int .i64 1, .int .i64 n, .string ⟨#[]⟩, .slice none 0 0]] W fun e w' => e = .returned (.string T) ∧ Below W.heap.size W w') := Lib.hid (fun W LW => by
    have := Put_pv (flat_atO (fun _ => True) W 1 n ⟨#[]⟩ (by decide) ⟨h0, h1⟩ (by decide)).pat LW.1 (fun _ => by
      have e : pput (.mk 1 n ⟨#[]⟩ []) = wrapT (Lib.itoa n) 35 := by rw [pput_wrap]; rfl
      rw [e, hDl, ← hT, ← size_list]; exact sT)
    rw [← hTp, Lib.mk_data] at this
    exact this)
  have HAll := Lib.hid (all_flat (pAll_num (n := n) ⟨h0, h1⟩ (s := T) (by rw [hDl]; exact hT)) sT)
  obtain ⟨B0, hB0⟩ : ∃ B : ByteArray, (⟨(48 :: D.data.toList).toArray⟩ : ByteArray) = B := ⟨_, rfl⟩
  obtain ⟨B1, hB1⟩ : ∃ B : ByteArray, (⟨(43 :: D.data.toList).toArray⟩ : ByteArray) = B := ⟨_, rfl⟩
  obtain ⟨B2, hB2⟩ : ∃ B : ByteArray, (⟨(D.data.toList ++ [32]).toArray⟩ : ByteArray) = B := ⟨_, rfl⟩
  obtain ⟨B4, hB4⟩ : ∃ B : ByteArray, (⟨(D.data.toList ++ [57, 57, 57, 57, 57, 57, 57, 57, 57, 57, 57, 57, 57, 57, 57, 57, 57, 57, 57, 57]).toArray⟩ : ByteArray) = B := ⟨_, rfl⟩
  have q0 := run_cat (P := Tryd.prog) [48] D.data.toList (by rw [← size_list]; simp; omega)
  have q1 := run_cat (P := Tryd.prog) [43] D.data.toList (by rw [← size_list]; simp; omega)
  have q2 := run_cat (P := Tryd.prog) D.data.toList [32] (by rw [← size_list]; simp; omega)
  have q4 := run_cat (P := Tryd.prog) D.data.toList [57, 57, 57, 57, 57, 57, 57, 57, 57, 57, 57, 57, 57, 57, 57, 57, 57, 57, 57, 57] (by rw [← size_list]; simp; omega)
  rw [Lib.mk_data] at q0 q1 q2 q4
  have p0 : ∀ w, (Op.stringOp .add ⟨#[48]⟩ D).run Tryd.prog w = .ok (.string B0) w := fun w => by rw [← hB0]; exact q0 w
  have p1 : ∀ w, (Op.stringOp .add ⟨#[43]⟩ D).run Tryd.prog w = .ok (.string B1) w := fun w => by rw [← hB1]; exact q1 w
  have p2 : ∀ w, (Op.stringOp .add D ⟨#[32]⟩).run Tryd.prog w = .ok (.string B2) w := fun w => by rw [← hB2]; exact q2 w
  have p4 : ∀ w, (Op.stringOp .add D ⟨#[57, 57, 57, 57, 57, 57, 57, 57, 57, 57, 57, 57, 57, 57, 57, 57, 57, 57, 57, 57]⟩).run Tryd.prog w = .ok (.string B4) w := fun w => by rw [← hB4]; exact q4 w
  have bad : numP (⟨#[45, 48]⟩ : ByteArray).data.toList = none ∧ (⟨#[45, 48]⟩ : ByteArray).size ≤ 50 := by
    
    exact ⟨bad_minus, by decide⟩
  obtain ⟨N, N1, N2, U, dN, cN1, cN2, cN3, hU, sU⟩ := law_text (⟨#[45, 48]⟩ : ByteArray) 35 (by have := bad.2; omega)
  have HDN : Hid (∀ w, Calls Tryd.prog 42 #[.int .i64 2] w fun e w' => e = .returned (.string N) ∧ Below w.heap.size w w') := Lib.hid dN
  have HNo := Lib.hid (all_none (pAll_bad bad.1 (by rw [← size_list]; have := bad.2; omega) hU) sU)
  have hrem : lead.tmod 5 < 5 ∧ -5 < lead.tmod 5 := ⟨Int.tmod_lt_of_pos lead (by decide), Int.lt_tmod_of_pos lead (by decide)⟩
  obtain ⟨t5, ht5⟩ : ∃ t, lead.tmod 5 = t := ⟨_, rfl⟩
  rw [ht5] at hj hrem
  obtain ⟨hr1, hr2⟩ := hrem
  have HL := Lib.hid L
  have HB : Hid (Below w.heap.size w w) := Lib.hid (Below.refl _ _)
  clear q0 q1 q2 q4 hB0 hB1 hB2 hB4 bad hU hT hTp hD hDl hDne dM dN L
  go_enter Tryd.func14, Tryd.ntmps14
  go_wp2_with (first | (go_at_call 19; refine (begun_any _ HL.out).mono ?_; rintro e' w1 ⟨rfl, hb⟩; have HB := Lib.hid (below_on HB.out hb); clear hb) | (go_at_call 42; refine (HDg.out _).mono ?_; rintro e' w1 ⟨rfl, hb⟩; have HB := Lib.hid (below_on HB.out hb); clear hb) | (go_at_call 35; refine (HPut.out _ (HL.out.keep HB.out)).mono ?_; rintro e' w1 ⟨rfl, hb⟩; have HB := Lib.hid (below_on HB.out hb); clear hb))
  refine (HAll.out w1 (HL.out.keep HB.out)).mono ?_
  rintro e' w2 ⟨a, c, rfl, hb⟩
  have B2w := Lib.hid (below_on (below_on HB.out hb) (below_alloc (Below.refl _ _) (.cells #[.int .i64 1, .int .i64 n, .string ⟨#[]⟩, .slice a 0 c] 49)))
  have X2 := Lib.hid (Box4.new w2 (.int .i64 1) (.int .i64 n) (.string ⟨#[]⟩) (.slice a 0 c) 49)
  clear hb HB
  go_wp2_with fail
  generalize (w2.alloc (.cells #[.int .i64 1, .int .i64 n, .string ⟨#[]⟩, .slice a 0 c] 49)) = V at B2w X2 ⊢
  refine (HDN.out _).mono ?_
  rintro e' w3 ⟨rfl, hb⟩
  have B3w := Lib.hid (below_on (below_alloc B2w.out _) hb)
  have X3 := Lib.hid (X2.out.keep (below_on (below_alloc (Below.refl _ _) _) hb))
  clear hb B2w X2
  go_wp2_with fail
  refine (HNo.out w3 (HL.out.keep B3w.out)).mono ?_
  rintro e' w4 ⟨k', n', u', a', m', c', rfl, hb⟩
  have B4w := Lib.hid (below_alloc (below_on B3w.out hb) (.cells #[.int .i64 k', .int .i64 n', .string u', .slice a' m' c'] 49))
  have X4 := Lib.hid ((X3.out.keep hb).keep (below_alloc (Below.refl _ _) (.cells #[.int .i64 k', .int .i64 n', .string u', .slice a' m' c'] 49)))
  clear hb B3w X3
  go_wp2_with fail
  generalize (w4.alloc (.cells #[.int .i64 k', .int .i64 n', .string u', .slice a' m' c'] 49)) = V2 at B4w X4 ⊢
  refine (HDM.out _).mono ?_
  rintro e' w5 ⟨rfl, hb⟩
  have B5w := Lib.hid (below_on B4w.out hb)
  obtain ⟨⟨z0, z1, z2, z3⟩, -⟩ := X4.out.keep hb
  clear hb B4w X4
  go_wp2_with fail
  go_ret
  exact ⟨rfl, B5w.out⟩
set_option maxRecDepth 100000 in
set_option maxHeartbeats 6400000 in
theorem pouchNums_4 (n lead : Int) (hj : (lead.tmod 5 + 5) % 5 = 4) (h0 : -9223372036854775808 ≤ n) (h1 : n ≤ 9223372036854775807) (w : World) (L : Laid w) : Calls Tryd.prog 14 #[.int .i64 n, .int .i64 lead] w fun e w' => e = .returned (.bool true) ∧ Below w.heap.size w w' := by
  obtain ⟨D, hD⟩ : ∃ D : ByteArray, (⟨(Lib.itoa n).toArray⟩ : ByteArray) = D := ⟨_, rfl⟩
  have hDl : Lib.itoa n = D.data.toList := by rw [← hD]
  have sD := itoa_len (v := n) ⟨h0, h1⟩
  rw [hDl, ← size_list] at sD
  have hDne : D.data.toList ≠ [] := by intro e; rw [size_list, e] at sD; simp at sD
  have HDg := Lib.hid (digits_at n D hDl h0 h1)
  obtain ⟨M, M1, M2, T, dM, cM1, cM2, cM3, hT, sT⟩ := law_text D 35 (by omega)
  have HDM := Lib.hid dM
  have hTp : T.data.toList = pPut (.mk 1 n ⟨#[]⟩ []) := by rw [pPut_num ⟨h0, h1⟩, hDl]; exact hT
  have HPut : Hid (∀ W, Laid W → Calls Tryd.prog 35 #[.agg #[.int .i64 1, .int .i64 n, .string ⟨#[]⟩, .slice none 0 0]] W fun e w' => e = .returned (.string T) ∧ Below W.heap.size W w') := Lib.hid (fun W LW => by
    have := Put_pv (flat_atO (fun _ => True) W 1 n ⟨#[]⟩ (by decide) ⟨h0, h1⟩ (by decide)).pat LW.1 (fun _ => by
      have e : pput (.mk 1 n ⟨#[]⟩ []) = wrapT (Lib.itoa n) 35 := by rw [pput_wrap]; rfl
      rw [e, hDl, ← hT, ← size_list]; exact sT)
    rw [← hTp, Lib.mk_data] at this
    exact this)
  have HAll := Lib.hid (all_flat (pAll_num (n := n) ⟨h0, h1⟩ (s := T) (by rw [hDl]; exact hT)) sT)
  obtain ⟨B0, hB0⟩ : ∃ B : ByteArray, (⟨(48 :: D.data.toList).toArray⟩ : ByteArray) = B := ⟨_, rfl⟩
  obtain ⟨B1, hB1⟩ : ∃ B : ByteArray, (⟨(43 :: D.data.toList).toArray⟩ : ByteArray) = B := ⟨_, rfl⟩
  obtain ⟨B2, hB2⟩ : ∃ B : ByteArray, (⟨(D.data.toList ++ [32]).toArray⟩ : ByteArray) = B := ⟨_, rfl⟩
  obtain ⟨B4, hB4⟩ : ∃ B : ByteArray, (⟨(D.data.toList ++ [57, 57, 57, 57, 57, 57, 57, 57, 57, 57, 57, 57, 57, 57, 57, 57, 57, 57, 57, 57]).toArray⟩ : ByteArray) = B := ⟨_, rfl⟩
  have q0 := run_cat (P := Tryd.prog) [48] D.data.toList (by rw [← size_list]; simp; omega)
  have q1 := run_cat (P := Tryd.prog) [43] D.data.toList (by rw [← size_list]; simp; omega)
  have q2 := run_cat (P := Tryd.prog) D.data.toList [32] (by rw [← size_list]; simp; omega)
  have q4 := run_cat (P := Tryd.prog) D.data.toList [57, 57, 57, 57, 57, 57, 57, 57, 57, 57, 57, 57, 57, 57, 57, 57, 57, 57, 57, 57] (by rw [← size_list]; simp; omega)
  rw [Lib.mk_data] at q0 q1 q2 q4
  have p0 : ∀ w, (Op.stringOp .add ⟨#[48]⟩ D).run Tryd.prog w = .ok (.string B0) w := fun w => by rw [← hB0]; exact q0 w
  have p1 : ∀ w, (Op.stringOp .add ⟨#[43]⟩ D).run Tryd.prog w = .ok (.string B1) w := fun w => by rw [← hB1]; exact q1 w
  have p2 : ∀ w, (Op.stringOp .add D ⟨#[32]⟩).run Tryd.prog w = .ok (.string B2) w := fun w => by rw [← hB2]; exact q2 w
  have p4 : ∀ w, (Op.stringOp .add D ⟨#[57, 57, 57, 57, 57, 57, 57, 57, 57, 57, 57, 57, 57, 57, 57, 57, 57, 57, 57, 57]⟩).run Tryd.prog w = .ok (.string B4) w := fun w => by rw [← hB4]; exact q4 w
  have bad : numP B4.data.toList = none ∧ B4.size ≤ 50 := by
    rw [← hB4]
    exact ⟨bad_long (by show 20 < (D.data.toList ++ [57, 57, 57, 57, 57, 57, 57, 57, 57, 57, 57, 57, 57, 57, 57, 57, 57, 57, 57, 57]).length; rw [List.length_append, ← size_list]; simp; omega), by rw [size_list]; show (D.data.toList ++ [57, 57, 57, 57, 57, 57, 57, 57, 57, 57, 57, 57, 57, 57, 57, 57, 57, 57, 57, 57]).length ≤ 50; rw [List.length_append, ← size_list]; simp; omega⟩
  obtain ⟨N, N1, N2, U, dN, cN1, cN2, cN3, hU, sU⟩ := law_text B4 35 (by have := bad.2; omega)
  have HDN := Lib.hid dN
  have HNo := Lib.hid (all_none (pAll_bad bad.1 (by rw [← size_list]; have := bad.2; omega) hU) sU)
  have hrem : lead.tmod 5 < 5 ∧ -5 < lead.tmod 5 := ⟨Int.tmod_lt_of_pos lead (by decide), Int.lt_tmod_of_pos lead (by decide)⟩
  obtain ⟨t5, ht5⟩ : ∃ t, lead.tmod 5 = t := ⟨_, rfl⟩
  rw [ht5] at hj hrem
  obtain ⟨hr1, hr2⟩ := hrem
  have HL := Lib.hid L
  have HB : Hid (Below w.heap.size w w) := Lib.hid (Below.refl _ _)
  clear q0 q1 q2 q4 hB0 hB1 hB2 hB4 bad hU hT hTp hD hDl hDne dM dN L
  go_enter Tryd.func14, Tryd.ntmps14
  go_wp2_with (first | (go_at_call 19; refine (begun_any _ HL.out).mono ?_; rintro e' w1 ⟨rfl, hb⟩; have HB := Lib.hid (below_on HB.out hb); clear hb) | (go_at_call 42; refine (HDg.out _).mono ?_; rintro e' w1 ⟨rfl, hb⟩; have HB := Lib.hid (below_on HB.out hb); clear hb) | (go_at_call 35; refine (HPut.out _ (HL.out.keep HB.out)).mono ?_; rintro e' w1 ⟨rfl, hb⟩; have HB := Lib.hid (below_on HB.out hb); clear hb))
  refine (HAll.out w1 (HL.out.keep HB.out)).mono ?_
  rintro e' w2 ⟨a, c, rfl, hb⟩
  have B2w := Lib.hid (below_on (below_on HB.out hb) (below_alloc (Below.refl _ _) (.cells #[.int .i64 1, .int .i64 n, .string ⟨#[]⟩, .slice a 0 c] 49)))
  have X2 := Lib.hid (Box4.new w2 (.int .i64 1) (.int .i64 n) (.string ⟨#[]⟩) (.slice a 0 c) 49)
  clear hb HB
  go_wp2_with fail
  generalize (w2.alloc (.cells #[.int .i64 1, .int .i64 n, .string ⟨#[]⟩, .slice a 0 c] 49)) = V at B2w X2 ⊢
  refine (HDN.out _).mono ?_
  rintro e' w3 ⟨rfl, hb⟩
  have B3w := Lib.hid (below_on (below_alloc B2w.out _) hb)
  have X3 := Lib.hid (X2.out.keep (below_on (below_alloc (Below.refl _ _) _) hb))
  clear hb B2w X2
  go_wp2_with fail
  refine (HNo.out w3 (HL.out.keep B3w.out)).mono ?_
  rintro e' w4 ⟨k', n', u', a', m', c', rfl, hb⟩
  have B4w := Lib.hid (below_alloc (below_on B3w.out hb) (.cells #[.int .i64 k', .int .i64 n', .string u', .slice a' m' c'] 49))
  have X4 := Lib.hid ((X3.out.keep hb).keep (below_alloc (Below.refl _ _) (.cells #[.int .i64 k', .int .i64 n', .string u', .slice a' m' c'] 49)))
  clear hb B3w X3
  go_wp2_with fail
  generalize (w4.alloc (.cells #[.int .i64 k', .int .i64 n', .string u', .slice a' m' c'] 49)) = V2 at B4w X4 ⊢
  refine (HDM.out _).mono ?_
  rintro e' w5 ⟨rfl, hb⟩
  have B5w := Lib.hid (below_on B4w.out hb)
  obtain ⟨⟨z0, z1, z2, z3⟩, -⟩ := X4.out.keep hb
  clear hb B4w X4
  go_wp2_with fail
  go_ret
  exact ⟨rfl, B5w.out⟩
theorem pouchNums_walk (n lead : Int) (h0 : -9223372036854775808 ≤ n) (h1 : n ≤ 9223372036854775807) (w : World) (L : Laid w) : Calls Tryd.prog 14 #[.int .i64 n, .int .i64 lead] w fun e w' => e = .returned (.bool true) ∧ Below w.heap.size w w' := by
  have h5 : (lead.tmod 5 + 5) % 5 = 0 ∨ (lead.tmod 5 + 5) % 5 = 1 ∨ (lead.tmod 5 + 5) % 5 = 2 ∨ (lead.tmod 5 + 5) % 5 = 3 ∨ (lead.tmod 5 + 5) % 5 = 4 := by omega
  rcases h5 with q | q | q | q | q
  · exact pouchNums_0 n lead q h0 h1 w L
  · exact pouchNums_1 n lead q h0 h1 w L
  · exact pouchNums_2 n lead q h0 h1 w L
  · exact pouchNums_3 n lead q h0 h1 w L
  · exact pouchNums_4 n lead q h0 h1 w L
end Go.Proofs.YtchfphhelafbbaaDoor

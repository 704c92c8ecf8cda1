/- PouchAny: the walk. -/
import Derived.Test.YthbbfdlacclccaaDoorTe
import Derived.Test.YthbbfdlacclccaaDoorTb
namespace Go.Proofs.YthbbfdlacclccaaDoor
open Go.RowKit

theorem pPut_small {x : PV} (hf : fits x) (hb : pbulk x ≤ 1048576) : (pput x).length ≤ 67108864 ∧ (pPut x).length ≤ 67108864 := by
  have h := pput_le x hf (by omega)
  refine ⟨by omega, ?_⟩
  unfold pPut
  split
  · omega
  · exact Nat.zero_le _
theorem cut_q (s A : ByteArray) (hA : Hid (cutS s 60 = A)) (w : World) (hs : s.size ≤ 9223372036854775807) :
    Calls Tryd.prog 11 #[.string s, .int .i64 60] w fun e w' => e = .returned (.string A) ∧ w = w' := by
  rw [← hA.out]
  exact cut_any s 60 w hs (by decide)
/-- What the law's last region reads: the turned bytes, the argument's box, the value's box. -/
def AnyS (g : Nat) (cs : List Value) (p q : Nat) (c0 c1 c2 c3 d0 d1 d2 d3 : Value) (U : World) : Prop := RowAt U (some ⟨g, 0, none⟩) cs ∧ BoxS p c0 c1 c2 c3 U ∧ BoxS q d0 d1 d2 d3 U
theorem AnyS.keep {g : Nat} {cs : List Value} {p q : Nat} {c0 c1 c2 c3 d0 d1 d2 d3 : Value} {U U' : World} (h : AnyS g cs p q c0 c1 c2 c3 d0 d1 d2 d3 U) (hb : Below U.heap.size U U') : AnyS g cs p q c0 c1 c2 c3 d0 d1 d2 d3 U' :=
  ⟨h.1.below hb (Nat.le_refl _), h.2.1.keep hb, h.2.2.keep hb⟩

set_option maxRecDepth 100000 in
set_option maxHeartbeats 6400000 in
theorem pouchAny_empty (s : ByteArray) {x : PV} {v : Value} (m : Int) (y : UInt8) {w : World} (h : PAt w x v) (hf : fits x) (hbk : pbulk x ≤ 1048576) (hs : s.size ≤ 9223372036854775807) (L : Laid w) (hne : pPut x = []) :
    Calls Tryd.prog 4 #[.string s, v, .int .i64 m, .int .u8 (y.toNat : Int)] w fun e w' => e = .returned (.bool true) ∧ Below w.heap.size w w' := by
  obtain ⟨k1, n1, s1, a1, m1, c1, rfl⟩ := h.form
  obtain ⟨A, hA⟩ : ∃ A, Hid (cutS s 60 = A) := ⟨_, Lib.hid rfl⟩
  have sA : A.size ≤ 60 := by rw [← hA.out, cutS_size]; omega
  have hsm := pPut_small hf hbk
  obtain ⟨P, hP⟩ : ∃ P : ByteArray, (⟨(pPut x).toArray⟩ : ByteArray) = P := ⟨_, rfl⟩
  have hPl : P.data.toList = pPut x := by rw [← hP]
  have sP : P.size ≤ 67108864 := by rw [size_list, hPl]; exact hsm.2
  have HLen : Hid (pmay x = true → (pput x).length ≤ 140737488355328) := Lib.hid (fun _ => by omega)
  have HPe := Lib.hid hP
  have HL := Lib.hid L
  have HBk := Lib.hid (fun W hb => back_any h W hb hbk)
  have HB : Hid (Below w.heap.size w (w.alloc (.cells #[.int .i64 k1, .int .i64 n1, .string s1, .slice a1 m1 c1] 30))) := Lib.hid (below_alloc (Below.refl _ _) _)
  have X0 := Lib.hid ((Box4.new w (.int .i64 k1) (.int .i64 n1) (.string s1) (.slice a1 m1 c1) 30).1)
  have he : P.toList.isEmpty = true := by rw [Lib.toList_data, hPl, hne]; rfl
  clear hP hPl hsm hne hf hbk h L
  go_enter Tryd.func4, Tryd.ntmps4
  go_wp2_with (first | (go_at_call 5; refine (begun_any _ (HL.out.keep HB.out)).mono ?_; rintro e' w1 ⟨rfl, hb⟩; have HB1 := Lib.hid (below_on HB.out hb); have X1 : Hid (BoxS w.heap.size (.int .i64 k1) (.int .i64 n1) (.string s1) (.slice a1 m1 c1) w1) := Lib.hid (BoxS.keep X0.out hb); obtain ⟨x0, x1, x2, x3⟩ := X1.out; clear hb) | (go_at_call 11; refine (cut_q s A hA _ hs).mono ?_; rintro e' w' ⟨rfl, rfl⟩) | (go_at_call 7; refine (HBk.out _ HB1.out).mono ?_; rintro e' w2 ⟨v2, rfl, hp, hb⟩; obtain ⟨k2, n2, s2, a2, m2, c2, rfl⟩ := hp.form; have HB2 := Lib.hid (below_on HB1.out hb); have X2 := Lib.hid (X1.out.keep hb); have P2 := Lib.hid hp.pat; clear hp hb) | (go_at_call 6; refine (Put_pv P2.out (HL.out.keep HB2.out).1 HLen.out).mono ?_; rw [HPe.out]; rintro e' w3 ⟨rfl, hb⟩; have HB3 := Lib.hid (below_on HB2.out hb); have X3 := Lib.hid (X2.out.keep hb); clear hb x0 x1 x2 x3) | (go_at_call 12; refine (tells_any A _ (HL.out.keep HB3.out) (by omega)).mono ?_; rintro e' w4 ⟨rfl, hb⟩; have HB3 := Lib.hid (below_on HB3.out hb); have X3 := Lib.hid (X3.out.keep hb); clear hb))
  go_ret
  exact ⟨rfl, HB3.out⟩
set_option maxRecDepth 100000 in
set_option maxHeartbeats 6400000 in
theorem pouchAny_neg (s : ByteArray) {x : PV} {v : Value} (m : Int) (hm : m < 0) (y : UInt8) {w : World} (h : PAt w x v) (hf : fits x) (hbk : pbulk x ≤ 1048576) (hs : s.size ≤ 9223372036854775807) (L : Laid w) (hne : pPut x ≠ []) :
    Calls Tryd.prog 4 #[.string s, v, .int .i64 m, .int .u8 (y.toNat : Int)] w fun e w' => e = .returned (.bool true) ∧ Below w.heap.size w w' := by
  obtain ⟨k1, n1, s1, a1, m1, c1, rfl⟩ := h.form
  obtain ⟨A, hA⟩ : ∃ A, Hid (cutS s 60 = A) := ⟨_, Lib.hid rfl⟩
  have sA : A.size ≤ 60 := by rw [← hA.out, cutS_size]; omega
  have hsm := pPut_small hf hbk
  obtain ⟨P, hP⟩ : ∃ P : ByteArray, (⟨(pPut x).toArray⟩ : ByteArray) = P := ⟨_, rfl⟩
  have hPl : P.data.toList = pPut x := by rw [← hP]
  have sP : P.size ≤ 67108864 := by rw [size_list, hPl]; exact hsm.2
  have HLen : Hid (pmay x = true → (pput x).length ≤ 140737488355328) := Lib.hid (fun _ => by omega)
  have HPe := Lib.hid hP
  have HL := Lib.hid L
  have HBk := Lib.hid (fun W hb => back_any h W hb hbk)
  have HB : Hid (Below w.heap.size w (w.alloc (.cells #[.int .i64 k1, .int .i64 n1, .string s1, .slice a1 m1 c1] 30))) := Lib.hid (below_alloc (Below.refl _ _) _)
  have X0 := Lib.hid ((Box4.new w (.int .i64 k1) (.int .i64 n1) (.string s1) (.slice a1 m1 c1) 30).1)
  have he : P.toList.isEmpty = false := by rw [Lib.toList_data, hPl, List.isEmpty_eq_false_iff]; exact hne
  have d1 : decide (m < 0) = true := decide_eq_true hm
  clear hP hPl hsm hne hf hbk h L hm
  go_enter Tryd.func4, Tryd.ntmps4
  go_wp2_with (first | (go_at_call 5; refine (begun_any _ (HL.out.keep HB.out)).mono ?_; rintro e' w1 ⟨rfl, hb⟩; have HB1 := Lib.hid (below_on HB.out hb); have X1 : Hid (BoxS w.heap.size (.int .i64 k1) (.int .i64 n1) (.string s1) (.slice a1 m1 c1) w1) := Lib.hid (BoxS.keep X0.out hb); obtain ⟨x0, x1, x2, x3⟩ := X1.out; clear hb) | (go_at_call 11; refine (cut_q s A hA _ hs).mono ?_; rintro e' w' ⟨rfl, rfl⟩) | (go_at_call 7; refine (HBk.out _ HB1.out).mono ?_; rintro e' w2 ⟨v2, rfl, hp, hb⟩; obtain ⟨k2, n2, s2, a2, m2, c2, rfl⟩ := hp.form; have HB2 := Lib.hid (below_on HB1.out hb); have X2 := Lib.hid (X1.out.keep hb); have P2 := Lib.hid hp.pat; clear hp hb) | (go_at_call 6; refine (Put_pv P2.out (HL.out.keep HB2.out).1 HLen.out).mono ?_; rw [HPe.out]; rintro e' w3 ⟨rfl, hb⟩; have HB3 := Lib.hid (below_on HB2.out hb); have X3 := Lib.hid (X2.out.keep hb); clear hb x0 x1 x2 x3) | (go_at_call 12; refine (tells_any A _ (HL.out.keep HB3.out) (by omega)).mono ?_; rintro e' w4 ⟨rfl, hb⟩; have HB3 := Lib.hid (below_on HB3.out hb); have X3 := Lib.hid (X3.out.keep hb); clear hb))
  go_ret
  exact ⟨rfl, HB3.out⟩
set_option maxRecDepth 100000 in
set_option maxHeartbeats 6400000 in
theorem pouchAny_good (s : ByteArray) {x : PV} {v : Value} (m : Nat) (hm : m ≤ 9223372036854775807) (y : UInt8) {w : World} (h : PAt w x v) (hf : fits x) (hbk : pbulk x ≤ 1048576) (hs : s.size ≤ 9223372036854775807) (L : Laid w) (hne : pPut x ≠ []) :
    Calls Tryd.prog 4 #[.string s, v, .int .i64 (m : Int), .int .u8 (y.toNat : Int)] w fun e w' => e = .returned (.bool true) ∧ Below w.heap.size w w' := by
  obtain ⟨k1, n1, s1, a1, m1, c1, rfl⟩ := h.form
  obtain ⟨A, hA⟩ : ∃ A, Hid (cutS s 60 = A) := ⟨_, Lib.hid rfl⟩
  have sA : A.size ≤ 60 := by rw [← hA.out, cutS_size]; omega
  have hsm := pPut_small hf hbk
  obtain ⟨P, hP⟩ : ∃ P : ByteArray, (⟨(pPut x).toArray⟩ : ByteArray) = P := ⟨_, rfl⟩
  have hPl : P.data.toList = pPut x := by rw [← hP]
  have sP : P.size ≤ 67108864 := by rw [size_list, hPl]; exact hsm.2
  have HLen : Hid (pmay x = true → (pput x).length ≤ 140737488355328) := Lib.hid (fun _ => by omega)
  have HPe := Lib.hid hP
  have HL := Lib.hid L
  have HBk := Lib.hid (fun W hb => back_any h W hb hbk)
  have HB : Hid (Below w.heap.size w (w.alloc (.cells #[.int .i64 k1, .int .i64 n1, .string s1, .slice a1 m1 c1] 30))) := Lib.hid (below_alloc (Below.refl _ _) _)
  have X0 := Lib.hid ((Box4.new w (.int .i64 k1) (.int .i64 n1) (.string s1) (.slice a1 m1 c1) 30).1)
  have he : P.toList.isEmpty = false := by rw [Lib.toList_data, hPl, List.isEmpty_eq_false_iff]; exact hne
  have sP1 : 1 ≤ P.size := by
    rw [size_list, hPl]
    exact List.length_pos_iff.2 hne
  have d1 : decide ((m : Int) < 0) = false := decide_eq_false (by omega)
  have d2 : ((P.size : Int) == 0) = false := by rw [beq_eq_false_iff_ne]; omega
  have d2n : (P.size == 0) = false := by rw [beq_eq_false_iff_ne]; omega
  obtain ⟨k, hk⟩ : ∃ k, m % P.size = k := ⟨_, rfl⟩
  have hkP : k < P.size := by rw [← hk]; exact Nat.mod_lt _ (by omega)
  have hkl : k < P.data.toList.length := by rw [← size_list]; exact hkP
  have hkP' : (k : Int) < (P.size : Int) := by omega
  have hrem : (m : Int) % (P.size : Int) = (k : Int) := by rw [← hk]; rfl
  have hremt : (m : Int).tmod (P.size : Int) = (k : Int) := by rw [Int.tmod_eq_emod_of_nonneg (by omega)]; exact hrem
  have hwk : IntKind.i64.wrap (k : Int) = (k : Int) := IntWalk.i64_in _ (by omega)
  obtain ⟨z, hz⟩ : ∃ z, P.data.toList[k] = z := ⟨_, rfl⟩
  have hcell := fun w => bw_cell w P k hkl
  have hfz := fun w => bw_frozen w P k hkP
  have hxor := xor_u8 z y
  rw [hz] at hcell
  have hrow := fun w => row_set hkl (z ^^^ y) (bw_row w P)
  rw [UInt8.toNat_xor] at hrow
  have HRW := Lib.hid hrow
  have HLn := Lib.hid (show (P.data.toList.set k (z ^^^ y)).length = P.size by rw [List.length_set, ← size_list])
  obtain ⟨T2, hT2⟩ : ∃ T2 : ByteArray, (⟨(P.data.toList ++ A.data.toList).toArray⟩ : ByteArray) = T2 := ⟨_, rfl⟩
  have hcat := run_catS (P := Tryd.prog) P A (by omega)
  rw [hT2] at hcat
  have sT2 : T2.size ≤ 67108924 := by rw [size_list, ← hT2]; show (P.data.toList ++ A.data.toList).length ≤ _; rw [List.length_append, ← size_list, ← size_list]; omega
  have HGt := Lib.hid (fun W (L : Laid W) => Get_any T2 W L (by omega))
  rw [show pGet T2 = (x, P.size, 0) by
    rw [pGet_put hf hne (rest := A.data.toList) (by rw [← hT2, ← hPl]), ← hPl, ← size_list]] at HGt
  have kc := run_bytes'
  have HQ := Lib.hid (show peq x x = true from (peq_iff x x).2 rfl)
  have HSP := Lib.hid sP1
  clear hP hPl hsm hne hf hbk h L hrow hT2 hk hkl hz sP1
  go_enter Tryd.func4, Tryd.ntmps4
  go_upto_region 9 with (first | (go_at_call 5; refine (begun_any _ (HL.out.keep HB.out)).mono ?_; rintro e' w1 ⟨rfl, hb⟩; have HB1 := Lib.hid (below_on HB.out hb); have X1 : Hid (BoxS w.heap.size (.int .i64 k1) (.int .i64 n1) (.string s1) (.slice a1 m1 c1) w1) := Lib.hid (BoxS.keep X0.out hb); obtain ⟨x0, x1, x2, x3⟩ := X1.out; clear hb) | (go_at_call 11; refine (cut_q s A hA _ hs).mono ?_; rintro e' w' ⟨rfl, rfl⟩) | (go_at_call 7; refine (HBk.out _ HB1.out).mono ?_; rintro e' w2 ⟨v2, rfl, hp, hb⟩; obtain ⟨k2, n2, s2, a2, m2, c2, rfl⟩ := hp.form; have HB2 := Lib.hid (below_on HB1.out hb); have X2 := Lib.hid (X1.out.keep hb); have P2 := Lib.hid hp.pat; clear hp hb) | (go_at_call 6; refine (Put_pv P2.out (HL.out.keep HB2.out).1 HLen.out).mono ?_; rw [HPe.out]; rintro e' w3 ⟨rfl, hb⟩; have HB3 := Lib.hid (below_on HB2.out hb); have X3 := Lib.hid (X2.out.keep hb); clear hb x0 x1 x2 x3) | (go_at_call 12; refine (tells_any A _ (HL.out.keep HB3.out) (by omega)).mono ?_; rintro e' w4 ⟨rfl, hb⟩; have HB3 := Lib.hid (below_on HB3.out hb); have X3 := Lib.hid (X3.out.keep hb); clear hb))
  go_upto_region 10 with fail
  have HR2 := Lib.hid (HRW.out w4)
  have hB4 : Below w4.heap.size w4 ((bw w4 P).setCell ⟨w4.heap.size, k, none⟩ (.int .u8 ((z.toNat ^^^ y.toNat : Nat) : Int))) := (bw_below w4 P).setCell (p := ⟨w4.heap.size, k, none⟩) (Nat.le_refl _) _
  have HB4 := Lib.hid (below_on HB3.out hB4)
  have X4 := Lib.hid (X3.out.keep hB4)
  clear hB4 hcell hfz HRW HB3 X3 HB1 HB2 X1 X2
  generalize (bw w4 P).setCell ⟨w4.heap.size, k, none⟩ (.int .u8 ((z.toNat ^^^ y.toNat : Nat) : Int)) = V2 at HR2 HB4 X4 ⊢
  generalize gc w4 P = cg at HR2 HB4 X4 ⊢
  generalize w4.heap.size = g at HR2 HB4 X4 ⊢
  go_upto_region 11 with (go_at_call 8; refine (HGt.out _ (HL.out.keep HB4.out)).mono ?_; rintro e' w5 ⟨v3, hp, rfl, hb⟩; obtain ⟨k3, n3, s3, a3, m3, c3, rfl⟩ := hp.form; have B5 := Lib.hid (below_alloc (below_on HB4.out hb) (.cells #[.int .i64 k3, .int .i64 n3, .string s3, .slice a3 m3 c3] 27)); have R5 := Lib.hid ((HR2.out.below hb (Nat.le_refl _)).below (below_alloc (Below.refl _ _) (.cells #[.int .i64 k3, .int .i64 n3, .string s3, .slice a3 m3 c3] 27)) (Nat.le_refl _)); have X5 := Lib.hid ((X4.out.keep hb).keep (below_alloc (Below.refl _ _) (.cells #[.int .i64 k3, .int .i64 n3, .string s3, .slice a3 m3 c3] 27))); have Y5 := Lib.hid ((Box4.new w5 (.int .i64 k3) (.int .i64 n3) (.string s3) (.slice a3 m3 c3) 27).1); have P5 := Lib.hid (hp.pat.keep (below_alloc (Below.refl _ _) (.cells #[.int .i64 k3, .int .i64 n3, .string s3, .slice a3 m3 c3] 27))); clear hp hb)
  generalize w5.alloc (.cells #[.int .i64 k3, .int .i64 n3, .string s3, .slice a3 m3 c3] 27) = V5 at B5 R5 X5 Y5 P5 ⊢
  generalize w5.heap.size = q at Y5 ⊢
  have hD : Below V5.heap.size V5 V5.drew := Below.drew (Below.refl _ _)
  have B6 := Lib.hid (below_on B5.out hD)
  have S6 : Hid (AnyS g (Lib.byteCells (P.data.toList.set k (z ^^^ y))) w.heap.size q (.int .i64 k1) (.int .i64 n1) (.string s1) (.slice a1 m1 c1) (.int .i64 k3) (.int .i64 n3) (.string s3) (.slice a3 m3 c3) V5.drew) := Lib.hid ⟨R5.out.below hD (Nat.le_refl _), X5.out.keep hD, BoxS.keep Y5.out hD⟩
  have P6 := Lib.hid (P5.out.keep hD)
  obtain ⟨U, hU⟩ : ∃ U : ByteArray, (⟨(P.data.toList.set k (z ^^^ y)).toArray⟩ : ByteArray) = U := ⟨_, rfl⟩
  have sU : U.size ≤ 67108864 := by rw [size_list, ← hU]; show (P.data.toList.set k (z ^^^ y)).length ≤ _; rw [HLn.out]; exact sP
  have HU := Lib.hid hU
  clear hD B5 R5 X5 Y5 P5 hU HR2 HB4 X4
  refine wp_region_held_drew (S := AnyS g (Lib.byteCells (P.data.toList.set k (z ^^^ y))) w.heap.size q (.int .i64 k1) (.int .i64 n1) (.string s1) (.slice a1 m1 c1) (.int .i64 k3) (.int .i64 n3) (.string s3) (.slice a3 m3 c3)) (by kernel_rfl) S6.out (fun hHeld => ?_)
  generalize V5.drew = wd at B6 S6 P6 hHeld ⊢
  refine wpAnyH_take (i := 0) (v := ?_) rfl (by kernel_rfl) (by kernel_rfl) (by kernel_rfl) (fun _ _ _ h => h) (Or.inl ⟨by kernel_rfl, ?_⟩) (by assumption) ?_
  rotate_left
  · intro w hSw
    obtain ⟨-, ⟨hS0, hS1, hS2, hS3⟩, hT0, hT1, hT2, hT3⟩ := hSw
    go_simp
    all_goals with_reducible rfl
  simp only [Act.put, List.getElem_toArray, List.getElem_cons_zero, List.getElem_cons_succ, List.setIfInBounds_toArray, List.set_cons_zero, List.set_cons_succ]
  refine wpAnyH_ready (rs := [1]) (by kernel_rfl) (by simp) ?_
  refine AllReadyH.cons rfl (fun K hK => ?_) AllReadyH.nil
  have hconv : (convert 39 9 (.slice (some ⟨g, 0, none⟩) P.size cg)).run Tryd.prog wd = .ok (.string U) wd := by rw [← HU.out]; exact run_bytes_str _ S6.out.1 HLn.out
  go_simp
  try rw [hconv]
  go_simp
  refine hK.out _ _ S6.out (fun hHeld => ?_)
  clear hK K
  try simp only [Act.put, List.setIfInBounds_toArray, List.set_cons_zero, List.set_cons_succ]
  clear hconv
  refine wpAnyH_ready (rs := [2]) (by kernel_rfl) (by simp) ?_
  refine AllReadyH.cons rfl (fun K hK => ?_) AllReadyH.nil
  go_simp
  go_at_call 12
  refine (tells_any U _ (HL.out.keep B6.out) (by omega)).mono ?_
  rintro e' w7 ⟨rfl, hb⟩
  have B7 := Lib.hid (below_on B6.out hb)
  have S7 := Lib.hid (S6.out.keep hb)
  have P7 := Lib.hid (P6.out.keep hb)
  clear hb
  refine hK.out _ _ S7.out (fun hHeld => ?_)
  clear hK K
  try simp only [Act.put, List.setIfInBounds_toArray, List.set_cons_zero, List.set_cons_succ]
  refine wpAnyH_take (i := 3) (v := ?_) rfl (by kernel_rfl) (by kernel_rfl) (by kernel_rfl) (fun _ _ _ h => h) (Or.inl ⟨by kernel_rfl, ?_⟩) (by assumption) ?_
  rotate_left
  · intro w hSw
    obtain ⟨-, ⟨hS0, hS1, hS2, hS3⟩, hT0, hT1, hT2, hT3⟩ := hSw
    go_simp
    all_goals with_reducible rfl
  simp only [Act.put, List.getElem_toArray, List.getElem_cons_zero, List.getElem_cons_succ, List.setIfInBounds_toArray, List.set_cons_zero, List.set_cons_succ]
  refine wpAnyH_take (i := 4) (v := ?_) rfl (by kernel_rfl) (by kernel_rfl) (by kernel_rfl) (fun _ _ _ h => h) (Or.inl ⟨by kernel_rfl, ?_⟩) (by assumption) ?_
  rotate_left
  · intro w hSw
    obtain ⟨-, ⟨hS0, hS1, hS2, hS3⟩, hT0, hT1, hT2, hT3⟩ := hSw
    go_simp
    all_goals with_reducible rfl
  simp only [Act.put, List.getElem_toArray, List.getElem_cons_zero, List.getElem_cons_succ, List.setIfInBounds_toArray, List.set_cons_zero, List.set_cons_succ]
  refine wpAnyH_take (i := 5) (v := ?_) rfl (by kernel_rfl) (by kernel_rfl) (by kernel_rfl) (fun _ _ _ h => h) (Or.inl ⟨by kernel_rfl, ?_⟩) (by assumption) ?_
  rotate_left
  · intro w hSw
    obtain ⟨-, ⟨hS0, hS1, hS2, hS3⟩, hT0, hT1, hT2, hT3⟩ := hSw
    go_simp
    all_goals with_reducible rfl
  simp only [Act.put, List.getElem_toArray, List.getElem_cons_zero, List.getElem_cons_succ, List.setIfInBounds_toArray, List.set_cons_zero, List.set_cons_succ]
  refine wpAnyH_take (i := 6) (v := ?_) rfl (by kernel_rfl) (by kernel_rfl) (by kernel_rfl) (fun _ _ _ h => h) (Or.inl ⟨by kernel_rfl, ?_⟩) (by assumption) ?_
  rotate_left
  · intro w hSw
    obtain ⟨-, ⟨hS0, hS1, hS2, hS3⟩, hT0, hT1, hT2, hT3⟩ := hSw
    go_simp
    all_goals with_reducible rfl
  simp only [Act.put, List.getElem_toArray, List.getElem_cons_zero, List.getElem_cons_succ, List.setIfInBounds_toArray, List.set_cons_zero, List.set_cons_succ]
  refine wpAnyH_ready (rs := [7]) (by kernel_rfl) (by simp) ?_
  refine AllReadyH.cons rfl (fun K hK => ?_) AllReadyH.nil
  go_simp
  go_at_call 12
  refine (tells_any T2 _ (HL.out.keep B7.out) (by omega)).mono ?_
  rintro e' w8 ⟨rfl, hb⟩
  have B8 := Lib.hid (below_on B7.out hb)
  have S8 := Lib.hid (S7.out.keep hb)
  have P8 := Lib.hid (P7.out.keep hb)
  clear hb
  refine hK.out _ _ S8.out (fun hHeld => ?_)
  clear hK K
  try simp only [Act.put, List.setIfInBounds_toArray, List.set_cons_zero, List.set_cons_succ]
  refine wpAnyH_take (i := 8) (v := ?_) rfl (by kernel_rfl) (by kernel_rfl) (by kernel_rfl) (fun _ _ _ h => h) (Or.inl ⟨by kernel_rfl, ?_⟩) (by assumption) ?_
  rotate_left
  · intro w hSw
    obtain ⟨-, ⟨hS0, hS1, hS2, hS3⟩, hT0, hT1, hT2, hT3⟩ := hSw
    go_simp
    all_goals with_reducible rfl
  simp only [Act.put, List.getElem_toArray, List.getElem_cons_zero, List.getElem_cons_succ, List.setIfInBounds_toArray, List.set_cons_zero, List.set_cons_succ]
  refine wpAnyH_take (i := 9) (v := ?_) rfl (by kernel_rfl) (by kernel_rfl) (by kernel_rfl) (fun _ _ _ h => h) (Or.inl ⟨by kernel_rfl, ?_⟩) (by assumption) ?_
  rotate_left
  · intro w hSw
    obtain ⟨-, ⟨hS0, hS1, hS2, hS3⟩, hT0, hT1, hT2, hT3⟩ := hSw
    go_simp
    all_goals with_reducible rfl
  simp only [Act.put, List.getElem_toArray, List.getElem_cons_zero, List.getElem_cons_succ, List.setIfInBounds_toArray, List.set_cons_zero, List.set_cons_succ]
  refine wpAnyH_take (i := 10) (v := ?_) rfl (by kernel_rfl) (by kernel_rfl) (by kernel_rfl) (fun _ _ _ h => h) (Or.inl ⟨by kernel_rfl, ?_⟩) (by assumption) ?_
  rotate_left
  · intro w hSw
    obtain ⟨-, ⟨hS0, hS1, hS2, hS3⟩, hT0, hT1, hT2, hT3⟩ := hSw
    go_simp
    all_goals with_reducible rfl
  simp only [Act.put, List.getElem_toArray, List.getElem_cons_zero, List.getElem_cons_succ, List.setIfInBounds_toArray, List.set_cons_zero, List.set_cons_succ]
  refine wpAnyH_take (i := 11) (v := ?_) rfl (by kernel_rfl) (by kernel_rfl) (by kernel_rfl) (fun _ _ _ h => h) (Or.inl ⟨by kernel_rfl, ?_⟩) (by assumption) ?_
  rotate_left
  · intro w hSw
    obtain ⟨-, ⟨hS0, hS1, hS2, hS3⟩, hT0, hT1, hT2, hT3⟩ := hSw
    go_simp
    all_goals with_reducible rfl
  simp only [Act.put, List.getElem_toArray, List.getElem_cons_zero, List.getElem_cons_succ, List.setIfInBounds_toArray, List.set_cons_zero, List.set_cons_succ]
  refine wpAnyH_take (i := 12) (v := ?_) rfl (by kernel_rfl) (by kernel_rfl) (by kernel_rfl) (fun _ _ _ h => h) (Or.inl ⟨by kernel_rfl, ?_⟩) (by assumption) ?_
  rotate_left
  · intro w hSw
    obtain ⟨-, ⟨hS0, hS1, hS2, hS3⟩, hT0, hT1, hT2, hT3⟩ := hSw
    go_simp
    all_goals with_reducible rfl
  simp only [Act.put, List.getElem_toArray, List.getElem_cons_zero, List.getElem_cons_succ, List.setIfInBounds_toArray, List.set_cons_zero, List.set_cons_succ]
  refine wpAnyH_take (i := 13) (v := ?_) rfl (by kernel_rfl) (by kernel_rfl) (by kernel_rfl) (fun _ _ _ h => h) (Or.inl ⟨by kernel_rfl, ?_⟩) (by assumption) ?_
  rotate_left
  · intro w hSw
    obtain ⟨-, ⟨hS0, hS1, hS2, hS3⟩, hT0, hT1, hT2, hT3⟩ := hSw
    go_simp
    all_goals with_reducible rfl
  simp only [Act.put, List.getElem_toArray, List.getElem_cons_zero, List.getElem_cons_succ, List.setIfInBounds_toArray, List.set_cons_zero, List.set_cons_succ]
  refine wpAnyH_take (i := 14) (v := ?_) rfl (by kernel_rfl) (by kernel_rfl) (by kernel_rfl) (fun _ _ _ h => h) (Or.inl ⟨by kernel_rfl, ?_⟩) (by assumption) ?_
  rotate_left
  · intro w hSw
    obtain ⟨-, ⟨hS0, hS1, hS2, hS3⟩, hT0, hT1, hT2, hT3⟩ := hSw
    go_simp
    all_goals with_reducible rfl
  simp only [Act.put, List.getElem_toArray, List.getElem_cons_zero, List.getElem_cons_succ, List.setIfInBounds_toArray, List.set_cons_zero, List.set_cons_succ]
  refine wpAnyH_take (i := 15) (v := ?_) rfl (by kernel_rfl) (by kernel_rfl) (by kernel_rfl) (fun _ _ _ h => h) (Or.inl ⟨by kernel_rfl, ?_⟩) (by assumption) ?_
  rotate_left
  · intro w hSw
    obtain ⟨-, ⟨hS0, hS1, hS2, hS3⟩, hT0, hT1, hT2, hT3⟩ := hSw
    go_simp
    all_goals with_reducible rfl
  simp only [Act.put, List.getElem_toArray, List.getElem_cons_zero, List.getElem_cons_succ, List.setIfInBounds_toArray, List.set_cons_zero, List.set_cons_succ]
  refine wpAnyH_take (i := 16) (v := ?_) rfl (by kernel_rfl) (by kernel_rfl) (by kernel_rfl) (fun _ _ _ h => h) (Or.inl ⟨by kernel_rfl, ?_⟩) (by assumption) ?_
  rotate_left
  · intro w hSw
    obtain ⟨-, ⟨hS0, hS1, hS2, hS3⟩, hT0, hT1, hT2, hT3⟩ := hSw
    go_simp
    all_goals with_reducible rfl
  simp only [Act.put, List.getElem_toArray, List.getElem_cons_zero, List.getElem_cons_succ, List.setIfInBounds_toArray, List.set_cons_zero, List.set_cons_succ]
  refine wpAnyH_take (i := 17) (v := ?_) rfl (by kernel_rfl) (by kernel_rfl) (by kernel_rfl) (fun _ _ _ h => h) (Or.inl ⟨by kernel_rfl, ?_⟩) (by assumption) ?_
  rotate_left
  · intro w hSw
    obtain ⟨-, ⟨hS0, hS1, hS2, hS3⟩, hT0, hT1, hT2, hT3⟩ := hSw
    go_simp
    all_goals with_reducible rfl
  simp only [Act.put, List.getElem_toArray, List.getElem_cons_zero, List.getElem_cons_succ, List.setIfInBounds_toArray, List.set_cons_zero, List.set_cons_succ]
  refine wpAnyH_take (i := 18) (v := ?_) rfl (by kernel_rfl) (by kernel_rfl) (by kernel_rfl) (fun _ _ _ h => h) (Or.inl ⟨by kernel_rfl, ?_⟩) (by assumption) ?_
  rotate_left
  · intro w hSw
    obtain ⟨-, ⟨hS0, hS1, hS2, hS3⟩, hT0, hT1, hT2, hT3⟩ := hSw
    go_simp
    all_goals with_reducible rfl
  simp only [Act.put, List.getElem_toArray, List.getElem_cons_zero, List.getElem_cons_succ, List.setIfInBounds_toArray, List.set_cons_zero, List.set_cons_succ]
  refine wpAnyH_take (i := 19) (v := ?_) rfl (by kernel_rfl) (by kernel_rfl) (by kernel_rfl) (fun _ _ _ h => h) (Or.inl ⟨by kernel_rfl, ?_⟩) (by assumption) ?_
  rotate_left
  · intro w hSw
    obtain ⟨-, ⟨hS0, hS1, hS2, hS3⟩, hT0, hT1, hT2, hT3⟩ := hSw
    go_simp
    all_goals with_reducible rfl
  simp only [Act.put, List.getElem_toArray, List.getElem_cons_zero, List.getElem_cons_succ, List.setIfInBounds_toArray, List.set_cons_zero, List.set_cons_succ]
  refine wpAnyH_take (i := 20) (v := ?_) rfl (by kernel_rfl) (by kernel_rfl) (by kernel_rfl) (fun _ _ _ h => h) (Or.inl ⟨by kernel_rfl, ?_⟩) (by assumption) ?_
  rotate_left
  · intro w hSw
    obtain ⟨-, ⟨hS0, hS1, hS2, hS3⟩, hT0, hT1, hT2, hT3⟩ := hSw
    go_simp
    all_goals with_reducible rfl
  simp only [Act.put, List.getElem_toArray, List.getElem_cons_zero, List.getElem_cons_succ, List.setIfInBounds_toArray, List.set_cons_zero, List.set_cons_succ]
  refine wpAnyH_take (i := 21) (v := ?_) rfl (by kernel_rfl) (by kernel_rfl) (by kernel_rfl) (fun _ _ _ h => h) (Or.inl ⟨by kernel_rfl, ?_⟩) (by assumption) ?_
  rotate_left
  · intro w hSw
    obtain ⟨-, ⟨hS0, hS1, hS2, hS3⟩, hT0, hT1, hT2, hT3⟩ := hSw
    go_simp
    all_goals with_reducible rfl
  simp only [Act.put, List.getElem_toArray, List.getElem_cons_zero, List.getElem_cons_succ, List.setIfInBounds_toArray, List.set_cons_zero, List.set_cons_succ]
  refine wpAnyH_ready (rs := [22]) (by kernel_rfl) (by simp) ?_
  refine AllReadyH.cons rfl (fun K hK => ?_) AllReadyH.nil
  go_simp
  go_at_call 7
  refine (HBk.out _ B8.out).mono ?_
  rintro e' w9 ⟨v9, rfl, hp, hb⟩
  obtain ⟨k9, n9, s9, a9, m9, c9, rfl⟩ := hp.form
  have B9 := Lib.hid (below_on B8.out hb)
  have S9 := Lib.hid (S8.out.keep hb)
  have P9 := Lib.hid (P8.out.keep hb)
  have Q9 := Lib.hid hp.pat
  clear hb hp
  refine hK.out _ _ S9.out (fun hHeld => ?_)
  clear hK K
  try simp only [Act.put, List.setIfInBounds_toArray, List.set_cons_zero, List.set_cons_succ]
  refine wpAnyH_ready (rs := [23]) (by kernel_rfl) (by simp) ?_
  refine AllReadyH.cons rfl (fun K hK => ?_) AllReadyH.nil
  go_simp
  go_at_call 13
  refine (eq_pv P9.out x _ w9 Q9.out (Below.refl _ _)).mono ?_
  rw [HQ.out]
  rintro e' w10 ⟨rfl, hb⟩
  have B10 := Lib.hid (below_on B9.out hb)
  have S10 := Lib.hid (S9.out.keep hb)
  clear hb
  refine hK.out _ _ S10.out (fun hHeld => ?_)
  clear hK K
  try simp only [Act.put, List.setIfInBounds_toArray, List.set_cons_zero, List.set_cons_succ]
  refine wpAnyH_take (i := 24) (v := ?_) rfl (by kernel_rfl) (by kernel_rfl) (by kernel_rfl) (fun _ _ _ h => h) (Or.inl ⟨by kernel_rfl, ?_⟩) (by assumption) ?_
  rotate_left
  · intro w hSw
    obtain ⟨-, ⟨hS0, hS1, hS2, hS3⟩, hT0, hT1, hT2, hT3⟩ := hSw
    go_simp
    all_goals with_reducible rfl
  simp only [Act.put, List.getElem_toArray, List.getElem_cons_zero, List.getElem_cons_succ, List.setIfInBounds_toArray, List.set_cons_zero, List.set_cons_succ]
  refine wpAnyH_take (i := 25) (v := ?_) rfl (by kernel_rfl) (by kernel_rfl) (by kernel_rfl) (fun _ _ _ h => h) (Or.inl ⟨by kernel_rfl, ?_⟩) (by assumption) ?_
  rotate_left
  · intro w hSw
    obtain ⟨-, ⟨hS0, hS1, hS2, hS3⟩, hT0, hT1, hT2, hT3⟩ := hSw
    go_simp
    all_goals with_reducible rfl
  simp only [Act.put, List.getElem_toArray, List.getElem_cons_zero, List.getElem_cons_succ, List.setIfInBounds_toArray, List.set_cons_zero, List.set_cons_succ]
  refine wpAnyH_done (by kernel_rfl) ?_ _
  go_wp2_with fail
  go_ret
  exact ⟨rfl, B10.out⟩
theorem pouchAny_walk (s : ByteArray) {x : PV} {v : Value} (m : Int) (hm : m ≤ 9223372036854775807) (y : UInt8) {w : World} (h : PAt w x v) (hf : fits x) (hbk : pbulk x ≤ 1048576) (hs : s.size ≤ 9223372036854775807) (L : Laid w) :
    Calls Tryd.prog 4 #[.string s, v, .int .i64 m, .int .u8 (y.toNat : Int)] w fun e w' => e = .returned (.bool true) ∧ Below w.heap.size w w' := by
  by_cases hne : pPut x = []
  · exact pouchAny_empty s m y h hf hbk hs L hne
  by_cases h0 : m < 0
  · exact pouchAny_neg s m h0 y h hf hbk hs L hne
  obtain ⟨k, rfl⟩ := Int.eq_ofNat_of_zero_le (by omega : 0 ≤ m)
  exact pouchAny_good s k (by omega) y h hf hbk hs L hne
end Go.Proofs.YthbbfdlacclccaaDoor

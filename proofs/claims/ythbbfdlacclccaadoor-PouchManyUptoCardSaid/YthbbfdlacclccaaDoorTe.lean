/- Walk of law1's tells: a text tells a value, just its, or none's. -/
import Derived.Test.YthbbfdlacclccaaDoorTa
import Derived.Test.YthbbfdlacclccaaDoorL1
namespace Go.Proofs.YthbbfdlacclccaaDoor
open Go.RowKit

theorem pAll_of_err {s : ByteArray} {er : Nat} (h : pGet s = (pz, 0, er)) (he : er ≠ 0) : pAll s = (pz, 1) := by
  unfold pAll
  rw [h, if_pos (Or.inl he)]
theorem pAll_of_ok {s : ByteArray} {x : PV} {n : Nat} (h : pGet s = (x, n, 0)) : pAll s = if n = s.size then (x, 0) else (pz, 1) := by
  unfold pAll
  rw [h]
  by_cases hn : n = s.size
  · rw [if_neg (by rintro (q | q); exact q rfl; exact q hn), if_pos hn]
  · rw [if_pos (Or.inr hn), if_neg hn]
theorem pGet_form (s : ByteArray) : (∃ er, (er = 1 ∨ er = 2) ∧ pGet s = (pz, 0, er)) ∨ ∃ x n, pGet s = (x, n, 0) := by
  obtain ⟨⟨x, n, er⟩, h⟩ : ∃ r, pGet s = r := ⟨_, rfl⟩
  by_cases he : er = 0
  · subst he; exact Or.inr ⟨x, n, h⟩
  · have := pGet_err (s := s) (by rw [h]; exact he)
    rw [h] at this
    dsimp only at this
    obtain ⟨rfl, rfl, h2⟩ := this
    exact Or.inl ⟨er, h2, h⟩
theorem run_front (s : ByteArray) (k : Nat) (h : k ≤ s.size) (_hs : s.size ≤ 9223372036854775807) (w : World) : (Instr.slice 9 (.string s) none (some (.int .i64 (k : Int))) none).run Tryd.prog w = .ok (.string (s.extract 0 k)) w := by
  rw [run_slice_string_h w _ _ Tryd.underlying9 _ _ (by omega) (by omega)]; simp
/-- The four cells of a box. -/
def BoxS (B : Nat) (c0 c1 c2 c3 : Value) (U : World) : Prop := U.cell? ⟨B, 0, none⟩ = some c0 ∧ U.cell? ⟨B, 1, none⟩ = some c1 ∧ U.cell? ⟨B, 2, none⟩ = some c2 ∧ U.cell? ⟨B, 3, none⟩ = some c3
theorem BoxS.keep {B : Nat} {c0 c1 c2 c3 : Value} {U U' : World} (h : BoxS B c0 c1 c2 c3 U) (hb : Below U.heap.size U U') : BoxS B c0 c1 c2 c3 U' := ⟨cell_keep hb h.1, cell_keep hb h.2.1, cell_keep hb h.2.2.1, cell_keep hb h.2.2.2⟩

set_option maxRecDepth 100000 in
set_option maxHeartbeats 6400000 in
theorem tells_none (s : ByteArray) (w : World) (L : Laid w) (hs : s.size ≤ 140737488355328) (er : Nat) (he : er = 1 ∨ er = 2) (hg : pGet s = (pz, 0, er)) :
    Calls Tryd.prog 12 #[.string s] w fun e w' => e = .returned (.bool true) ∧ Below w.heap.size w w' := by
  have HG := Lib.hid (Get_any s w L hs)
  rw [hg] at HG
  have HA := Lib.hid (fun W (L : Laid W) => All_any s W L hs)
  rw [pAll_of_err hg (by omega)] at HA
  have HL := Lib.hid L
  have e0 : ((er : Int) != 0) = true := by rcases he with rfl | rfl <;> rfl
  clear hg L
  go_enter Tryd.func12, Tryd.ntmps12
  go_upto_region 2 with (go_at_call 8; refine HG.out.mono ?_; rintro e' w1 ⟨v1, hp, rfl, hb⟩; obtain ⟨a1, c1, rfl⟩ := cut_flat hp; have B1 := Lib.hid hb; have HP := Lib.hid hp; clear hp hb)
  have B2 := Lib.hid (below_alloc B1.out (.cells #[.int .i64 0, .int .i64 0, .string ⟨#[]⟩, .slice a1 0 c1] 27))
  have X2 := Lib.hid (Box4.new w1 (.int .i64 0) (.int .i64 0) (.string ⟨#[]⟩) (.slice a1 0 c1) 27)
  have P2 := Lib.hid (HP.out.keep (below_alloc (Below.refl _ _) (.cells #[.int .i64 0, .int .i64 0, .string ⟨#[]⟩, .slice a1 0 c1] 27)))
  generalize w1.alloc (.cells #[.int .i64 0, .int .i64 0, .string ⟨#[]⟩, .slice a1 0 c1] 27) = W2 at B2 X2 P2 ⊢
  have HA2 := Lib.hid (HA.out W2 (HL.out.keep B2.out))
  go_upto_region 3 with (go_at_call 22; refine HA2.out.mono ?_; rintro e' w3 ⟨v3, hp, rfl, hb⟩; obtain ⟨a2, c2, rfl⟩ := cut_flat hp; have B3 := Lib.hid (below_alloc (below_on B2.out hb) (.cells #[.int .i64 0, .int .i64 0, .string ⟨#[]⟩, .slice a2 0 c2] 27)); have X3 := Lib.hid ((X2.out.keep hb).keep (below_alloc (Below.refl _ _) (.cells #[.int .i64 0, .int .i64 0, .string ⟨#[]⟩, .slice a2 0 c2] 27))); have P3 := Lib.hid ((P2.out.keep hb).keep (below_alloc (Below.refl _ _) (.cells #[.int .i64 0, .int .i64 0, .string ⟨#[]⟩, .slice a2 0 c2] 27))); clear hp hb)
  generalize w3.alloc (.cells #[.int .i64 0, .int .i64 0, .string ⟨#[]⟩, .slice a2 0 c2] 27) = W4 at B3 X3 P3 ⊢
  obtain ⟨⟨x0, x1, x2, x3⟩, -⟩ := X3.out
  have HE := Lib.hid (eq_pv (P3.out.pat) pz pzV W4 (pz_at W4) (Below.refl _ _))
  rw [show peq pz pz = true from (peq_iff pz pz).2 rfl] at HE
  rcases he with rfl | rfl
  all_goals
    go_wp2_with (go_at_call 13; refine HE.out.mono ?_; rintro e' w5 ⟨rfl, hb⟩; have B5 := Lib.hid (below_on B3.out hb); clear hb)
    go_ret
    exact ⟨rfl, B5.out⟩
set_option maxRecDepth 100000 in
set_option maxHeartbeats 6400000 in
theorem tells_one (s : ByteArray) (w : World) (L : Laid w) (hs : s.size ≤ 140737488355328) (x : PV) (n : Nat) (hg : pGet s = (x, n, 0)) :
    Calls Tryd.prog 12 #[.string s] w fun e w' => e = .returned (.bool true) ∧ Below w.heap.size w w' := by
  obtain ⟨h1, h2, h3, h4, h5, h6⟩ := pGet_ok hg
  have HG := Lib.hid (Get_any s w L hs)
  rw [hg] at HG
  have HA := Lib.hid (fun W (L : Laid W) => All_any s W L hs)
  rw [pAll_of_ok hg] at HA
  have HL := Lib.hid L
  have hput : pPut x = pput x := (pPut_ne (by intro e; rw [e] at h2; simp at h2; omega)).2.2
  have HPl : Hid (pmay x = true → (pput x).length ≤ 140737488355328) := Lib.hid (fun _ => by rw [← hput]; omega)
  obtain ⟨U, hU⟩ : ∃ U : ByteArray, s.extract 0 n = U := ⟨_, rfl⟩
  have hUl : U.data.toList = pPut x := by rw [← hU, Lib.extract_data, List.drop_zero, Nat.sub_zero]; exact h1
  have hsl : ∀ w, (Instr.slice 9 (.string s) none (some (.int .i64 (n : Int))) none).run Tryd.prog w = .ok (.string U) w := fun w => by rw [← hU]; exact run_front s n h4 (by omega) w
  have HU : Hid ((⟨(pPut x).toArray⟩ : ByteArray) = U) := Lib.hid (by rw [← hUl, Lib.mk_data])
  have he : (U.toList == U.toList) = true := by simp
  have d1 : decide ((n : Int) ≤ (s.size : Int)) = true := decide_eq_true (by omega)
  have d1n : decide (n ≤ s.size) = true := decide_eq_true h4
  have d2 : decide ((0 : Int) < (n : Int)) = true := decide_eq_true (by omega)
  have d2n : decide (0 < n) = true := decide_eq_true (by omega)
  have HM := Lib.hid h5
  have e0 : (((0 : Nat) : Int) != 0) = false := rfl
  obtain ⟨bq, hbq⟩ : ∃ b, ((n : Int) == (s.size : Int)) = b := ⟨_, rfl⟩
  obtain ⟨fq, hfq⟩ : ∃ f : Nat, (if n = s.size then 0 else 1) = f := ⟨_, rfl⟩
  have d3 : ((fq : Int) == 0) = bq := by
    rw [← hfq, ← hbq]
    by_cases q : n = s.size
    · rw [if_pos q, q]; simp
    · rw [if_neg q, show ((n : Int) == (s.size : Int)) = false by rw [beq_eq_false_iff_ne]; omega]; rfl
  obtain ⟨y, hy⟩ : ∃ y, (if n = s.size then (x, 0) else (pz, 1)) = (y, fq) := by
    rw [← hfq]
    by_cases q : n = s.size
    · rw [if_pos q, if_pos q]; exact ⟨_, rfl⟩
    · rw [if_neg q, if_neg q]; exact ⟨_, rfl⟩
  rw [hy] at HA
  clear hg L h1 h2 h3 h5 h6 hput hU hUl hfq hy h4
  go_enter Tryd.func12, Tryd.ntmps12
  go_upto_region 2 with (go_at_call 8; refine HG.out.mono ?_; rintro e' w1 ⟨v1, hp, rfl, hb⟩; obtain ⟨k1, n1, s1, a1, m1, c1, rfl⟩ := hp.form; have B1 := Lib.hid hb; have HP := Lib.hid hp; clear hp hb)
  have B2 := Lib.hid (below_alloc B1.out (.cells #[.int .i64 k1, .int .i64 n1, .string s1, .slice a1 m1 c1] 27))
  have X2 := Lib.hid (Box4.new w1 (.int .i64 k1) (.int .i64 n1) (.string s1) (.slice a1 m1 c1) 27)
  have P2 := Lib.hid (HP.out.keep (below_alloc (Below.refl _ _) (.cells #[.int .i64 k1, .int .i64 n1, .string s1, .slice a1 m1 c1] 27)))
  generalize w1.alloc (.cells #[.int .i64 k1, .int .i64 n1, .string s1, .slice a1 m1 c1] 27) = W2 at B2 X2 P2 ⊢
  generalize w1.heap.size = Q at X2 ⊢
  have HA2 := Lib.hid (HA.out W2 (HL.out.keep B2.out))
  go_upto_region 3 with (go_at_call 22; refine HA2.out.mono ?_; rintro e' w3 ⟨v3, hp, rfl, hb⟩; obtain ⟨k2, n2, s2, a2, m2, c2, rfl⟩ := hp.form; have B3 := Lib.hid (below_alloc (below_on B2.out hb) (.cells #[.int .i64 k2, .int .i64 n2, .string s2, .slice a2 m2 c2] 27)); have X3 := Lib.hid ((X2.out.keep hb).keep (below_alloc (Below.refl _ _) (.cells #[.int .i64 k2, .int .i64 n2, .string s2, .slice a2 m2 c2] 27))); have P3 := Lib.hid ((P2.out.keep hb).keep (below_alloc (Below.refl _ _) (.cells #[.int .i64 k2, .int .i64 n2, .string s2, .slice a2 m2 c2] 27))); clear hp hb)
  generalize w3.alloc (.cells #[.int .i64 k2, .int .i64 n2, .string s2, .slice a2 m2 c2] 27) = W4 at B3 X3 P3 ⊢
  go_wp2_with fail
  have hD : Below W4.heap.size W4 W4.drew := Below.drew (Below.refl _ _)
  have B4 := Lib.hid (below_on B3.out hD)
  have X4 : Hid (BoxS Q (.int .i64 k1) (.int .i64 n1) (.string s1) (.slice a1 m1 c1) W4.drew) := Lib.hid (X3.out.keep hD).1
  have P4 := Lib.hid (P3.out.keep hD)
  clear hD
  refine wp_region_held_drew (S := BoxS Q (.int .i64 k1) (.int .i64 n1) (.string s1) (.slice a1 m1 c1)) (by kernel_rfl) X4.out (fun hHeld => ?_)
  generalize W4.drew = wd at B4 X4 P4 hHeld ⊢
  refine wpAnyH_take (i := 0) (v := ?_) rfl (by kernel_rfl) (by kernel_rfl) (by kernel_rfl) (fun _ _ _ h => h) (Or.inl ⟨by kernel_rfl, ?_⟩) (by assumption) ?_
  rotate_left
  · intro w hSw
    obtain ⟨hS0, hS1, hS2, hS3⟩ := hSw
    go_simp
    all_goals with_reducible rfl
  simp only [Act.put, List.getElem_toArray, List.getElem_cons_zero, List.getElem_cons_succ, List.setIfInBounds_toArray, List.set_cons_zero, List.set_cons_succ]
  refine wpAnyH_take (i := 1) (v := ?_) rfl (by kernel_rfl) (by kernel_rfl) (by kernel_rfl) (fun _ _ _ h => h) (Or.inl ⟨by kernel_rfl, ?_⟩) (by assumption) ?_
  rotate_left
  · intro w hSw
    obtain ⟨hS0, hS1, hS2, hS3⟩ := hSw
    go_simp
    all_goals with_reducible rfl
  simp only [Act.put, List.getElem_toArray, List.getElem_cons_zero, List.getElem_cons_succ, List.setIfInBounds_toArray, List.set_cons_zero, List.set_cons_succ]
  refine wpAnyH_take (i := 2) (v := ?_) rfl (by kernel_rfl) (by kernel_rfl) (by kernel_rfl) (fun _ _ _ h => h) (Or.inl ⟨by kernel_rfl, ?_⟩) (by assumption) ?_
  rotate_left
  · intro w hSw
    obtain ⟨hS0, hS1, hS2, hS3⟩ := hSw
    go_simp
    all_goals with_reducible rfl
  simp only [Act.put, List.getElem_toArray, List.getElem_cons_zero, List.getElem_cons_succ, List.setIfInBounds_toArray, List.set_cons_zero, List.set_cons_succ]
  refine wpAnyH_take (i := 3) (v := ?_) rfl (by kernel_rfl) (by kernel_rfl) (by kernel_rfl) (fun _ _ _ h => h) (Or.inl ⟨by kernel_rfl, ?_⟩) (by assumption) ?_
  rotate_left
  · intro w hSw
    obtain ⟨hS0, hS1, hS2, hS3⟩ := hSw
    go_simp
    all_goals with_reducible rfl
  simp only [Act.put, List.getElem_toArray, List.getElem_cons_zero, List.getElem_cons_succ, List.setIfInBounds_toArray, List.set_cons_zero, List.set_cons_succ]
  refine wpAnyH_take (i := 4) (v := ?_) rfl (by kernel_rfl) (by kernel_rfl) (by kernel_rfl) (fun _ _ _ h => h) (Or.inl ⟨by kernel_rfl, ?_⟩) (by assumption) ?_
  rotate_left
  · intro w hSw
    obtain ⟨hS0, hS1, hS2, hS3⟩ := hSw
    go_simp
    all_goals with_reducible rfl
  simp only [Act.put, List.getElem_toArray, List.getElem_cons_zero, List.getElem_cons_succ, List.setIfInBounds_toArray, List.set_cons_zero, List.set_cons_succ]
  refine wpAnyH_take (i := 5) (v := ?_) rfl (by kernel_rfl) (by kernel_rfl) (by kernel_rfl) (fun _ _ _ h => h) (Or.inl ⟨by kernel_rfl, ?_⟩) (by assumption) ?_
  rotate_left
  · intro w hSw
    obtain ⟨hS0, hS1, hS2, hS3⟩ := hSw
    go_simp
    all_goals with_reducible rfl
  simp only [Act.put, List.getElem_toArray, List.getElem_cons_zero, List.getElem_cons_succ, List.setIfInBounds_toArray, List.set_cons_zero, List.set_cons_succ]
  refine wpAnyH_take (i := 6) (v := ?_) rfl (by kernel_rfl) (by kernel_rfl) (by kernel_rfl) (fun _ _ _ h => h) (Or.inl ⟨by kernel_rfl, ?_⟩) (by assumption) ?_
  rotate_left
  · intro w hSw
    obtain ⟨hS0, hS1, hS2, hS3⟩ := hSw
    go_simp
    all_goals with_reducible rfl
  simp only [Act.put, List.getElem_toArray, List.getElem_cons_zero, List.getElem_cons_succ, List.setIfInBounds_toArray, List.set_cons_zero, List.set_cons_succ]
  refine wpAnyH_take (i := 7) (v := ?_) rfl (by kernel_rfl) (by kernel_rfl) (by kernel_rfl) (fun _ _ _ h => h) (Or.inl ⟨by kernel_rfl, ?_⟩) (by assumption) ?_
  rotate_left
  · intro w hSw
    obtain ⟨hS0, hS1, hS2, hS3⟩ := hSw
    go_simp
    all_goals with_reducible rfl
  simp only [Act.put, List.getElem_toArray, List.getElem_cons_zero, List.getElem_cons_succ, List.setIfInBounds_toArray, List.set_cons_zero, List.set_cons_succ]
  refine wpAnyH_take (i := 8) (v := ?_) rfl (by kernel_rfl) (by kernel_rfl) (by kernel_rfl) (fun _ _ _ h => h) (Or.inl ⟨by kernel_rfl, ?_⟩) (by assumption) ?_
  rotate_left
  · intro w hSw
    obtain ⟨hS0, hS1, hS2, hS3⟩ := hSw
    go_simp
    all_goals with_reducible rfl
  simp only [Act.put, List.getElem_toArray, List.getElem_cons_zero, List.getElem_cons_succ, List.setIfInBounds_toArray, List.set_cons_zero, List.set_cons_succ]
  refine wpAnyH_take (i := 9) (v := ?_) rfl (by kernel_rfl) (by kernel_rfl) (by kernel_rfl) (fun _ _ _ h => h) (Or.inl ⟨by kernel_rfl, ?_⟩) (by assumption) ?_
  rotate_left
  · intro w hSw
    obtain ⟨hS0, hS1, hS2, hS3⟩ := hSw
    go_simp
    all_goals with_reducible rfl
  simp only [Act.put, List.getElem_toArray, List.getElem_cons_zero, List.getElem_cons_succ, List.setIfInBounds_toArray, List.set_cons_zero, List.set_cons_succ]
  refine wpAnyH_ready (rs := [10]) (by kernel_rfl) (by simp) ?_
  refine AllReadyH.cons rfl (fun K hK => ?_) AllReadyH.nil
  go_simp
  go_at_call 18
  refine (may_pv P4.out.pat).mono ?_
  rw [HM.out]
  rintro e' w5 ⟨rfl, hb⟩
  have B5 := Lib.hid (below_on B4.out hb)
  have X5 := Lib.hid (X4.out.keep hb)
  have P5 := Lib.hid (P4.out.keep hb)
  clear hb
  refine hK.out _ _ X5.out (fun hHeld => ?_)
  clear hK K
  try simp only [Act.put, List.getElem_toArray, List.getElem_cons_zero, List.getElem_cons_succ, List.setIfInBounds_toArray, List.set_cons_zero, List.set_cons_succ]
  refine wpAnyH_take (i := 11) (v := ?_) rfl (by kernel_rfl) (by kernel_rfl) (by kernel_rfl) (fun _ _ _ h => h) (Or.inl ⟨by kernel_rfl, ?_⟩) (by assumption) ?_
  rotate_left
  · intro w hSw
    obtain ⟨hS0, hS1, hS2, hS3⟩ := hSw
    go_simp
    all_goals with_reducible rfl
  simp only [Act.put, List.getElem_toArray, List.getElem_cons_zero, List.getElem_cons_succ, List.setIfInBounds_toArray, List.set_cons_zero, List.set_cons_succ]
  refine wpAnyH_take (i := 12) (v := ?_) rfl (by kernel_rfl) (by kernel_rfl) (by kernel_rfl) (fun _ _ _ h => h) (Or.inl ⟨by kernel_rfl, ?_⟩) (by assumption) ?_
  rotate_left
  · intro w hSw
    obtain ⟨hS0, hS1, hS2, hS3⟩ := hSw
    go_simp
    all_goals with_reducible rfl
  simp only [Act.put, List.getElem_toArray, List.getElem_cons_zero, List.getElem_cons_succ, List.setIfInBounds_toArray, List.set_cons_zero, List.set_cons_succ]
  refine wpAnyH_take (i := 13) (v := ?_) rfl (by kernel_rfl) (by kernel_rfl) (by kernel_rfl) (fun _ _ _ h => h) (Or.inl ⟨by kernel_rfl, ?_⟩) (by assumption) ?_
  rotate_left
  · intro w hSw
    obtain ⟨hS0, hS1, hS2, hS3⟩ := hSw
    go_simp
    all_goals with_reducible rfl
  simp only [Act.put, List.getElem_toArray, List.getElem_cons_zero, List.getElem_cons_succ, List.setIfInBounds_toArray, List.set_cons_zero, List.set_cons_succ]
  refine wpAnyH_take (i := 15) (v := ?_) rfl (by kernel_rfl) (by kernel_rfl) (by kernel_rfl) (fun _ _ _ h => h) (Or.inl ⟨by kernel_rfl, ?_⟩) (by assumption) ?_
  rotate_left
  · intro w hSw
    obtain ⟨hS0, hS1, hS2, hS3⟩ := hSw
    go_simp
    all_goals with_reducible rfl
  simp only [Act.put, List.getElem_toArray, List.getElem_cons_zero, List.getElem_cons_succ, List.setIfInBounds_toArray, List.set_cons_zero, List.set_cons_succ]
  refine wpAnyH_take (i := 16) (v := ?_) rfl (by kernel_rfl) (by kernel_rfl) (by kernel_rfl) (fun _ _ _ h => h) (Or.inl ⟨by kernel_rfl, ?_⟩) (by assumption) ?_
  rotate_left
  · intro w hSw
    obtain ⟨hS0, hS1, hS2, hS3⟩ := hSw
    go_simp
    all_goals with_reducible rfl
  simp only [Act.put, List.getElem_toArray, List.getElem_cons_zero, List.getElem_cons_succ, List.setIfInBounds_toArray, List.set_cons_zero, List.set_cons_succ]
  refine wpAnyH_take (i := 17) (v := ?_) rfl (by kernel_rfl) (by kernel_rfl) (by kernel_rfl) (fun _ _ _ h => h) (Or.inl ⟨by kernel_rfl, ?_⟩) (by assumption) ?_
  rotate_left
  · intro w hSw
    obtain ⟨hS0, hS1, hS2, hS3⟩ := hSw
    go_simp
    all_goals with_reducible rfl
  simp only [Act.put, List.getElem_toArray, List.getElem_cons_zero, List.getElem_cons_succ, List.setIfInBounds_toArray, List.set_cons_zero, List.set_cons_succ]
  refine wpAnyH_ready (rs := [14]) (by kernel_rfl) (by simp) ?_
  refine AllReadyH.cons rfl (fun K hK => ?_) AllReadyH.nil
  go_simp
  go_at_call 6
  refine (Put_pv P5.out.pat (HL.out.keep B5.out).1 HPl.out).mono ?_
  rw [HU.out]
  rintro e' w6 ⟨rfl, hb⟩
  have B6 := Lib.hid (below_on B5.out hb)
  have X6 := Lib.hid (X5.out.keep hb)
  clear hb
  refine hK.out _ _ X6.out (fun hHeld => ?_)
  clear hK K
  try simp only [Act.put, List.getElem_toArray, List.getElem_cons_zero, List.getElem_cons_succ, List.setIfInBounds_toArray, List.set_cons_zero, List.set_cons_succ]
  refine wpAnyH_take (i := 18) (v := ?_) rfl (by kernel_rfl) (by kernel_rfl) (by kernel_rfl) (fun _ _ _ h => h) (Or.inl ⟨by kernel_rfl, ?_⟩) (by assumption) ?_
  rotate_left
  · intro w hSw
    obtain ⟨hS0, hS1, hS2, hS3⟩ := hSw
    go_simp
    all_goals with_reducible rfl
  simp only [Act.put, List.getElem_toArray, List.getElem_cons_zero, List.getElem_cons_succ, List.setIfInBounds_toArray, List.set_cons_zero, List.set_cons_succ]
  refine wpAnyH_take (i := 19) (v := ?_) rfl (by kernel_rfl) (by kernel_rfl) (by kernel_rfl) (fun _ _ _ h => h) (Or.inl ⟨by kernel_rfl, ?_⟩) (by assumption) ?_
  rotate_left
  · intro w hSw
    obtain ⟨hS0, hS1, hS2, hS3⟩ := hSw
    go_simp
    all_goals with_reducible rfl
  simp only [Act.put, List.getElem_toArray, List.getElem_cons_zero, List.getElem_cons_succ, List.setIfInBounds_toArray, List.set_cons_zero, List.set_cons_succ]
  refine wpAnyH_take (i := 20) (v := ?_) rfl (by kernel_rfl) (by kernel_rfl) (by kernel_rfl) (fun _ _ _ h => h) (Or.inl ⟨by kernel_rfl, ?_⟩) (by assumption) ?_
  rotate_left
  · intro w hSw
    obtain ⟨hS0, hS1, hS2, hS3⟩ := hSw
    go_simp
    all_goals with_reducible rfl
  simp only [Act.put, List.getElem_toArray, List.getElem_cons_zero, List.getElem_cons_succ, List.setIfInBounds_toArray, List.set_cons_zero, List.set_cons_succ]
  refine wpAnyH_take (i := 21) (v := ?_) rfl (by kernel_rfl) (by kernel_rfl) (by kernel_rfl) (fun _ _ _ h => h) (Or.inl ⟨by kernel_rfl, ?_⟩) (by assumption) ?_
  rotate_left
  · intro w hSw
    obtain ⟨hS0, hS1, hS2, hS3⟩ := hSw
    go_simp
    all_goals with_reducible rfl
  simp only [Act.put, List.getElem_toArray, List.getElem_cons_zero, List.getElem_cons_succ, List.setIfInBounds_toArray, List.set_cons_zero, List.set_cons_succ]
  refine wpAnyH_take (i := 22) (v := ?_) rfl (by kernel_rfl) (by kernel_rfl) (by kernel_rfl) (fun _ _ _ h => h) (Or.inl ⟨by kernel_rfl, ?_⟩) (by assumption) ?_
  rotate_left
  · intro w hSw
    obtain ⟨hS0, hS1, hS2, hS3⟩ := hSw
    go_simp
    all_goals with_reducible rfl
  simp only [Act.put, List.getElem_toArray, List.getElem_cons_zero, List.getElem_cons_succ, List.setIfInBounds_toArray, List.set_cons_zero, List.set_cons_succ]
  refine wpAnyH_take (i := 23) (v := ?_) rfl (by kernel_rfl) (by kernel_rfl) (by kernel_rfl) (fun _ _ _ h => h) (Or.inl ⟨by kernel_rfl, ?_⟩) (by assumption) ?_
  rotate_left
  · intro w hSw
    obtain ⟨hS0, hS1, hS2, hS3⟩ := hSw
    go_simp
    all_goals with_reducible rfl
  simp only [Act.put, List.getElem_toArray, List.getElem_cons_zero, List.getElem_cons_succ, List.setIfInBounds_toArray, List.set_cons_zero, List.set_cons_succ]
  refine wpAnyH_take (i := 24) (v := ?_) rfl (by kernel_rfl) (by kernel_rfl) (by kernel_rfl) (fun _ _ _ h => h) (Or.inl ⟨by kernel_rfl, ?_⟩) (by assumption) ?_
  rotate_left
  · intro w hSw
    obtain ⟨hS0, hS1, hS2, hS3⟩ := hSw
    go_simp
    all_goals with_reducible rfl
  simp only [Act.put, List.getElem_toArray, List.getElem_cons_zero, List.getElem_cons_succ, List.setIfInBounds_toArray, List.set_cons_zero, List.set_cons_succ]
  refine wpAnyH_take (i := 25) (v := ?_) rfl (by kernel_rfl) (by kernel_rfl) (by kernel_rfl) (fun _ _ _ h => h) (Or.inl ⟨by kernel_rfl, ?_⟩) (by assumption) ?_
  rotate_left
  · intro w hSw
    obtain ⟨hS0, hS1, hS2, hS3⟩ := hSw
    go_simp
    all_goals with_reducible rfl
  simp only [Act.put, List.getElem_toArray, List.getElem_cons_zero, List.getElem_cons_succ, List.setIfInBounds_toArray, List.set_cons_zero, List.set_cons_succ]
  refine wpAnyH_take (i := 26) (v := ?_) rfl (by kernel_rfl) (by kernel_rfl) (by kernel_rfl) (fun _ _ _ h => h) (Or.inl ⟨by kernel_rfl, ?_⟩) (by assumption) ?_
  rotate_left
  · intro w hSw
    obtain ⟨hS0, hS1, hS2, hS3⟩ := hSw
    go_simp
    all_goals with_reducible rfl
  simp only [Act.put, List.getElem_toArray, List.getElem_cons_zero, List.getElem_cons_succ, List.setIfInBounds_toArray, List.set_cons_zero, List.set_cons_succ]
  have d4 : ∀ w, (binOp .eql 4 (.bool bq) (.bool bq)).run Tryd.prog w = .ok (.bool true) w := by cases bq <;> (intro w; rfl)
  refine wpAnyH_take (i := 27) (v := ?_) rfl (by kernel_rfl) (by kernel_rfl) (by kernel_rfl) (fun _ _ _ h => h) (Or.inl ⟨by kernel_rfl, ?_⟩) (by assumption) ?_
  rotate_left
  · intro w hSw
    obtain ⟨hS0, hS1, hS2, hS3⟩ := hSw
    go_simp
    all_goals with_reducible rfl
  simp only [Act.put, List.getElem_toArray, List.getElem_cons_zero, List.getElem_cons_succ, List.setIfInBounds_toArray, List.set_cons_zero, List.set_cons_succ]
  refine wpAnyH_take (i := 28) (v := ?_) rfl (by kernel_rfl) (by kernel_rfl) (by kernel_rfl) (fun _ _ _ h => h) (Or.inl ⟨by kernel_rfl, ?_⟩) (by assumption) ?_
  rotate_left
  · intro w hSw
    obtain ⟨hS0, hS1, hS2, hS3⟩ := hSw
    go_simp
    all_goals with_reducible rfl
  simp only [Act.put, List.getElem_toArray, List.getElem_cons_zero, List.getElem_cons_succ, List.setIfInBounds_toArray, List.set_cons_zero, List.set_cons_succ]
  refine wpAnyH_take (i := 29) (v := ?_) rfl (by kernel_rfl) (by kernel_rfl) (by kernel_rfl) (fun _ _ _ h => h) (Or.inl ⟨by kernel_rfl, ?_⟩) (by assumption) ?_
  rotate_left
  · intro w hSw
    obtain ⟨hS0, hS1, hS2, hS3⟩ := hSw
    go_simp
    all_goals with_reducible rfl
  simp only [Act.put, List.getElem_toArray, List.getElem_cons_zero, List.getElem_cons_succ, List.setIfInBounds_toArray, List.set_cons_zero, List.set_cons_succ]
  refine wpAnyH_done (by kernel_rfl) ?_ _
  go_wp2_with fail
  go_ret
  exact ⟨rfl, B6.out⟩
theorem tells_any (s : ByteArray) (w : World) (L : Laid w) (hs : s.size ≤ 140737488355328) :
    Calls Tryd.prog 12 #[.string s] w fun e w' => e = .returned (.bool true) ∧ Below w.heap.size w w' := by
  rcases pGet_form s with ⟨er, he, hg⟩ | ⟨x, n, hg⟩
  · exact tells_none s w L hs er he hg
  · exact tells_one s w L hs x n hg
end Go.Proofs.YthbbfdlacclccaaDoor

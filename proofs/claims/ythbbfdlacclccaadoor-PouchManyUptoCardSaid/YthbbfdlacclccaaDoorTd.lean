/- Walk of the document's Eq on two that are the same. -/
import Derived.Test.YthbbfdlacclccaaDoorTa
namespace Go.Proofs.YthbbfdlacclccaaDoor
open Go.RowKit

set_option maxRecDepth 100000 in
set_option maxHeartbeats 6400000 in
theorem req_same {w : World} {x : PV} {v : Value} (h : PAt w x v) : ∀ (u : Value) (W : World), PAt W x u → Below w.heap.size w W →
    Calls Tryd.prog 9 #[v, u] W fun e w' => e = .returned (.bool true) ∧ Below W.heap.size W w' := by
  induction h with
  | mk k n s l a c vs hk hn hs hl hr hv ih =>
    intro u W hy hb
    cases hy with
    | mk _ _ _ _ a' c' vs' hk' hn' hs' hl' hr' hv' =>
    have HR := Lib.hid hr
    have HR' := Lib.hid hr'
    have HV := Lib.hid hv
    have HV' := Lib.hid hv'
    have HI := Lib.hid ih
    have HBW := Lib.hid hb
    have B2 : Hid (Below W.heap.size W ((W.alloc (.cells #[.int .i64 k, .int .i64 n, .string s, .slice a l.length c] 30)).alloc (.cells #[.int .i64 k, .int .i64 n, .string s, .slice a' l.length c'] 30))) := Lib.hid (below_alloc (below_alloc (Below.refl _ _) _) _)
    have X1 := Lib.hid ((Box4.new W (.int .i64 k) (.int .i64 n) (.string s) (.slice a l.length c) 30).keep (below_alloc (Below.refl _ _) (.cells #[.int .i64 k, .int .i64 n, .string s, .slice a' l.length c'] 30)))
    have X2 : Hid (Box4 (W.heap.size + 1) (.int .i64 k) (.int .i64 n) (.string s) (.slice a' l.length c') ((W.alloc (.cells #[.int .i64 k, .int .i64 n, .string s, .slice a l.length c] 30)).alloc (.cells #[.int .i64 k, .int .i64 n, .string s, .slice a' l.length c'] 30))) := Lib.hid (by
      have := Box4.new (W.alloc (.cells #[.int .i64 k, .int .i64 n, .string s, .slice a l.length c] 30)) (.int .i64 k) (.int .i64 n) (.string s) (.slice a' l.length c') 30
      simpa using this)
    clear hr hr' hv hv' ih hb hk hn hs hk' hn' hs' hl'
    have e1 : (k != k) = false := by simp
    have e2 : (n != n) = false := by simp
    have e3 : (!(s.toList == s.toList)) = false := by simp
    have e4 : ((l.length : Int) != (l.length : Int)) = false := by simp
    go_enter Tryd.func9, Tryd.ntmps9
    go_upto_region 3 with fail
    generalize ((W.alloc (.cells #[.int .i64 k, .int .i64 n, .string s, .slice a l.length c] 30)).alloc (.cells #[.int .i64 k, .int .i64 n, .string s, .slice a' l.length c'] 30)) = V at B2 X1 X2 ⊢
    go_wp2_with fail
    go_loopw [5] (fun i wr => ∃ j : Nat, j ≤ l.length ∧ i = .int .i64 (j : Int) ∧ Below V.heap.size V wr) (fun i _ => l.length - (intOf i).toNat)
    case atStart => exact ⟨0, Nat.zero_le _, rfl, Below.refl _ _⟩
    case round =>
      obtain ⟨j, hj, rfl, hB⟩ := hrel
      obtain ⟨⟨-, -, -, x3⟩, -⟩ := X1.out.keep hB
      obtain ⟨⟨-, -, -, z3⟩, -⟩ := X2.out.keep hB
      have HB := Lib.hid hB
      have HBr := Lib.hid (B2.out.trans (hB.mono B2.out.size))
      clear hB
      by_cases hlt : j < l.length
      · have d1 : decide ((j : Int) < (l.length : Int)) = true := decide_eq_true (by omega)
        rcases HR.out with h | ⟨b, off, rfl, hbs, hc⟩
        · omega
        rcases HR'.out with h | ⟨b', off', rfl, hbs', hc'⟩
        · omega
        obtain ⟨k1, n1, s1, a1, m1, c1, hv1⟩ := (HV.out j l[j] (List.getElem?_eq_getElem hlt)).form
        obtain ⟨k2, n2, s2, a2, m2, c2, hv2⟩ := (HV'.out j l[j] (List.getElem?_eq_getElem hlt)).form
        have hD : Below wr.heap.size wr wr.drew := Below.drew (Below.refl _ _)
        have hE1 : ElemS W.heap.size b (off + j * 4) (.slice (some ⟨b, off, none⟩) l.length c) (.int .i64 k1) (.int .i64 n1) (.string s1) (.slice a1 m1 c1) wr := ⟨x3, ((hc j hlt).below (HBW.out.trans (HBr.out.mono HBW.out.size)) hbs).of hv1⟩
        have hE2 : ElemS (W.heap.size + 1) b' (off' + j * 4) (.slice (some ⟨b', off', none⟩) l.length c') (.int .i64 k2) (.int .i64 n2) (.string s2) (.slice a2 m2 c2) wr := ⟨z3, ((hc' j hlt).below HBr.out hbs').of hv2⟩
        have HX := Lib.hid (HI.out j l[j] (List.getElem?_eq_getElem hlt) (vs' j) wr.drew ((HV'.out j l[j] (List.getElem?_eq_getElem hlt)).keep (below_on HBr.out hD)) (HBW.out.trans ((below_on HBr.out hD).mono HBW.out.size)))
        rw [hv1, hv2] at HX
        have HE1 := Lib.hid (hE1.keep hD)
        have HE2 := Lib.hid (hE2.keep hD)
        have HBd := Lib.hid (below_on HB.out hD)
        clear hc hc' hv1 hv2 hE1 hE2 hD HR HR' HV HV' HI
        go_wp2_with fail
        refine wp_region_held_drew (S := fun U => ElemS W.heap.size b (off + j * 4) (.slice (some ⟨b, off, none⟩) l.length c) (.int .i64 k1) (.int .i64 n1) (.string s1) (.slice a1 m1 c1) U ∧ ElemS (W.heap.size + 1) b' (off' + j * 4) (.slice (some ⟨b', off', none⟩) l.length c') (.int .i64 k2) (.int .i64 n2) (.string s2) (.slice a2 m2 c2) U) (by kernel_rfl) ⟨HE1.out, HE2.out⟩ (fun hHeld => ?_)
        clear x3 z3
        generalize wr.drew = wd at HX HE1 HE2 HBd hHeld ⊢
        refine wpAnyH_take (i := 0) (v := ?_) rfl (by kernel_rfl) (by kernel_rfl) (by kernel_rfl) (fun _ _ _ h => h) (Or.inl ⟨by kernel_rfl, ?_⟩) (by assumption) ?_
        rotate_left
        · intro w hSw
          obtain ⟨⟨hS0, hS1, hS2, hS3, hS4⟩, hT0, hT1, hT2, hT3, hT4⟩ := hSw
          go_simp
          all_goals with_reducible rfl
        simp only [Act.put, List.getElem_toArray, List.getElem_cons_zero, List.getElem_cons_succ, List.setIfInBounds_toArray, List.set_cons_zero, List.set_cons_succ]
        refine wpAnyH_take (i := 1) (v := ?_) rfl (by kernel_rfl) (by kernel_rfl) (by kernel_rfl) (fun _ _ _ h => h) (Or.inl ⟨by kernel_rfl, ?_⟩) (by assumption) ?_
        rotate_left
        · intro w hSw
          obtain ⟨⟨hS0, hS1, hS2, hS3, hS4⟩, hT0, hT1, hT2, hT3, hT4⟩ := hSw
          go_simp
          all_goals with_reducible rfl
        simp only [Act.put, List.getElem_toArray, List.getElem_cons_zero, List.getElem_cons_succ, List.setIfInBounds_toArray, List.set_cons_zero, List.set_cons_succ]
        refine wpAnyH_take (i := 2) (v := ?_) rfl (by kernel_rfl) (by kernel_rfl) (by kernel_rfl) (fun _ _ _ h => h) (Or.inl ⟨by kernel_rfl, ?_⟩) (by assumption) ?_
        rotate_left
        · intro w hSw
          obtain ⟨⟨hS0, hS1, hS2, hS3, hS4⟩, hT0, hT1, hT2, hT3, hT4⟩ := hSw
          go_simp
          all_goals with_reducible rfl
        simp only [Act.put, List.getElem_toArray, List.getElem_cons_zero, List.getElem_cons_succ, List.setIfInBounds_toArray, List.set_cons_zero, List.set_cons_succ]
        refine wpAnyH_take (i := 3) (v := ?_) rfl (by kernel_rfl) (by kernel_rfl) (by kernel_rfl) (fun _ _ _ h => h) (Or.inl ⟨by kernel_rfl, ?_⟩) (by assumption) ?_
        rotate_left
        · intro w hSw
          obtain ⟨⟨hS0, hS1, hS2, hS3, hS4⟩, hT0, hT1, hT2, hT3, hT4⟩ := hSw
          go_simp
          all_goals with_reducible rfl
        simp only [Act.put, List.getElem_toArray, List.getElem_cons_zero, List.getElem_cons_succ, List.setIfInBounds_toArray, List.set_cons_zero, List.set_cons_succ]
        refine wpAnyH_take (i := 4) (v := ?_) rfl (by kernel_rfl) (by kernel_rfl) (by kernel_rfl) (fun _ _ _ h => h) (Or.inl ⟨by kernel_rfl, ?_⟩) (by assumption) ?_
        rotate_left
        · intro w hSw
          obtain ⟨⟨hS0, hS1, hS2, hS3, hS4⟩, hT0, hT1, hT2, hT3, hT4⟩ := hSw
          go_simp
          all_goals with_reducible rfl
        simp only [Act.put, List.getElem_toArray, List.getElem_cons_zero, List.getElem_cons_succ, List.setIfInBounds_toArray, List.set_cons_zero, List.set_cons_succ]
        refine wpAnyH_take (i := 5) (v := ?_) rfl (by kernel_rfl) (by kernel_rfl) (by kernel_rfl) (fun _ _ _ h => h) (Or.inl ⟨by kernel_rfl, ?_⟩) (by assumption) ?_
        rotate_left
        · intro w hSw
          obtain ⟨⟨hS0, hS1, hS2, hS3, hS4⟩, hT0, hT1, hT2, hT3, hT4⟩ := hSw
          go_simp
          all_goals with_reducible rfl
        simp only [Act.put, List.getElem_toArray, List.getElem_cons_zero, List.getElem_cons_succ, List.setIfInBounds_toArray, List.set_cons_zero, List.set_cons_succ]
        refine wpAnyH_take (i := 6) (v := ?_) rfl (by kernel_rfl) (by kernel_rfl) (by kernel_rfl) (fun _ _ _ h => h) (Or.inl ⟨by kernel_rfl, ?_⟩) (by assumption) ?_
        rotate_left
        · intro w hSw
          obtain ⟨⟨hS0, hS1, hS2, hS3, hS4⟩, hT0, hT1, hT2, hT3, hT4⟩ := hSw
          go_simp
          all_goals with_reducible rfl
        simp only [Act.put, List.getElem_toArray, List.getElem_cons_zero, List.getElem_cons_succ, List.setIfInBounds_toArray, List.set_cons_zero, List.set_cons_succ]
        refine wpAnyH_take (i := 7) (v := ?_) rfl (by kernel_rfl) (by kernel_rfl) (by kernel_rfl) (fun _ _ _ h => h) (Or.inl ⟨by kernel_rfl, ?_⟩) (by assumption) ?_
        rotate_left
        · intro w hSw
          obtain ⟨⟨hS0, hS1, hS2, hS3, hS4⟩, hT0, hT1, hT2, hT3, hT4⟩ := hSw
          go_simp
          all_goals with_reducible rfl
        simp only [Act.put, List.getElem_toArray, List.getElem_cons_zero, List.getElem_cons_succ, List.setIfInBounds_toArray, List.set_cons_zero, List.set_cons_succ]
        refine wpAnyH_take (i := 8) (v := ?_) rfl (by kernel_rfl) (by kernel_rfl) (by kernel_rfl) (fun _ _ _ h => h) (Or.inl ⟨by kernel_rfl, ?_⟩) (by assumption) ?_
        rotate_left
        · intro w hSw
          obtain ⟨⟨hS0, hS1, hS2, hS3, hS4⟩, hT0, hT1, hT2, hT3, hT4⟩ := hSw
          go_simp
          all_goals with_reducible rfl
        simp only [Act.put, List.getElem_toArray, List.getElem_cons_zero, List.getElem_cons_succ, List.setIfInBounds_toArray, List.set_cons_zero, List.set_cons_succ]
        refine wpAnyH_take (i := 9) (v := ?_) rfl (by kernel_rfl) (by kernel_rfl) (by kernel_rfl) (fun _ _ _ h => h) (Or.inl ⟨by kernel_rfl, ?_⟩) (by assumption) ?_
        rotate_left
        · intro w hSw
          obtain ⟨⟨hS0, hS1, hS2, hS3, hS4⟩, hT0, hT1, hT2, hT3, hT4⟩ := hSw
          go_simp
          all_goals with_reducible rfl
        simp only [Act.put, List.getElem_toArray, List.getElem_cons_zero, List.getElem_cons_succ, List.setIfInBounds_toArray, List.set_cons_zero, List.set_cons_succ]
        refine wpAnyH_ready (rs := [10]) (by kernel_rfl) (by simp) ?_
        refine AllReadyH.cons rfl (fun K hK => ?_) AllReadyH.nil
        go_simp
        go_at_call 9
        refine HX.out.mono ?_
        rintro e' w1 ⟨rfl, hb1⟩
        have HB1 := Lib.hid (below_on HBd.out hb1)
        have HE3 := Lib.hid (And.intro (HE1.out.keep hb1) (HE2.out.keep hb1))
        clear hb1
        refine hK.out _ _ HE3.out (fun hHeld => ?_)
        clear hK K
        try simp only [Act.put, List.getElem_toArray, List.getElem_cons_zero, List.getElem_cons_succ, List.setIfInBounds_toArray, List.set_cons_zero, List.set_cons_succ]
        refine wpAnyH_take (i := 11) (v := ?_) rfl (by kernel_rfl) (by kernel_rfl) (by kernel_rfl) (fun _ _ _ h => h) (Or.inl ⟨by kernel_rfl, ?_⟩) (by assumption) ?_
        rotate_left
        · intro w hSw
          go_simp
          all_goals with_reducible rfl
        simp only [Act.put, List.getElem_toArray, List.getElem_cons_zero, List.getElem_cons_succ, List.setIfInBounds_toArray, List.set_cons_zero, List.set_cons_succ]
        refine wpAnyH_done (by kernel_rfl) ?_ _
        go_wp2_with fail
        exact ⟨⟨j + 1, by omega, by go_num, HB1.out⟩, by simp [intOf]; omega⟩
      · have d1 : decide ((j : Int) < (l.length : Int)) = false := decide_eq_false (by omega)
        go_wp2_with fail
        go_ret
        exact ⟨rfl, HBr.out⟩
end Go.Proofs.YthbbfdlacclccaaDoor

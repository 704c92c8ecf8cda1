/- Walk of law1's Of. -/
import Derived.Test.YthbbfdlacclccaaDoorTb
namespace Go.Proofs.YthbbfdlacclccaaDoor
open Go.RowKit

set_option maxRecDepth 100000 in
set_option maxHeartbeats 12800000 in
theorem of_any {w : World} {x : PV} {v : Value} (h : PAt w x v) : ∀ (W : World), Below w.heap.size w W → pbulk x ≤ 1048576 →
    Calls Tryd.prog 10 #[v] W fun e w' => ∃ v', e = .returned v' ∧ PAtO (fun b => W.heap.size ≤ b) w' x v' ∧ Below W.heap.size W w' := by
  induction h with
  | mk k n s l a c vs hk hn hs hl hr hv ih =>
    intro W hb hbk
    have hbl : pbulkL l ≤ 1048576 := by
      have e : pbulk (.mk k n s l) = s.size + 1 + pbulkL l := rfl
      omega
    have hlen := pbulk_len l
    have HR := Lib.hid hr
    have HI := Lib.hid ih
    have HV := Lib.hid hv
    have HBW := Lib.hid hb
    have HBL := Lib.hid hbl
    have HK := Lib.hid (And.intro hk (And.intro hn hs))
    have hl20 : l.length ≤ 1048576 := by omega
    clear hr ih hv hb hbk hbl hlen
    have HS0 := Lib.hid (BkS.start 30 W k n s (.slice a l.length c) 27 30)
    go_enter Tryd.func10, Tryd.ntmps10
    go_wp2_with fail
    generalize (((W.alloc (.cells #[.int .i64 k, .int .i64 n, .string s, .slice a l.length c] 27)).alloc (.cells #[.int .i64 0, .int .i64 0, .string ⟨#[]⟩, .slice none 0 0] 30)).alloc (.cells #[.int .i64 k, .int .i64 n, .string s, .slice none 0 0] 30)) = V at HS0 ⊢
    go_loopw [4] (fun i wr => ∃ (j : Nat) (us : List Value) (va : Value), j ≤ l.length ∧ i = .int .i64 (j : Int) ∧ BkS 30 W k n s (.slice a l.length c) (l.take j) us va wr) (fun i _ => l.length - (intOf i).toNat)
    case atStart => exact ⟨0, [], _, Nat.zero_le _, rfl, HS0.out⟩
    case round =>
      obtain ⟨j, us, va, hj, rfl, hS⟩ := hrel
      clear HS0
      have HS := Lib.hid hS
      obtain ⟨⟨x0, x1, x2, x3⟩, -⟩ := hS.2.2.2.1
      obtain ⟨⟨p0, p1, p2, p3⟩, g0, g1, g2, g3⟩ := hS.2.2.2.2.2.1
      obtain ⟨⟨z0, z1, z2, z3⟩, f0, f1, f2, f3⟩ := hS.2.2.2.2.1
      by_cases hlt : j < l.length
      · have e1 : decide ((j : Int) < (l.length : Int)) = true := decide_eq_true (by omega)
        have hlen : j = us.length := by have := hS.2.2.1; rw [List.length_take] at this; omega
        rcases HR.out with h | ⟨b, off, rfl, hbs, hc⟩
        · omega
        obtain ⟨k', n', s', a', m', c', hvj⟩ := (HV.out j l[j] (List.getElem?_eq_getElem hlt)).form
        have hBase : Below w.heap.size w wr := HBW.out.trans (hS.2.2.2.2.2.2.mono HBW.out.size)
        have HbW := Lib.hid (Nat.lt_of_lt_of_le hbs HBW.out.size)
        have hE0 : ElemS W.heap.size b (off + j * 4) (.slice (some ⟨b, off, none⟩) l.length c) (.int .i64 k') (.int .i64 n') (.string s') (.slice a' m' c') wr := ⟨x3, ((hc j hlt).below hBase hbs).of hvj⟩
        have HX := Lib.hid (HI.out j l[j] (List.getElem?_eq_getElem hlt))
        rw [hvj] at HX
        have HPB := Lib.hid (Nat.le_trans (pbulk_get (List.getElem?_eq_getElem hlt)) HBL.out)
        have HTk := Lib.hid (show l.take (j + 1) = l.take j ++ [l[j]] from List.take_succ_eq_append_getElem hlt)
        have HLn := Lib.hid hlen
        obtain ⟨x', hx'⟩ : ∃ x', l[j] = x' := ⟨_, rfl⟩
        rw [hx'] at HX HPB HTk
        have HDr : Below wr.heap.size wr wr.drew := Below.drew (Below.refl _ _)
        have HSd := Lib.hid (hS.keep HDr)
        have HEd := Lib.hid (hE0.keep HDr)
        have HBd := Lib.hid (hBase.trans (HDr.mono hBase.size))
        obtain ⟨av, cv', rfl, -⟩ := hS.1.row (P := fun _ => True) (fun _ _ => trivial)
        rw [← hlen] at HS HSd p3
        clear hx' hc hvj hlen hS hE0 hBase HDr
        go_wp2_with fail
        refine wp_region_held_drew (S := ElemS W.heap.size b (off + j * 4) (.slice (some ⟨b, off, none⟩) l.length c) (.int .i64 k') (.int .i64 n') (.string s') (.slice a' m' c')) (by kernel_rfl) HEd.out (fun hHeld => ?_)
        clear x0 x1 x2 x3 p0 p1 p2 p3 g0 g1 g2 g3 z0 z1 z2 z3 f0 f1 f2 f3 HS
        generalize wr.drew = wd at HSd HEd HBd hHeld ⊢
        refine wpAnyH_take (i := 0) (v := ?_) rfl (by kernel_rfl) (by kernel_rfl) (by kernel_rfl) (fun _ _ _ h => h) (Or.inl ⟨by rfl, ?_⟩) (by assumption) ?_
        rotate_left
        · intro w hSw
          obtain ⟨hS0, hS1, hS2, hS3, hS4⟩ := hSw
          go_simp
          all_goals with_reducible rfl
        simp only [Act.put, List.setIfInBounds_toArray, List.set_cons_zero, List.set_cons_succ]
        refine wpAnyH_take (i := 2) (v := ?_) rfl (by kernel_rfl) (by kernel_rfl) (by kernel_rfl) (fun _ _ _ h => h) (Or.inl ⟨by rfl, ?_⟩) (by assumption) ?_
        rotate_left
        · intro w hSw
          obtain ⟨hS0, hS1, hS2, hS3, hS4⟩ := hSw
          go_simp
          all_goals with_reducible rfl
        simp only [Act.put, List.setIfInBounds_toArray, List.set_cons_zero, List.set_cons_succ]
        refine wpAnyH_take (i := 3) (v := ?_) rfl (by kernel_rfl) (by kernel_rfl) (by kernel_rfl) (fun _ _ _ h => h) (Or.inl ⟨by rfl, ?_⟩) (by assumption) ?_
        rotate_left
        · intro w hSw
          obtain ⟨hS0, hS1, hS2, hS3, hS4⟩ := hSw
          go_simp
          all_goals with_reducible rfl
        simp only [Act.put, List.setIfInBounds_toArray, List.set_cons_zero, List.set_cons_succ]
        refine wpAnyH_take (i := 4) (v := ?_) rfl (by kernel_rfl) (by kernel_rfl) (by kernel_rfl) (fun _ _ _ h => h) (Or.inl ⟨by rfl, ?_⟩) (by assumption) ?_
        rotate_left
        · intro w hSw
          obtain ⟨hS0, hS1, hS2, hS3, hS4⟩ := hSw
          go_simp
          all_goals with_reducible rfl
        simp only [Act.put, List.setIfInBounds_toArray, List.set_cons_zero, List.set_cons_succ]
        refine wpAnyH_take (i := 5) (v := ?_) rfl (by kernel_rfl) (by kernel_rfl) (by kernel_rfl) (fun _ _ _ h => h) (Or.inl ⟨by rfl, ?_⟩) (by assumption) ?_
        rotate_left
        · intro w hSw
          obtain ⟨hS0, hS1, hS2, hS3, hS4⟩ := hSw
          go_simp
          all_goals with_reducible rfl
        simp only [Act.put, List.setIfInBounds_toArray, List.set_cons_zero, List.set_cons_succ]
        refine wpAnyH_take (i := 6) (v := ?_) rfl (by kernel_rfl) (by kernel_rfl) (by kernel_rfl) (fun _ _ _ h => h) (Or.inl ⟨by rfl, ?_⟩) (by assumption) ?_
        rotate_left
        · intro w hSw
          obtain ⟨hS0, hS1, hS2, hS3, hS4⟩ := hSw
          go_simp
          all_goals with_reducible rfl
        simp only [Act.put, List.setIfInBounds_toArray, List.set_cons_zero, List.set_cons_succ]
        refine wpAnyH_ready (rs := [1, 7]) (by kernel_rfl) (by simp) ?_
        refine AllReadyH.cons rfl (fun K hK => ?_) (AllReadyH.cons rfl (fun K hK => ?_) AllReadyH.nil)
        · skip
          obtain ⟨⟨p0, p1, p2, p3⟩, -⟩ := HSd.out.2.2.2.2.2.1
          go_simp
          refine hK.out _ _ HEd.out (fun hHeld => ?_)
          clear hK K p0 p1 p2 p3
          try simp only [Act.put, List.setIfInBounds_toArray, List.set_cons_zero, List.set_cons_succ]
          refine wpAnyH_ready (rs := [7]) (by kernel_rfl) (by simp) ?_
          refine AllReadyH.cons rfl (fun K hK => ?_) AllReadyH.nil
          go_simp
          go_at_call 10
          refine (HX.out wd HBd.out HPB.out).mono ?_
          rintro e' w1 ⟨v1, rfl, hp, hb1⟩
          obtain ⟨k1, n1, s1, a1, m1, c1, rfl⟩ := hp.form
          have HS1 := Lib.hid (HSd.out.keep hb1)
          have HE1 := Lib.hid (HEd.out.keep hb1)
          have HP1 := Lib.hid (hp.imp (Q := fun b => W.heap.size + 1 + 1 + 1 ≤ b ∧ Far (.slice av j cv') b) (fun b _ hb => ⟨by have := cell_old HSd.out.2.2.2.2.2.1.1.1; simp at this; omega, (far_own HSd.out.1.1).1 b hb⟩))
          clear hp hb1
          refine hK.out _ _ HE1.out (fun hHeld => ?_)
          clear hK K
          try simp only [Act.put, List.setIfInBounds_toArray, List.set_cons_zero, List.set_cons_succ]
          refine wpAnyH_ready (rs := [8]) (by kernel_rfl) (by simp) ?_
          refine AllReadyH.cons rfl (fun K hK => ?_) AllReadyH.nil
          go_simp
          have HS2 := Lib.hid (HS1.out.keep (below_alloc (Below.refl _ _) (.cells #[.int .i64 k1, .int .i64 n1, .string s1, .slice a1 m1 c1] 30)))
          have HE2 := Lib.hid (HE1.out.keep (below_alloc (Below.refl _ _) (.cells #[.int .i64 k1, .int .i64 n1, .string s1, .slice a1 m1 c1] 30)))
          have HP2 := Lib.hid (HP1.out.keep (below_alloc (Below.refl _ _) (.cells #[.int .i64 k1, .int .i64 n1, .string s1, .slice a1 m1 c1] 30)))
          have HN2 := Lib.hid (rowAt_new4 w1 (.int .i64 k1) (.int .i64 n1) (.string s1) (.slice a1 m1 c1) 30 _ rfl)
          refine hK.out _ _ HE2.out (fun hHeld => ?_)
          clear hK K
          try simp only [Act.put, List.setIfInBounds_toArray, List.set_cons_zero, List.set_cons_succ]
          generalize w1.alloc (.cells #[.int .i64 k1, .int .i64 n1, .string s1, .slice a1 m1 c1] 30) = W2 at HS2 HE2 HP2 HN2 hHeld ⊢
          refine wpAnyH_ready (rs := [9]) (by kernel_rfl) (by simp) ?_
          refine AllReadyH.cons rfl (fun K hK => ?_) AllReadyH.nil
          refine step_append_far rfl _ _ 22 rfl (W.heap.size + 1 + 1 + 1) 30 _ 4 56 tyRefs (.slice av j cv') j (cells4 us) rfl (by have := HS2.out.1.1; rw [← HLn.out] at this; exact this) _ 1 1 [.int .i64 k1, .int .i64 n1, .string s1, .slice a1 m1 c1] rfl rfl HN2.out (by simp [Value.oneCell']) (by unfold maxLen; omega) (by omega) (by have := cell_old HS2.out.2.2.2.2.2.1.1.1; simp at this ⊢; omega) ?_
          intro v' w' own' G
          obtain ⟨a5, c5, rfl, _⟩ := ownsRow_row own'
          have HQ := Lib.hid (HS2.out.2.2.2.2.2.1.belowB G.1 (by omega))
          have HE5 := Lib.hid (HE2.out.belowB G.1 (by omega) (by have := HbW.out; omega))
          have HPush := Lib.hid (BkS.push HS2.out HP2.out (by rw [← HLn.out]; exact own') G)
          have HE6 := Lib.hid (HE5.out.set (B := W.heap.size + 1 + 1) (i := 3) (u := .slice a5 (j + 1) c5) (by omega) (by have := HbW.out; omega))
          clear own' G
          refine hK.out _ _ HE5.out (fun hHeld => ?_)
          clear hK K
          try simp only [Act.put, List.setIfInBounds_toArray, List.set_cons_zero, List.set_cons_succ]
          obtain ⟨⟨q0, q1, q2, q3⟩, g0, g1, g2, g3⟩ := HQ.out
          refine wpAnyH_take (i := 10) (v := ?_) rfl (by kernel_rfl) (by kernel_rfl) (by kernel_rfl) (fun _ _ _ h => h) (Or.inl ⟨by rfl, ?_⟩) (by assumption) ?_
          rotate_left
          · intro w hSw
            obtain ⟨hS0, hS1, hS2, hS3, hS4⟩ := hSw
            go_simp
            all_goals with_reducible rfl
          simp only [Act.put, List.setIfInBounds_toArray, List.set_cons_zero, List.set_cons_succ]
          refine wpAnyH_ready (rs := [11]) (by kernel_rfl) (by simp) ?_
          refine AllReadyH.cons rfl (fun K hK => ?_) AllReadyH.nil
          go_simp
          refine hK.out _ _ HE6.out (fun hHeld => ?_)
          clear hK K
          try simp only [Act.put, List.setIfInBounds_toArray, List.set_cons_zero, List.set_cons_succ]
          refine wpAnyH_done (by kernel_rfl) ?_ _
          clear q0 q1 q2 q3 g0 g1 g2 g3
          go_wp2_with fail
          exact ⟨⟨j + 1, _, _, by omega, by go_num, by rw [HTk.out]; exact HPush.out⟩, by simp [intOf]; omega⟩
        · skip
          go_simp
          go_at_call 10
          refine (HX.out wd HBd.out HPB.out).mono ?_
          rintro e' w1 ⟨v1, rfl, hp, hb1⟩
          obtain ⟨k1, n1, s1, a1, m1, c1, rfl⟩ := hp.form
          have HS1 := Lib.hid (HSd.out.keep hb1)
          have HE1 := Lib.hid (HEd.out.keep hb1)
          have HP1 := Lib.hid (hp.imp (Q := fun b => W.heap.size + 1 + 1 + 1 ≤ b ∧ Far (.slice av j cv') b) (fun b _ hb => ⟨by have := cell_old HSd.out.2.2.2.2.2.1.1.1; simp at this; omega, (far_own HSd.out.1.1).1 b hb⟩))
          clear hp hb1
          refine hK.out _ _ HE1.out (fun hHeld => ?_)
          clear hK K
          try simp only [Act.put, List.setIfInBounds_toArray, List.set_cons_zero, List.set_cons_succ]
          refine wpAnyH_ready (rs := [1, 8]) (by kernel_rfl) (by simp) ?_
          refine AllReadyH.cons rfl (fun K hK => ?_) (AllReadyH.cons rfl (fun K hK => ?_) AllReadyH.nil)
          · skip
            obtain ⟨⟨p0, p1, p2, p3⟩, -⟩ := HS1.out.2.2.2.2.2.1
            go_simp
            refine hK.out _ _ HE1.out (fun hHeld => ?_)
            clear hK K p0 p1 p2 p3
            try simp only [Act.put, List.setIfInBounds_toArray, List.set_cons_zero, List.set_cons_succ]
            refine wpAnyH_ready (rs := [8]) (by kernel_rfl) (by simp) ?_
            refine AllReadyH.cons rfl (fun K hK => ?_) AllReadyH.nil
            go_simp
            have HS2 := Lib.hid (HS1.out.keep (below_alloc (Below.refl _ _) (.cells #[.int .i64 k1, .int .i64 n1, .string s1, .slice a1 m1 c1] 30)))
            have HE2 := Lib.hid (HE1.out.keep (below_alloc (Below.refl _ _) (.cells #[.int .i64 k1, .int .i64 n1, .string s1, .slice a1 m1 c1] 30)))
            have HP2 := Lib.hid (HP1.out.keep (below_alloc (Below.refl _ _) (.cells #[.int .i64 k1, .int .i64 n1, .string s1, .slice a1 m1 c1] 30)))
            have HN2 := Lib.hid (rowAt_new4 w1 (.int .i64 k1) (.int .i64 n1) (.string s1) (.slice a1 m1 c1) 30 _ rfl)
            refine hK.out _ _ HE2.out (fun hHeld => ?_)
            clear hK K
            try simp only [Act.put, List.setIfInBounds_toArray, List.set_cons_zero, List.set_cons_succ]
            generalize w1.alloc (.cells #[.int .i64 k1, .int .i64 n1, .string s1, .slice a1 m1 c1] 30) = W2 at HS2 HE2 HP2 HN2 hHeld ⊢
            refine wpAnyH_ready (rs := [9]) (by kernel_rfl) (by simp) ?_
            refine AllReadyH.cons rfl (fun K hK => ?_) AllReadyH.nil
            refine step_append_far rfl _ _ 22 rfl (W.heap.size + 1 + 1 + 1) 30 _ 4 56 tyRefs (.slice av j cv') j (cells4 us) rfl (by have := HS2.out.1.1; rw [← HLn.out] at this; exact this) _ 1 1 [.int .i64 k1, .int .i64 n1, .string s1, .slice a1 m1 c1] rfl rfl HN2.out (by simp [Value.oneCell']) (by unfold maxLen; omega) (by omega) (by have := cell_old HS2.out.2.2.2.2.2.1.1.1; simp at this ⊢; omega) ?_
            intro v' w' own' G
            obtain ⟨a5, c5, rfl, _⟩ := ownsRow_row own'
            have HQ := Lib.hid (HS2.out.2.2.2.2.2.1.belowB G.1 (by omega))
            have HE5 := Lib.hid (HE2.out.belowB G.1 (by omega) (by have := HbW.out; omega))
            have HPush := Lib.hid (BkS.push HS2.out HP2.out (by rw [← HLn.out]; exact own') G)
            have HE6 := Lib.hid (HE5.out.set (B := W.heap.size + 1 + 1) (i := 3) (u := .slice a5 (j + 1) c5) (by omega) (by have := HbW.out; omega))
            clear own' G
            refine hK.out _ _ HE5.out (fun hHeld => ?_)
            clear hK K
            try simp only [Act.put, List.setIfInBounds_toArray, List.set_cons_zero, List.set_cons_succ]
            obtain ⟨⟨q0, q1, q2, q3⟩, g0, g1, g2, g3⟩ := HQ.out
            refine wpAnyH_take (i := 10) (v := ?_) rfl (by kernel_rfl) (by kernel_rfl) (by kernel_rfl) (fun _ _ _ h => h) (Or.inl ⟨by rfl, ?_⟩) (by assumption) ?_
            rotate_left
            · intro w hSw
              obtain ⟨hS0, hS1, hS2, hS3, hS4⟩ := hSw
              go_simp
              all_goals with_reducible rfl
            simp only [Act.put, List.setIfInBounds_toArray, List.set_cons_zero, List.set_cons_succ]
            refine wpAnyH_ready (rs := [11]) (by kernel_rfl) (by simp) ?_
            refine AllReadyH.cons rfl (fun K hK => ?_) AllReadyH.nil
            go_simp
            refine hK.out _ _ HE6.out (fun hHeld => ?_)
            clear hK K
            try simp only [Act.put, List.setIfInBounds_toArray, List.set_cons_zero, List.set_cons_succ]
            refine wpAnyH_done (by kernel_rfl) ?_ _
            clear q0 q1 q2 q3 g0 g1 g2 g3
            go_wp2_with fail
            exact ⟨⟨j + 1, _, _, by omega, by go_num, by rw [HTk.out]; exact HPush.out⟩, by simp [intOf]; omega⟩
          · skip
            go_simp
            have HS2 := Lib.hid (HS1.out.keep (below_alloc (Below.refl _ _) (.cells #[.int .i64 k1, .int .i64 n1, .string s1, .slice a1 m1 c1] 30)))
            have HE2 := Lib.hid (HE1.out.keep (below_alloc (Below.refl _ _) (.cells #[.int .i64 k1, .int .i64 n1, .string s1, .slice a1 m1 c1] 30)))
            have HP2 := Lib.hid (HP1.out.keep (below_alloc (Below.refl _ _) (.cells #[.int .i64 k1, .int .i64 n1, .string s1, .slice a1 m1 c1] 30)))
            have HN2 := Lib.hid (rowAt_new4 w1 (.int .i64 k1) (.int .i64 n1) (.string s1) (.slice a1 m1 c1) 30 _ rfl)
            refine hK.out _ _ HE2.out (fun hHeld => ?_)
            clear hK K
            try simp only [Act.put, List.setIfInBounds_toArray, List.set_cons_zero, List.set_cons_succ]
            generalize w1.alloc (.cells #[.int .i64 k1, .int .i64 n1, .string s1, .slice a1 m1 c1] 30) = W2 at HS2 HE2 HP2 HN2 hHeld ⊢
            refine wpAnyH_ready (rs := [1]) (by kernel_rfl) (by simp) ?_
            refine AllReadyH.cons rfl (fun K hK => ?_) AllReadyH.nil
            obtain ⟨⟨p0, p1, p2, p3⟩, -⟩ := HS2.out.2.2.2.2.2.1
            go_simp
            refine hK.out _ _ HE2.out (fun hHeld => ?_)
            clear hK K p0 p1 p2 p3
            try simp only [Act.put, List.setIfInBounds_toArray, List.set_cons_zero, List.set_cons_succ]
            refine wpAnyH_ready (rs := [9]) (by kernel_rfl) (by simp) ?_
            refine AllReadyH.cons rfl (fun K hK => ?_) AllReadyH.nil
            refine step_append_far rfl _ _ 22 rfl (W.heap.size + 1 + 1 + 1) 30 _ 4 56 tyRefs (.slice av j cv') j (cells4 us) rfl (by have := HS2.out.1.1; rw [← HLn.out] at this; exact this) _ 1 1 [.int .i64 k1, .int .i64 n1, .string s1, .slice a1 m1 c1] rfl rfl HN2.out (by simp [Value.oneCell']) (by unfold maxLen; omega) (by omega) (by have := cell_old HS2.out.2.2.2.2.2.1.1.1; simp at this ⊢; omega) ?_
            intro v' w' own' G
            obtain ⟨a5, c5, rfl, _⟩ := ownsRow_row own'
            have HQ := Lib.hid (HS2.out.2.2.2.2.2.1.belowB G.1 (by omega))
            have HE5 := Lib.hid (HE2.out.belowB G.1 (by omega) (by have := HbW.out; omega))
            have HPush := Lib.hid (BkS.push HS2.out HP2.out (by rw [← HLn.out]; exact own') G)
            have HE6 := Lib.hid (HE5.out.set (B := W.heap.size + 1 + 1) (i := 3) (u := .slice a5 (j + 1) c5) (by omega) (by have := HbW.out; omega))
            clear own' G
            refine hK.out _ _ HE5.out (fun hHeld => ?_)
            clear hK K
            try simp only [Act.put, List.setIfInBounds_toArray, List.set_cons_zero, List.set_cons_succ]
            obtain ⟨⟨q0, q1, q2, q3⟩, g0, g1, g2, g3⟩ := HQ.out
            refine wpAnyH_take (i := 10) (v := ?_) rfl (by kernel_rfl) (by kernel_rfl) (by kernel_rfl) (fun _ _ _ h => h) (Or.inl ⟨by rfl, ?_⟩) (by assumption) ?_
            rotate_left
            · intro w hSw
              obtain ⟨hS0, hS1, hS2, hS3, hS4⟩ := hSw
              go_simp
              all_goals with_reducible rfl
            simp only [Act.put, List.setIfInBounds_toArray, List.set_cons_zero, List.set_cons_succ]
            refine wpAnyH_ready (rs := [11]) (by kernel_rfl) (by simp) ?_
            refine AllReadyH.cons rfl (fun K hK => ?_) AllReadyH.nil
            go_simp
            refine hK.out _ _ HE6.out (fun hHeld => ?_)
            clear hK K
            try simp only [Act.put, List.setIfInBounds_toArray, List.set_cons_zero, List.set_cons_succ]
            refine wpAnyH_done (by kernel_rfl) ?_ _
            clear q0 q1 q2 q3 g0 g1 g2 g3
            go_wp2_with fail
            exact ⟨⟨j + 1, _, _, by omega, by go_num, by rw [HTk.out]; exact HPush.out⟩, by simp [intOf]; omega⟩
      · have e1 : decide ((j : Int) < (l.length : Int)) = false := decide_eq_false (by omega)
        have hjl : j = l.length := by omega
        rw [hjl, List.take_length] at HS
        clear hS hlt
        obtain ⟨a9, c9, hva, -⟩ := HS.out.value HK.out.1 HK.out.2.1 HK.out.2.2 hl20 (Nat.le_refl _) (fun _ _ _ _ => rfl)
        subst hva
        go_wp2_with fail
        obtain ⟨y0, y1, y2, y3⟩ := set_four (.int .i64 k) (.int .i64 n) (.string s) (.slice a9 l.length c9) HS.out.2.2.2.2.1
        refine bodyPost_ret (v := .agg #[.int .i64 k, .int .i64 n, .string s, .slice a9 l.length c9]) (by simp [results, Tryd.results10, go_sem, y0, y1, y2, y3]) rfl ?_
        obtain ⟨a2, c2, e2, hp⟩ := HS.out.value HK.out.1 HK.out.2.1 HK.out.2.2 hl20 (W := ((((wr.setCell ⟨W.heap.size + 1, 0, none⟩ (.int .i64 k)).setCell ⟨W.heap.size + 1, 1, none⟩ (.int .i64 n)).setCell ⟨W.heap.size + 1, 2, none⟩ (.string s)).setCell ⟨W.heap.size + 1, 3, none⟩ (.slice a9 l.length c9))) (by simp) (fun b hb _ i => set4_other (by omega) i)
        simp only [Value.slice.injEq, true_and] at e2
        obtain ⟨rfl, rfl⟩ := e2
        exact ⟨_, rfl, hp, below_set4 HS.out.2.2.2.2.2.2 (by omega) _ _ _ _⟩
end Go.Proofs.YthbbfdlacclccaaDoor

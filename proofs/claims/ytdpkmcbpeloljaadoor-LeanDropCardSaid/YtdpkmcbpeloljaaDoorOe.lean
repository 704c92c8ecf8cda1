/- LeanDrop: the walk. -/
import Derived.Test.YtdpkmcbpeloljaaDoorOh
namespace Go.Proofs.YtdpkmcbpeloljaaDoor
open Go.RowKit

set_option maxRecDepth 100000 in
set_option maxHeartbeats 6400000 in
theorem leanDrop_walk (a0 : Option Addr) (c0 : Nat) (ls : List Int) (s : ByteArray) (n : Int) (w : World) (hz : IntsAt w a0 ls) (hl : ls.length ≤ 9223372036854775807) (hs : s.size ≤ 9223372036854775807) (L : Laid w) :
    Calls Tryd.prog 3 #[.slice a0 ls.length c0, .string s, .int .i64 n] w fun e' w' => e' = .returned (.bool true) ∧ Below w.heap.size w w' := by
  obtain ⟨A, hA⟩ : ∃ A, Hid (cutS s 40 = A) := ⟨_, Lib.hid rfl⟩
  have sA : A.size ≤ 9223372036854775807 := by rw [← hA.out, cutS_size]; omega
  have HL := Lib.hid L
  have HZ := Lib.hid hz
  have HB : Hid (Below w.heap.size w w) := Lib.hid (Below.refl _ _)
  clear L hz
  go_enter Tryd.func3, Tryd.ntmps3
  go_wp2_with (first | (go_at_call 7; refine (begun14_any _ HL.out).mono ?_; rintro e' w1 ⟨rfl, hb⟩; have HB := Lib.hid (below_on HB.out hb); clear hb) | (go_at_call 8; refine (cut_h s A 40 40 _ hA hs (by decide) rfl).mono ?_; rintro e' w' ⟨rfl, rfl⟩))
  have S : GaR w1.heap.size (w1.heap.size + 1) w 1 (gath (ls.take 0)) (w1.alloc (.cells #[.int .i64 1, .slice none 0 0, .int .i64 0] 26)) :=
    ⟨none, 0, Bx.new _ _ _ _ _, World.ownsRow_nil _ _ _ _, below_alloc HB.out _, by omega, HB.out.size, by simp⟩
  generalize w1.alloc (.cells #[.int .i64 1, .slice none 0 0, .int .i64 0] 26) = V at S ⊢
  generalize w1.heap.size = B at S ⊢
  clear HB
  have HS := Lib.hid S
  clear S
  go_loopw [9] (fun i wr => ∃ k : Nat, k ≤ ls.length ∧ k ≤ 5 ∧ i = .int .i64 k ∧ GaR B (B + 1) w 1 (gath (ls.take k)) wr) (fun i _ => 5 - (intOf i).toNat)
  case atStart => exact ⟨0, Nat.zero_le _, by omega, rfl, HS.out⟩
  case round =>
    obtain ⟨k, hk, hk5, rfl, hI⟩ := hrel
    clear HS
    obtain ⟨wo, rfl⟩ : ∃ wo : World, wo = wr := ⟨_, rfl⟩
    obtain ⟨ys, hys⟩ : ∃ ys, gath (ls.take k) = ys := ⟨_, rfl⟩
    have hyl : ys.length ≤ 5 := by rw [← hys]; have := gath_len (ls.take k); simp at this; omega
    have HM : Hid (mayL ys = true) := Lib.hid (by rw [← hys]; exact gath_mayL _)
    rw [hys] at hI
    have HI := Lib.hid hI
    obtain ⟨a, c, hx, ho, hlow, hBD, hwB, hsz⟩ := hI
    have HX := Lib.hid hx
    have HO := Lib.hid ho
    have HW := Lib.hid hlow
    obtain ⟨x0, x1, x2, -⟩ := hx
    clear ho hlow hBD
    by_cases hlt : k < ls.length ∧ k < 5
    · obtain ⟨hlt1, hlt2⟩ := hlt
      obtain ⟨bn, on, rfl, -, hcn⟩ := (HZ.out.below HW.out (Nat.le_refl _)).form (by omega)
      have d0 := hcn k hlt1
      clear hcn
      have p1 : (k : Int) < (ls.length : Int) := by omega
      have p2 : (k : Int) < 5 := by omega
      have HT : Hid (gath (ls.take (k + 1)) = gstep ys (nthI ls k)) := Lib.hid (by rw [gath_take ls k hlt1, hys])
      obtain ⟨v, hv⟩ : ∃ v, nthI ls k = v := ⟨_, rfl⟩
      rw [hv] at d0 HT
      obtain ⟨m, hm⟩ : ∃ m, v.tmod 5 = m := ⟨_, rfl⟩
      have m1 : -5 < m := by rw [← hm]; have := Int.tmod_lt_of_pos (-v) (show (0:Int) < 5 by decide); rw [Int.neg_tmod] at this; omega
      have m2 : m < 5 := by rw [← hm]; exact Int.tmod_lt_of_pos _ (by decide)
      have hmH := Lib.hid hm
      clear hys
      go_upto_region 10 with fail
      obtain ⟨q, hq⟩ : ∃ q, 1 + m % 5 = q := ⟨_, rfl⟩
      have hqH := Lib.hid hq
      rw [hq]
      clear m1 m2 hm d0 hq hv
      obtain ⟨ix, hix⟩ : ∃ ix, idx ys q = ix := ⟨_, rfl⟩
      have hixH := Lib.hid hix
      by_cases hin : q ∈ ys
      · have e1 : decide (ix < 0) = false := decide_eq_false (by rw [← hix]; have := idx_in hin; omega)
        have HG : Hid (gath (ls.take (k + 1)) = ys) := Lib.hid (by rw [HT.out, gstep_yes hmH.out hqH.out hin])
        clear hix hin
        go_wp2_with (go_at_call 9; refine (spot_h _ _ _ ix _ _ _ _ (by omega) (own_ints HO.out) hixH.out).mono ?_; rintro e' w4 ⟨rfl, hb⟩; have HI4 := Lib.hid (HI.out.keep hb); clear hb)
        go_roundw
        case rel => exact ⟨k + 1, by omega, by omega, by go_num, by rw [HG.out]; exact HI4.out⟩
        case measure => simp [intOf]; omega
      · have e1 : decide (ix < 0) = true := decide_eq_true (by rw [← hix, idx_no hin]; decide)
        have HG : Hid (gath (ls.take (k + 1)) = ys ++ [q]) := Lib.hid (by rw [HT.out, gstep_no hmH.out hqH.out hin])
        clear hix hin x0 x1 x2
        obtain ⟨x0, x1, x2, -⟩ := HX.out
        go_upto_region 11 with (go_at_call 9; refine (spot_h _ _ _ ix _ _ _ _ (by omega) (own_ints HO.out) hixH.out).mono ?_; rintro e' w4 ⟨rfl, hb⟩; have HX4 := Lib.hid (HX.out.keep hb); have HO4 := Lib.hid (ownsRow_below HO.out hb); have HW4 := Lib.hid (below_on HW.out hb); have hsz4 : B + 1 ≤ w4.heap.size := Nat.le_trans hsz hb.size; clear hb)
        clear x0 x1 x2
        obtain ⟨x0, x1, x2, -⟩ := HX4.out
        go_wp2_with (at_builtin; refine wpList_append_any rfl _ _ 22 rfl (B + 1) 3 _ 1 8 tyInts _ ys.length (ys.map (.int .i64)) rfl (ownsRow_below HO4.out (below_alloc (Below.refl _ _) _)) _ 1 1 [.int .i64 q] rfl rfl (RowAt.new _ _ _) (by simp [Value.oneCell']) (by unfold maxLen; omega) (by omega) ?c3 ?_; (case c3 => simp; omega); intro v' w' own' hb'; obtain ⟨a', c', rfl, -, -⟩ := own_cap (ownI_snoc rfl own'); have HO2 := Lib.hid (ownI_snoc rfl own'); have HX2 := Lib.hid ((HX4.out.keep (below_alloc (Below.refl _ _) _)).low hb' (Nat.lt_succ_self B)); have HW2 := Lib.hid ((below_alloc HW4.out _).trans (hb'.mono (by omega))); obtain ⟨y0, y1, y2, g0, g1, g2⟩ := HX2.out; have hsz2 : B + 1 ≤ w'.heap.size := Nat.le_trans (by simp; omega) hb'.size; clear own' hb')
        go_roundw
        case rel => exact ⟨k + 1, by omega, by omega, by go_num, by rw [HG.out]; exact ⟨a', c', by rw [show (ys ++ [q]).length = ys.length + 1 by simp]; exact HX2.out.set1 _, ownsRow_setCell_below HO2.out (a := ⟨B, 1, none⟩) (Nat.lt_succ_self B) _, HW2.out.setCell (p := ⟨B, 1, none⟩) hwB _, Nat.lt_succ_self B, hwB, by simp; omega⟩⟩
        case measure => simp [intOf]; omega
    · have hy0 : ∀ z ∈ ys, z ≠ 0 := fun z hz' => by have := (mayL_iff.1 HM.out).1 z hz'; omega
      have HY0 := Lib.hid hy0
      clear hy0
      clear hys
      have p12 : ¬ ((k : Int) < (ls.length : Int) ∧ (k : Int) < 5) := by omega
      by_cases hy2 : ys.length < 2
      · have e2 : decide ((ys.length : Int) < 2) = true := decide_eq_true (by omega)
        by_cases p1 : (k : Int) < (ls.length : Int)
        · have p2 : ¬ (k : Int) < 5 := by omega
          clear p12 hlt
          go_wp2_with fail
          go_ret
          exact ⟨rfl, HW.out⟩
        · clear p12 hlt
          go_wp2_with fail
          go_ret
          exact ⟨rfl, HW.out⟩
      · have e2 : decide ((ys.length : Int) < 2) = false := decide_eq_false (by omega)
        obtain ⟨g, off, rfl, -, hcy⟩ := (own_ints HO.out).form (by omega)
        obtain ⟨t, ht⟩ : ∃ t, n.tmod (ys.length : Int) = t := ⟨_, rfl⟩
        have t1 : -(ys.length : Int) < t := by rw [← ht]; have := Int.tmod_lt_of_pos (-n) (show (0:Int) < (ys.length : Int) by omega); rw [Int.neg_tmod] at this; omega
        have t2 : t < (ys.length : Int) := by rw [← ht]; exact Int.tmod_lt_of_pos _ (by omega)
        obtain ⟨j, hj⟩ : ∃ j : Nat, (t + (ys.length : Int)).tmod (ys.length : Int) = (j : Int) := ⟨((t + (ys.length : Int)).tmod (ys.length : Int)).toNat, by have := Int.tmod_nonneg (ys.length : Int) (show 0 ≤ t + (ys.length : Int) by omega); omega⟩
        have hjl : j < ys.length := by have := Int.tmod_lt_of_pos (t + (ys.length : Int)) (show (0:Int) < (ys.length : Int) by omega); omega
        have hj2 : (t + (ys.length : Int)) % (ys.length : Int) = (j : Int) := by rw [← Int.tmod_eq_emod_of_nonneg (by omega)]; exact hj
        have hj3 : t % (ys.length : Int) = (j : Int) := by rw [← hj2, Int.add_emod_right]
        have d0 := hcy j hjl
        have hz : ((ys.length : Int) == 0) = false := by rw [beq_eq_false_iff_ne]; omega
        have hz' : (ys.length == 0) = false := by rw [beq_eq_false_iff_ne]; omega
        have wr1 : IntKind.i64.wrap t = t := IntWalk.i64_in _ (by omega)
        have wr2 : IntKind.i64.wrap (t + (ys.length : Int)) = t + (ys.length : Int) := IntWalk.i64_in _ (by omega)
        have wr3 : IntKind.i64.wrap (j : Int) = (j : Int) := IntWalk.i64_in _ (by omega)
        have HD := Lib.hid (fun w' (hw : Below wo.heap.size wo w') => dropNode_ok (some ⟨g, off, none⟩) c ys j w' ((own_ints HO.out).keep hw) (by obtain ⟨_, _, h1, _, h2⟩ := own_cap HO.out; simp only [Value.slice.injEq] at h1; omega) hjl HM.out (by omega) hyl)
        have hq : nthI ys j ∈ ys := nth_mem hjl
        have hother : ∃ x, x ∈ ys ∧ x ≠ nthI ys j := by
          by_cases hj0 : j = 0
          · exact ⟨nthI ys 1, nth_mem (by omega), fun e => by have := nthI_inj HM.out (by omega) hjl e; omega⟩
          · exact ⟨nthI ys 0, nth_mem (by omega), fun e => by have := nthI_inj HM.out (by omega) hjl e; omega⟩
        have HP := Lib.hid (pick_drop A.data.toList ys (ys.eraseIdx j) (nthI ys j) HY0.out (fun z => mem_erase HM.out hjl z) hother)
        obtain ⟨q, hqn⟩ : ∃ q, nthI ys j = q := ⟨_, rfl⟩
        obtain ⟨P1, hP1⟩ : ∃ p, pick A.data.toList 0 ys = p := ⟨_, rfl⟩
        obtain ⟨P2, hP2⟩ : ∃ p, pick A.data.toList 0 (ys.eraseIdx j) = p := ⟨_, rfl⟩
        have HK1 : Hid (∀ w', Below wo.heap.size wo w' → Calls Tryd.prog 11 #[.agg #[.int .i64 1, .slice (some ⟨g, off, none⟩) ys.length c, .int .i64 0], .string A] w' fun e' w'' => e' = .returned (.int .i64 P1) ∧ Below w'.heap.size w' w'') := Lib.hid (fun w' hw => by rw [← hP1]; exact pick_any 1 _ c ys 0 A w' (by omega) ((own_ints HO.out).keep hw) sA)
        rw [hqn] at d0 HD HP
        rw [hP1, hP2] at HP
        have HP2 := Lib.hid hP2
        clear hcy hq hother hqn hP1 hP2
        have HFin := HP.out
        have hP2q : (P2 == q) = false := by rw [beq_eq_false_iff_ne]; exact HFin.1
        have hP2q' : (P2 != q) = true := by rw [bne_iff_ne]; exact HFin.1
        have hqP2 : (q == P2) = false := by rw [beq_eq_false_iff_ne]; exact fun e => HFin.1 e.symm
        have hPP : (P1 == P2) = true ∨ ((P1 == P2) = false ∧ (P1 == q) = true) := by
          rcases HFin.2 with h | h
          · left; rw [beq_iff_eq]; exact h
          · right; rw [h]; exact ⟨hqP2, by simp⟩
        have HPP := Lib.hid hPP
        clear HFin hPP
        by_cases p1 : (k : Int) < (ls.length : Int)
        · have p2 : ¬ (k : Int) < 5 := by omega
          clear p12 hlt
          go_upto_region 14 with fail
          go_quiet (fail)
          go_upto_region 15 with fail
          have hdr := Lib.hid (below_drewN (Below.refl wo.heap.size wo) nq)
          have HXd := Lib.hid (HX.out.keep hdr.out)
          have HWd := Lib.hid (below_on HW.out hdr.out)
          clear x0 x1 x2 d0
          obtain ⟨V2, hV2⟩ : ∃ V, wo.drewN nq = V := ⟨_, rfl⟩
          rw [hV2] at hdr HXd HWd ⊢
          clear hV2
          obtain ⟨x0, x1, x2, -⟩ := HXd.out
          go_upto_region 18 with (go_at_call 10; refine (HD.out _ hdr.out).mono ?_; rintro e' w5 ⟨v5, rfl, ho5, hb⟩; obtain ⟨a5, c5, rfl, hi5, -⟩ := own_cap ho5; have HI5 := Lib.hid (hi5.alloc (.cells #[.int .i64 2, .slice a5 (ys.eraseIdx j).length c5, .int .i64 0] 26)); have HX5 := Lib.hid ((HXd.out.keep hb).keep (below_alloc (Below.refl _ _) (.cells #[.int .i64 2, .slice a5 (ys.eraseIdx j).length c5, .int .i64 0] 26))); have HN5 := Lib.hid (Bx.new w5 (.int .i64 2) (.slice a5 (ys.eraseIdx j).length c5) (.int .i64 0) 26); have HD5 := Lib.hid (below_alloc (below_on hdr.out hb) (.cells #[.int .i64 2, .slice a5 (ys.eraseIdx j).length c5, .int .i64 0] 26)); have HW5 := Lib.hid (below_alloc (below_on HWd.out hb) (.cells #[.int .i64 2, .slice a5 (ys.eraseIdx j).length c5, .int .i64 0] 26)); clear hb ho5 hi5)
          clear x0 x1 x2
          generalize w5.alloc (.cells #[.int .i64 2, .slice a5 (ys.eraseIdx j).length c5, .int .i64 0] 26) = V6 at HI5 HX5 HN5 HD5 HW5 ⊢
          generalize w5.heap.size = C at HN5 ⊢
          have HK2 : Hid (∀ w', Below V6.heap.size V6 w' → Calls Tryd.prog 11 #[.agg #[.int .i64 2, .slice a5 (ys.eraseIdx j).length c5, .int .i64 0], .string A] w' fun e' w'' => e' = .returned (.int .i64 P2) ∧ Below w'.heap.size w' w'') := Lib.hid (fun w' hw => by rw [← HP2.out]; exact pick_any 2 _ c5 (ys.eraseIdx j) 0 A w' (by have : (ys.eraseIdx j).length ≤ ys.length := List.length_eraseIdx_le ys j; omega) (HI5.out.keep hw) sA)
          have HC := Lib.hid (Below.refl V6.heap.size V6).drew
          obtain ⟨x0, x1, x2, -⟩ := HX5.out
          obtain ⟨y0, y1, y2, -⟩ := HN5.out
          rcases HPP.out with hPP | ⟨hPP, hPq⟩
          all_goals
            go_region_with (go_at_call 11; (first | ((with_reducible refine (HK1.out _ (below_on HD5.out HC.out)).mono ?_)) | ((with_reducible refine (HK2.out _ HC.out).mono ?_))); rintro e' w7 ⟨rfl, hb⟩; have HC := Lib.hid (below_on HC.out hb); obtain ⟨x0, x1, x2, -⟩ := HX5.out.keep HC.out; obtain ⟨y0, y1, y2, -⟩ := HN5.out.keep HC.out; clear hb)
            all_goals
              go_wp2_with fail
              go_ret
              exact ⟨rfl, below_on HW5.out HC.out⟩
        · clear p12 hlt
          go_upto_region 14 with fail
          go_quiet (fail)
          go_upto_region 15 with fail
          have hdr := Lib.hid (below_drewN (Below.refl wo.heap.size wo) nq)
          have HXd := Lib.hid (HX.out.keep hdr.out)
          have HWd := Lib.hid (below_on HW.out hdr.out)
          clear x0 x1 x2 d0
          obtain ⟨V2, hV2⟩ : ∃ V, wo.drewN nq = V := ⟨_, rfl⟩
          rw [hV2] at hdr HXd HWd ⊢
          clear hV2
          obtain ⟨x0, x1, x2, -⟩ := HXd.out
          go_upto_region 18 with (go_at_call 10; refine (HD.out _ hdr.out).mono ?_; rintro e' w5 ⟨v5, rfl, ho5, hb⟩; obtain ⟨a5, c5, rfl, hi5, -⟩ := own_cap ho5; have HI5 := Lib.hid (hi5.alloc (.cells #[.int .i64 2, .slice a5 (ys.eraseIdx j).length c5, .int .i64 0] 26)); have HX5 := Lib.hid ((HXd.out.keep hb).keep (below_alloc (Below.refl _ _) (.cells #[.int .i64 2, .slice a5 (ys.eraseIdx j).length c5, .int .i64 0] 26))); have HN5 := Lib.hid (Bx.new w5 (.int .i64 2) (.slice a5 (ys.eraseIdx j).length c5) (.int .i64 0) 26); have HD5 := Lib.hid (below_alloc (below_on hdr.out hb) (.cells #[.int .i64 2, .slice a5 (ys.eraseIdx j).length c5, .int .i64 0] 26)); have HW5 := Lib.hid (below_alloc (below_on HWd.out hb) (.cells #[.int .i64 2, .slice a5 (ys.eraseIdx j).length c5, .int .i64 0] 26)); clear hb ho5 hi5)
          clear x0 x1 x2
          generalize w5.alloc (.cells #[.int .i64 2, .slice a5 (ys.eraseIdx j).length c5, .int .i64 0] 26) = V6 at HI5 HX5 HN5 HD5 HW5 ⊢
          generalize w5.heap.size = C at HN5 ⊢
          have HK2 : Hid (∀ w', Below V6.heap.size V6 w' → Calls Tryd.prog 11 #[.agg #[.int .i64 2, .slice a5 (ys.eraseIdx j).length c5, .int .i64 0], .string A] w' fun e' w'' => e' = .returned (.int .i64 P2) ∧ Below w'.heap.size w' w'') := Lib.hid (fun w' hw => by rw [← HP2.out]; exact pick_any 2 _ c5 (ys.eraseIdx j) 0 A w' (by have : (ys.eraseIdx j).length ≤ ys.length := List.length_eraseIdx_le ys j; omega) (HI5.out.keep hw) sA)
          have HC := Lib.hid (Below.refl V6.heap.size V6).drew
          obtain ⟨x0, x1, x2, -⟩ := HX5.out
          obtain ⟨y0, y1, y2, -⟩ := HN5.out
          rcases HPP.out with hPP | ⟨hPP, hPq⟩
          all_goals
            go_region_with (go_at_call 11; (first | ((with_reducible refine (HK1.out _ (below_on HD5.out HC.out)).mono ?_)) | ((with_reducible refine (HK2.out _ HC.out).mono ?_))); rintro e' w7 ⟨rfl, hb⟩; have HC := Lib.hid (below_on HC.out hb); obtain ⟨x0, x1, x2, -⟩ := HX5.out.keep HC.out; obtain ⟨y0, y1, y2, -⟩ := HN5.out.keep HC.out; clear hb)
            all_goals
              go_wp2_with fail
              go_ret
              exact ⟨rfl, below_on HW5.out HC.out⟩
end Go.Proofs.YtdpkmcbpeloljaaDoor

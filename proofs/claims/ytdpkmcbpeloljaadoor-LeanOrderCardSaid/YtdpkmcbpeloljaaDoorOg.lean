/- LeanWeights: the walk. LeanNew: the walk. -/
import Derived.Test.YtdpkmcbpeloljaaDoorNe
import Derived.Test.YtdpkmcbpeloljaaDoorRoK
namespace Go.Proofs.YtdpkmcbpeloljaaDoor
open Go.RowKit

theorem cut_h (s A : ByteArray) (n : Nat) (m : Int) (w : World) (hA : Hid (cutS s n = A)) (hs : s.size ≤ 9223372036854775807) (hn : n ≤ 9223372036854775807) (hm : m = (n : Int)) :
    Calls Tryd.prog 8 #[.string s, .int .i64 m] w fun e w' => e = .returned (.string A) ∧ w = w' := by
  rw [← hA.out, hm]; exact cut_any s n w hs hn
set_option maxRecDepth 100000 in
set_option maxHeartbeats 3200000 in
theorem leanWeights_walk (s : ByteArray) (n : Int) (hs : s.size ≤ 9223372036854775807) (w : World) (L : Laid w) : Calls Tryd.prog 6 #[.string s, .int .i64 n] w fun e w' => e = .returned (.bool true) ∧ Below w.heap.size w w' := by
  obtain ⟨A, hA⟩ : ∃ A, Hid (cutS s 60 = A) := ⟨_, Lib.hid rfl⟩
  have sA : A.size ≤ 9223372036854775807 := by rw [← hA.out, cutS_size]; omega
  obtain ⟨x, hx⟩ : ∃ x, wgt n A.data.toList = x := ⟨_, rfl⟩
  have HW : Hid (∀ w, Calls Tryd.prog 14 #[.int .i64 n, .string A] w fun e w' => e = .returned (.int .i64 x) ∧ Below w.heap.size w w') := Lib.hid (fun w => by rw [← hx]; exact weight_any n A w sA)
  have HR : Hid (∀ w, Calls Tryd.prog 15 #[.int .i64 n, .string A] w fun e w' => e = .returned (.int .i64 x) ∧ Below w.heap.size w w') := Lib.hid (fun w => by rw [← hx]; exact rweight_any n A w sA)
  have hb := wgt_bd n A.data.toList
  have hn := wgt_neg n A.data.toList
  rw [hx] at hb hn
  have HL := Lib.hid L
  have HB : Hid (Below w.heap.size w w) := Lib.hid (Below.refl _ _)
  have e0 : (x == x) = true := beq_self_eq_true x
  have e1 : decide (x < 65521) = true := decide_eq_true hb.2
  have e2 : decide (x ≥ -1) = true := decide_eq_true hb.1
  have e3 : decide (-1 ≤ x) = true := decide_eq_true hb.1
  by_cases h1 : n < 1
  · obtain rfl : x = -1 := hn.2 (Or.inl h1)
    have d1 : decide (n < 1) = true := decide_eq_true h1
    clear hx hb hn L h1
    go_enter Tryd.func6, Tryd.ntmps6
    go_wp2_with (first | (go_at_call 7; refine (begun14_any _ HL.out).mono ?_; rintro e' w1 ⟨rfl, hb⟩; have HB := Lib.hid (below_on HB.out hb); clear hb) | (go_at_call 8; (with_reducible refine (cut_h s A 60 60 _ hA hs (by decide) rfl).mono ?_); rintro e' w' ⟨rfl, rfl⟩) | (go_at_call 14; refine (HW.out _).mono ?_; rintro e' w1 ⟨rfl, hb⟩; have HB := Lib.hid (below_on HB.out hb); clear hb) | (go_at_call 15; refine (HR.out _).mono ?_; rintro e' w1 ⟨rfl, hb⟩; have HB := Lib.hid (below_on HB.out hb); clear hb))
    go_ret
    exact ⟨rfl, HB.out⟩
  by_cases h2 : 5 < n
  · obtain rfl : x = -1 := hn.2 (Or.inr h2)
    have d1 : decide (n < 1) = false := decide_eq_false h1
    have d2 : decide (5 < n) = true := decide_eq_true h2
    clear hx hb hn L h1 h2
    go_enter Tryd.func6, Tryd.ntmps6
    go_wp2_with (first | (go_at_call 7; refine (begun14_any _ HL.out).mono ?_; rintro e' w1 ⟨rfl, hb⟩; have HB := Lib.hid (below_on HB.out hb); clear hb) | (go_at_call 8; (with_reducible refine (cut_h s A 60 60 _ hA hs (by decide) rfl).mono ?_); rintro e' w' ⟨rfl, rfl⟩) | (go_at_call 14; refine (HW.out _).mono ?_; rintro e' w1 ⟨rfl, hb⟩; have HB := Lib.hid (below_on HB.out hb); clear hb) | (go_at_call 15; refine (HR.out _).mono ?_; rintro e' w1 ⟨rfl, hb⟩; have HB := Lib.hid (below_on HB.out hb); clear hb))
    go_ret
    exact ⟨rfl, HB.out⟩
  have e5 : (x == -1) = false := by rw [beq_eq_false_iff_ne]; intro h; have := hn.1 h; omega
  have d1 : decide (n < 1) = false := decide_eq_false h1
  have d2 : decide (5 < n) = false := decide_eq_false h2
  clear hx hb hn L h1 h2
  go_enter Tryd.func6, Tryd.ntmps6
  go_wp2_with (first | (go_at_call 7; refine (begun14_any _ HL.out).mono ?_; rintro e' w1 ⟨rfl, hb⟩; have HB := Lib.hid (below_on HB.out hb); clear hb) | (go_at_call 8; (with_reducible refine (cut_h s A 60 60 _ hA hs (by decide) rfl).mono ?_); rintro e' w' ⟨rfl, rfl⟩) | (go_at_call 14; refine (HW.out _).mono ?_; rintro e' w1 ⟨rfl, hb⟩; have HB := Lib.hid (below_on HB.out hb); clear hb) | (go_at_call 15; refine (HR.out _).mono ?_; rintro e' w1 ⟨rfl, hb⟩; have HB := Lib.hid (below_on HB.out hb); clear hb))
  go_ret
  exact ⟨rfl, HB.out⟩
end Go.Proofs.YtdpkmcbpeloljaaDoor
namespace Go.Proofs.YtdpkmcbpeloljaaDoor
open Go.RowKit

theorem mem_nth {zs : List Int} {x : Int} (h : x ∈ zs) : ∃ k, k < zs.length ∧ nthI zs k = x := by
  obtain ⟨k, hk, e⟩ := List.getElem_of_mem h
  refine ⟨k, hk, ?_⟩
  unfold nthI
  rw [List.getD_eq_getElem?_getD, List.getElem?_eq_getElem hk, e]; rfl
theorem nth_mem {zs : List Int} {k : Nat} (hk : k < zs.length) : nthI zs k ∈ zs := by
  unfold nthI
  rw [List.getD_eq_getElem?_getD, List.getElem?_eq_getElem hk]
  exact List.getElem_mem hk
theorem idx_no {zs : List Int} {x : Int} (h : x ∉ zs) : idx zs x = -1 := idx_miss fun _ hi e => h (e ▸ nth_mem hi)
theorem idx_in {zs : List Int} {x : Int} (h : x ∈ zs) : 0 ≤ idx zs x := by
  refine Classical.byContradiction fun hn => ?_
  obtain ⟨k, hk, e⟩ := mem_nth h
  -- the least such place
  have : ∀ m : Nat, ∀ j : Nat, j < m → j < zs.length → nthI zs j ≠ x := by
    intro m
    induction m with
    | zero => intro j hj; omega
    | succ m ih =>
      intro j hj hl e2
      by_cases hjm : j < m
      · exact ih j hjm hl e2
      · obtain rfl : j = m := by omega
        have := idx_hit hl e2 (fun i hi => ih i hi (by omega))
        omega
  exact this zs.length k hk hk e
theorem idx_yes {zs : List Int} {x : Int} : 0 ≤ idx zs x ↔ x ∈ zs :=
  ⟨fun h => Classical.byContradiction fun hn => by rw [idx_no hn] at h; omega, idx_in⟩
theorem mayL_iff {zs : List Int} : mayL zs = true ↔ (∀ n ∈ zs, 1 ≤ n ∧ n ≤ 5) ∧ zs.Nodup := by unfold mayL; simp

theorem new_pick {e : Int} {zs : List Int} {nw : Int} (l : List UInt8) (h : mayB e zs nw = true) : pick l nw zs ≠ 0 ∧ pick l nw zs ≠ nw ∧ 0 ≤ idx zs (pick l nw zs) := by
  have h1 := mayB_mayL h
  have h2 := mayL_iff.1 h1.1
  have h3 : newB zs nw = true := by unfold mayB at h; simp only [Bool.and_eq_true] at h; exact h.2
  have h4 : nw = 0 ∨ 1 < zs.length ∧ nw = atI zs (zs.length - 1) := of_decide_eq_true h3
  have h0 : ∀ z ∈ zs, z ≠ 0 := fun z hz => by have := h2.1 z hz; omega
  have hx : nthI zs 0 ≠ nw := by
    rcases h4 with rfl | ⟨h5, h6⟩
    · exact h0 _ (nth_mem (by omega))
    · rw [h6, atI_last h1.2.1]
      intro e
      have := nthI_inj h1.1 (by omega) (by omega) e
      omega
  have hp := pick_ne l nw zs h0 _ (nth_mem (k := 0) (by omega)) hx
  have hi := pick_in l nw zs hp
  exact ⟨hp, hi.2, idx_yes.2 hi.1⟩
set_option maxRecDepth 100000 in
set_option maxHeartbeats 3200000 in
theorem leanNew_walk (e nw : Int) (a : Option Addr) (c : Nat) (zs : List Int) (s : ByteArray) (w : World) (hz : IntsAt w a zs) (hl : zs.length ≤ 9223372036854775807) (hcap : zs.length ≤ c) (hs : s.size ≤ 9223372036854775807) (L : Laid w) :
    Calls Tryd.prog 4 #[rosV e a zs c nw, .string s] w fun e' w' => e' = .returned (.bool true) ∧ Below w.heap.size w w' := by
  obtain ⟨ys, hys'⟩ : ∃ ys, zs.take 7 = ys := ⟨_, rfl⟩
  have hy7 : ys.length ≤ 7 := by rw [← hys']; simp; omega
  have hys := Lib.hid hys'
  obtain ⟨A, hA⟩ : ∃ A, Hid (cutS s 40 = A) := ⟨_, Lib.hid rfl⟩
  have sA : A.size ≤ 9223372036854775807 := by rw [← hA.out, cutS_size]; omega
  have HL0 := Lib.hid (L.keep (below_alloc (Below.refl _ _) (.cells #[.int .i64 e, .slice a zs.length c, .int .i64 nw] 26)))
  clear hys' L
  go_enter Tryd.func4, Tryd.ntmps4
  go_wp2_with fail
  refine (begun14_any _ HL0.out).mono ?_
  rintro e' w1 ⟨rfl, hb⟩
  have x0 := cell_keep hb (a := ⟨w.heap.size, 0, none⟩) (v := .int .i64 e) (by simp [go_sem])
  have x1 := cell_keep hb (a := ⟨w.heap.size, 1, none⟩) (v := .slice a zs.length c) (by simp [go_sem])
  have x2 := cell_keep hb (a := ⟨w.heap.size, 2, none⟩) (v := .int .i64 nw) (by simp [go_sem])
  have f0 := frozen_keep hb (a := ⟨w.heap.size, 0, none⟩) (v := .int .i64 e) (by simp [go_sem]) (by simp [go_sem])
  have f1 := frozen_keep hb (a := ⟨w.heap.size, 1, none⟩) (v := .slice a zs.length c) (by simp [go_sem]) (by simp [go_sem])
  have f2 := frozen_keep hb (a := ⟨w.heap.size, 2, none⟩) (v := .int .i64 nw) (by simp [go_sem]) (by simp [go_sem])
  have hz1 := Lib.hid ((hz.alloc _).keep hb)
  have HL : Hid (Below w.heap.size w w1) := below_on (below_alloc (Below.refl _ _) _) hb
  clear hb hz
  go_wp2_with fail
  refine (roster_ys _ _ _ _ _ ys _ hz1.out hl hcap hys.out).mono ?_
  rintro e' w2 ⟨v2, rfl, hown, hb⟩
  obtain ⟨a2, c2, rfl, _, hc2⟩ := own_cap hown
  have z1 : w.heap.size < w1.heap.size := cell_old x0
  replace f0 := frozen_keep hb x0 f0
  replace f1 := frozen_keep hb x1 f1
  replace f2 := frozen_keep hb x2 f2
  replace x0 := cell_keep hb x0
  replace x1 := cell_keep hb x1
  replace x2 := cell_keep hb x2
  have hBox := Lib.hid (BoxR.make (e := e) (nw := nw) _ _ _ (Nat.le_refl w.heap.size) x0 x1 x2 f0 f1 f2 hown z1 (below_on HL.out hb) hc2)
  clear hown hb HL hz1 z1 hc2 HL0
  go_wp2_with fail
  clear x0 x1 x2 f0 f1 f2
  generalize ((w2.setCell ⟨w.heap.size, 0, none⟩ (.int .i64 e)).setCell ⟨w.heap.size, 1, none⟩ (.slice a2 ys.length c2)).setCell ⟨w.heap.size, 2, none⟩ (.int .i64 nw) = W at hBox ⊢
  refine (cut_h s A 40 40 _ hA hs (by decide) rfl).mono ?_
  rintro e' w' ⟨rfl, rfl⟩
  obtain ⟨x0, x1, x2, f0, f1, f2, ho, hlow, hc2⟩ := hBox.out
  clear f0 f1 f2 ho hlow hc2
  go_wp2_with fail
  refine (mayRoster_any _ _ _ _ _ _ (by omega) hBox.out.ints).mono ?_
  rintro e' w3 ⟨rfl, hb⟩
  clear x0 x1 x2
  replace hBox := Lib.hid (hBox.out.keep hb)
  obtain ⟨x0, x1, x2, f0, f1, f2, ho, hlow, hc2⟩ := hBox.out
  have Hlow := Lib.hid hlow
  clear hb f0 f1 f2 ho hlow hc2
  by_cases hm : mayB e ys nw = false
  · rw [hm]
    clear hm
    go_wp2_with fail
    go_ret
    exact ⟨rfl, Hlow.out⟩
  · have hm' : mayB e ys nw = true := by simpa using hm
    obtain ⟨h1, h2, h3⟩ := new_pick A.data.toList hm'
    rw [hm']
    clear hm hm'
    obtain ⟨p, hp⟩ : ∃ p, pick A.data.toList nw ys = p := ⟨_, rfl⟩
    have HP : Hid (∀ w0, Below w3.heap.size w3 w0 → Calls Tryd.prog 11 #[.agg #[.int .i64 e, .slice a2 ys.length c2, .int .i64 nw], .string A] w0 fun e' w' => e' = .returned (.int .i64 p) ∧ Below w0.heap.size w0 w') := Lib.hid (fun w0 h0 => by rw [← hp]; exact pick_any e a2 c2 ys nw A w0 (by omega) (hBox.out.ints.keep h0) sA)
    rw [hp] at h1 h2 h3
    have q1 : (p == 0) = false := by rw [beq_eq_false_iff_ne]; exact h1
    have q2 : (p == nw) = false := by rw [beq_eq_false_iff_ne]; exact h2
    have q3 : decide (0 ≤ idx ys p) = true := decide_eq_true h3
    have q4 : decide (idx ys p ≥ 0) = true := decide_eq_true h3
    have q5 : (p != 0) = true := by rw [bne_iff_ne]; exact h1
    have q6 : (p != nw) = true := by rw [bne_iff_ne]; exact h2
    clear hp
    go_wp2_with fail
    refine (HP.out _ (Below.refl _ _)).mono ?_
    rintro e' w4 ⟨rfl, hb⟩
    replace x0 := cell_keep hb x0
    replace x1 := cell_keep hb x1
    replace x2 := cell_keep hb x2
    have hi4 := Lib.hid (hBox.out.ints.keep hb)
    replace Hlow := Lib.hid (below_on Hlow.out hb)
    clear hb
    go_wp2_with fail
    refine (spot_any _ _ _ _ _ _ _ (by omega) hi4.out).mono ?_
    rintro e' w5 ⟨rfl, hb⟩
    replace Hlow := Lib.hid (below_on Hlow.out hb)
    clear hb
    go_wp2_with fail
    go_ret
    exact ⟨rfl, Hlow.out⟩
end Go.Proofs.YtdpkmcbpeloljaaDoor

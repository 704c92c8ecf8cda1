/- JournalAll: the walk. -/
import Derived.Test.YtjblbjamceloaaaGreatDoorKc
namespace Go.Proofs.YtjblbjamceloaaaGreatDoor
open Go.RowKit

set_option maxRecDepth 100000 in
set_option maxHeartbeats 12800000 in
theorem journalAll_walk (a : Option Addr) (c : Nat) (z : List JOp) (w : World) (hr : RowsAt w a 4 (z.map JOp.cells)) (hs : ∀ o ∈ z, o.s.size ≤ 9223372036854775807 ∧ -9223372036854775808 ≤ o.n ∧ o.n ≤ 9223372036854775807) (hl : z.length ≤ 9223372036854775807) (LA : Laid w) :
    Calls Tryz.prog 3 #[.slice a z.length c] w fun e w' => e = .returned (.bool true) ∧ Below w.heap.size w w' := by
  have HL := Lib.hid LA
  have HZ := Lib.hid hr
  have HZs := Lib.hid hs
  clear LA hr hs
  go_enter Tryz.func3, Tryz.ntmps3
  go_wp2_with fail
  refine (begun4_any w HL.out).mono ?_
  rintro e w1 ⟨rfl, hb⟩
  have HB := Lib.hid hb
  clear hb
  go_wp2_with fail
  refine (new_S (w0 := w) HB.out 1048576 1048576 (by decide)).mono ?_
  rintro e w2 ⟨g, b, rfl, hs, -, -, -⟩
  have HS := Lib.hid hs
  clear hs
  go_wp2_with fail
  refine (open_fresh HL.out HS.out (by decide) (by decide)).mono ?_
  rintro e w3 ⟨J, v, L, rfl, hj, -, -⟩
  have HJ := Lib.hid hj
  clear hj HS HB
  obtain ⟨F0, hF0⟩ : ∃ F0, leafB ⟨#[]⟩ = F0 := ⟨_, rfl⟩
  have sF0 : Hid (F0.size = 11) := Lib.hid (by rw [← hF0]; exact leaf_nil_size)
  rw [hF0] at HJ
  clear hF0
  go_wp2_with fail
  go_loopw [4, 5, 7, 8, 9, 10] (fun u4 u5 u7 u8 u9 u10 wr => ∃ (k g b J : Nat) (v va : Value) (r : Int) (L : List Rl) (s : ByteArray) (p : Int) (kk : Bool) (first : ByteArray) (done : List ByteArray) (sure : Nat), u4 = .pointer (some ⟨g, 0, none⟩) ∧ u5 = .pointer (some ⟨J, 0, none⟩) ∧ u7 = .string first ∧ u8 = .int .i64 (sure : Int) ∧ u9 = va ∧ u10 = .int .i64 (k : Int) ∧ k ≤ 30 ∧ k ≤ z.length ∧ done.length ≤ k ∧ sure ≤ done.length ∧ ((leavesL (first :: done.take sure)).length : Int) ≤ p ∧ s.size ≤ 11 + 80 * k ∧ 1048576 - 11 - 80 * (k : Int) ≤ r ∧ JL w wr J g b v (3 + 3 * k) r L s p kk first done ∧ Side w wr J g b v va done) (fun _ _ _ _ _ u10 _ => 60 - (intOf u10).toNat)
  case atStart => exact ⟨0, g, b, J, v, _, _, L, F0, 11, true, ⟨#[]⟩, [], 0, rfl, rfl, rfl, rfl, rfl, rfl, by omega, by omega, by simp, by simp, by rw [HJ.out.len (by simp), sF0.out]; decide, by rw [sF0.out]; omega, by omega, HJ.out, Side.nil _ _ _ _ _ _⟩
  case round =>
    obtain ⟨k, g, b, J, v, va, r, L, s0, p, kk, first, done, sure, rfl, rfl, rfl, rfl, rfl, rfl, hk, hkz, hd, hsd, hpp, hs0, hr0, hj, hside⟩ := hrel
    have HJ1 := Lib.hid hj
    have HS1 := Lib.hid hside
    obtain ⟨aa, ca, rfl⟩ := hside.mr.form
    have HPP := Lib.hid hpp
    have HDl := Lib.hid (show done.length < 1000000 by omega)
    clear hj hside HJ hpp
    by_cases hkl : k < z.length ∧ k < 30
    · obtain ⟨hk1, hk2⟩ := hkl
      have e1 : decide ((k : Int) < (z.length : Int)) = true := decide_eq_true (by omega)
      have e2 : decide ((k : Int) < 30) = true := decide_eq_true (by omega)
      obtain ⟨q, o, rfl, y0, y1, y2, y3⟩ := (RowsAt.keep HZ.out HJ1.out.js.ch.2.1).op hk1
      obtain ⟨hzk, hzn1, hzn2⟩ := HZs.out z[k] (List.getElem_mem hk1)
      obtain ⟨A, hA⟩ : ∃ A, cutS z[k].s 60 = A := ⟨_, rfl⟩
      have hAs : A.size ≤ 60 := by rw [← hA, cutS_size]; omega
      have HA := Lib.hid hA
      clear hA
      obtain ⟨kd, hkd⟩ : ∃ kd, z[k].kind = kd := ⟨_, rfl⟩
      obtain ⟨on, hon⟩ : ∃ on, z[k].n = on := ⟨_, rfl⟩
      obtain ⟨os, hos⟩ : ∃ os, z[k].s = os := ⟨_, rfl⟩
      obtain ⟨op, hop⟩ : ∃ op, z[k].press = op := ⟨_, rfl⟩
      rw [hkd] at y0
      rw [hon] at y1 hzn1 hzn2
      rw [hos] at y2 hzk HA
      rw [hop] at y3
      clear hkd hon hos hop
      obtain ⟨hF1, hF2⟩ := leaf_bd (s := A) (by omega)
      have HN := Lib.hid (show -9223372036854775808 ≤ on ∧ on ≤ 9223372036854775807 from ⟨hzn1, hzn2⟩)
      have HX := Lib.hid hzk
      clear hzk hzn1 hzn2
      go_wp2_with fail
      have HOp := Lib.hid (opat_new wr kd on os op 32)
      have HJ2 := Lib.hid (HJ1.out.low (below_alloc (Below.refl _ _) (.cells #[.int .i64 kd, .int .i64 on, .string os, .bool op] 32)))
      have HS2 := Lib.hid (HS1.out.low (below_alloc (Below.refl _ _) (.cells #[.int .i64 kd, .int .i64 on, .string os, .bool op] 32)))
      have HQ : Hid (wr.heap.size ∉ J :: g :: b :: ownL v ∧ wr.heap.size ∉ ownL (.slice aa done.length ca)) := Lib.hid (by
        have h1 := HJ1.out.js.j.lt
        have h2 := HJ1.out.js.ch.1.ltg
        have h3 := HJ1.out.js.ch.1.ltb
        have h4 := HJ1.out.js.j.mr.lt
        have h5 := HS1.out.mr.lt
        refine ⟨fun h => ?_, fun h => by have := h5 _ h; omega⟩
        rcases List.mem_cons.mp h with h | h
        · omega
        rcases List.mem_cons.mp h with h | h
        · omega
        rcases List.mem_cons.mp h with h | h
        · omega
        · have := h4 _ h; omega)
      generalize wr.alloc (.cells #[.int .i64 kd, .int .i64 on, .string os, .bool op] 32) = w4 at HOp HJ2 HS2 ⊢
      generalize wr.heap.size = ob at HOp HQ ⊢
      clear HJ1 HS1 y0 y1 y2 y3
      have z0 := HOp.out.c0
      have z1 := HOp.out.c1
      have z2 := HOp.out.c2
      have z3 := HOp.out.c3
      go_wp2_with fail
      refine (jcut_h os A 60 60 w4 HA HX.out (by decide) rfl).mono ?_
      rintro e w5 ⟨rfl, rfl⟩
      have hff : (first.toList != first.toList) = false := by simp [bne]
      have haa : (A.toList != A.toList) = false := by simp [bne]
      by_cases h0 : kd = 0
      · have f0 : (kd == 0) = true := by rw [beq_iff_eq]; exact h0
        clear h0
        obtain ⟨D, hD⟩ : ∃ D, done ++ [A] = D := ⟨_, rfl⟩
        have HD := Lib.hid hD
        have hDl : D.length = done.length + 1 := by rw [← hD]; simp
        have hDb : D.length < 1000000 := by omega
        have HDl2 := Lib.hid hDl
        have HTk : Hid (D.take sure = done.take sure) := Lib.hid (by rw [← hD]; exact take_app hsd)
        have hl2 := Lib.hid (show done.length < 1000000 by omega)
        clear hD hDl
        cases op
        · have HAd := Lib.hid (add_soft HL.out HJ2.out (by omega) (by omega) A (by omega) (by omega) (r' := r - ((leafB A).size : Int)) rfl)
          have hcs : Hid ((catB s0 (leafB A)).size = s0.size + (leafB A).size) := Lib.hid (by rw [catB_size])
          generalize leafB A = F at HAd hF1 hF2 hcs
          generalize catB s0 F = s6 at HAd hcs
          go_wp2_with fail
          refine HAd.out.mono ?_
          rintro e w6 ⟨rfl, v6, L6, hj, ho, hq⟩
          rw [HD.out] at hj
          have HJ6 := Lib.hid hj
          have HS6 := Lib.hid (HS2.out.add ho hq)
          have HOp6 := Lib.hid (HOp.out.keep ho HQ.out.1)
          have HM : Hid (∀ o, MidRow (w6.alloc o) (.slice aa done.length ca) done) := Lib.hid (fun o => HS6.out.mr.low (below_alloc (Below.refl _ _) _))
          clear hj ho hq HAd HOp z0 z1 z2 z3 HJ2 HS2
          go_wp2_with (at_builtin; refine wpList_more rfl _ _ rfl (.slice aa done.length ca) done rfl (HM.out _) A w6.heap.size rfl (by simp) hl2.out ?_; intro va' w7 hm ho hq; rw [HD.out] at hm; obtain ⟨a', c', rfl⟩ := hm.form; obtain ⟨g1, g2⟩ := HS6.out.push HJ6.out (below_alloc (Below.refl _ _) _) ho hm hq; have z3 := ((HOp6.out.low (below_alloc (Below.refl _ _) _)).keep ho HQ.out.2).c3; have HSz := Lib.hid g1; have HJz := Lib.hid g2; clear hm ho hq g1 g2)
          go_wp2_with fail
          refine (first_any HJz.out.js.j).mono ?_
          rintro e wy ⟨rfl, rfl⟩
          go_wp2_with fail
          refine (records_at HJz.out.js.j (by first | exact LZ.out | rfl) (by omega)).mono ?_
          rintro e wy2 ⟨ay, cy, rfl, hry, hb⟩
          have HRy := Lib.hid hry
          replace HJz := Lib.hid (HJz.out.low hb)
          replace HSz := Lib.hid (HSz.out.low hb)
          clear hry hb
          go_wp2_with fail
          refine (eq_at HRy.out HSz.out.mr.row' (by first | exact LZ.out | rfl) (by omega)).mono ?_
          rintro e wy3 ⟨rfl, hb⟩
          replace HJz := Lib.hid (HJz.out.low hb)
          replace HSz := Lib.hid (HSz.out.low hb)
          clear hb HRy
          go_wp2_with fail
          have q1 := HDl2.out
          have q2 := hcs.out
          exact ⟨⟨k + 1, g, b, J, v6, _, _, L6, s6, p, kk, first, D, sure, rfl, rfl, rfl, rfl, rfl, by go_num, by omega, by omega, by omega, by omega, by rw [HTk.out]; exact HPP.out, by omega, by omega, HJz.out.mono (by omega), HSz.out⟩, by simp [intOf]; omega⟩
        · have HAd := Lib.hid (add_press HL.out HJ2.out (by omega) (by omega) A (by omega) (by omega) (r' := r - ((leafB A).size : Int)) (p' := ((catB s0 (leafB A)).size : Int)) rfl (by rw [catB_size]; omega))
          have hcs : Hid ((catB s0 (leafB A)).size = s0.size + (leafB A).size) := Lib.hid (by rw [catB_size])
          generalize leafB A = F at HAd hF1 hF2 hcs
          generalize catB s0 F = s6 at HAd hcs
          go_wp2_with fail
          refine HAd.out.mono ?_
          rintro e w6 ⟨rfl, v6, L6, hj, ho, hq⟩
          rw [HD.out] at hj
          have HJ6 := Lib.hid hj
          have HS6 := Lib.hid (HS2.out.add ho hq)
          have HOp6 := Lib.hid (HOp.out.keep ho HQ.out.1)
          have HM : Hid (∀ o, MidRow (w6.alloc o) (.slice aa done.length ca) done) := Lib.hid (fun o => HS6.out.mr.low (below_alloc (Below.refl _ _) _))
          clear hj ho hq HAd HOp z0 z1 z2 z3 HJ2 HS2
          go_wp2_with (at_builtin; refine wpList_more rfl _ _ rfl (.slice aa done.length ca) done rfl (HM.out _) A w6.heap.size rfl (by simp) hl2.out ?_; intro va' w7 hm ho hq; rw [HD.out] at hm; obtain ⟨a', c', rfl⟩ := hm.form; obtain ⟨g1, g2⟩ := HS6.out.push HJ6.out (below_alloc (Below.refl _ _) _) ho hm hq; have z3 := ((HOp6.out.low (below_alloc (Below.refl _ _) _)).keep ho HQ.out.2).c3; have HSz := Lib.hid g1; have HJz := Lib.hid g2; clear hm ho hq g1 g2)
          go_wp2_with fail
          refine (first_any HJz.out.js.j).mono ?_
          rintro e wy ⟨rfl, rfl⟩
          go_wp2_with fail
          refine (records_at HJz.out.js.j (by first | exact LZ.out | rfl) (by omega)).mono ?_
          rintro e wy2 ⟨ay, cy, rfl, hry, hb⟩
          have HRy := Lib.hid hry
          replace HJz := Lib.hid (HJz.out.low hb)
          replace HSz := Lib.hid (HSz.out.low hb)
          clear hry hb
          go_wp2_with fail
          refine (eq_at HRy.out HSz.out.mr.row' (by first | exact LZ.out | rfl) (by omega)).mono ?_
          rintro e wy3 ⟨rfl, hb⟩
          replace HJz := Lib.hid (HJz.out.low hb)
          replace HSz := Lib.hid (HSz.out.low hb)
          clear hb HRy
          go_wp2_with fail
          have q1 := HDl2.out
          have q2 := hcs.out
          exact ⟨⟨k + 1, g, b, J, v6, _, _, L6, s6, ((s6.size : Nat) : Int), true, first, D, D.length, rfl, rfl, rfl, rfl, rfl, by go_num, by omega, by omega, by omega, by omega, by rw [HJz.out.len (Nat.le_refl _)]; exact Int.le_refl _, by omega, by omega, HJz.out.mono (by omega), HSz.out⟩, by simp [intOf]; omega⟩
      · have f0 : (kd == 0) = false := by rw [beq_eq_false_iff_ne]; exact h0
        by_cases h1 : kd = 1
        · have f1 : (kd == 1) = true := by rw [beq_iff_eq]; exact h1
          clear h0 h1
          have HPr := Lib.hid (press_JL HJ2.out (by omega))
          go_wp2_with fail
          refine HPr.out.mono ?_
          rintro e w6 ⟨rfl, L6, hj, ho⟩
          have HJz := Lib.hid hj
          have HSz := Lib.hid (HS2.out.three ho (v' := v) (fun q h => h))
          clear hj ho HPr HJ2 HS2 HOp z0 z1 z2 z3
          go_wp2_with fail
          refine (first_any HJz.out.js.j).mono ?_
          rintro e wy ⟨rfl, rfl⟩
          go_wp2_with fail
          refine (records_at HJz.out.js.j (by first | exact LZ.out | rfl) (by omega)).mono ?_
          rintro e wy2 ⟨ay, cy, rfl, hry, hb⟩
          have HRy := Lib.hid hry
          replace HJz := Lib.hid (HJz.out.low hb)
          replace HSz := Lib.hid (HSz.out.low hb)
          clear hry hb
          go_wp2_with fail
          refine (eq_at HRy.out HSz.out.mr.row' (by first | exact LZ.out | rfl) (by omega)).mono ?_
          rintro e wy3 ⟨rfl, hb⟩
          replace HJz := Lib.hid (HJz.out.low hb)
          replace HSz := Lib.hid (HSz.out.low hb)
          clear hb HRy
          go_wp2_with fail
          exact ⟨⟨k + 1, g, b, J, v, _, _, L6, s0, ((s0.size : Nat) : Int), true, first, done, done.length, rfl, rfl, rfl, rfl, rfl, by go_num, by omega, by omega, by omega, by omega, by rw [HJz.out.len (Nat.le_refl _)]; exact Int.le_refl _, by omega, by omega, HJz.out.mono (by omega), HSz.out⟩, by simp [intOf]; omega⟩
        have f1 : (kd == 1) = false := by rw [beq_eq_false_iff_ne]; exact h1
        by_cases h2 : kd = 2
        · have f2 : (kd == 2) = true := by rw [beq_iff_eq]; exact h2
          clear h0 h1 h2
          have LZ : Hid (([] : List ByteArray).length = 0) := Lib.hid rfl
          have HLy := Lib.hid (lay_JL HL.out HJ2.out (by omega) A (by omega) (by omega))
          generalize leafB A = F at HLy hF1 hF2
          go_wp2_with fail
          refine HLy.out.mono ?_
          rintro e w6 ⟨rfl, L6, hj, ho⟩
          have HJz := Lib.hid hj
          have HSz := Lib.hid (Side.nil w w6 J g b (.slice none 0 0))
          clear hj ho HLy HJ2 HS2 HOp z0 z1 z2 z3
          go_wp2_with fail
          refine (first_any HJz.out.js.j).mono ?_
          rintro e wy ⟨rfl, rfl⟩
          go_wp2_with fail
          refine (records_at HJz.out.js.j (by first | exact LZ.out | rfl) (by omega)).mono ?_
          rintro e wy2 ⟨ay, cy, rfl, hry, hb⟩
          have HRy := Lib.hid hry
          replace HJz := Lib.hid (HJz.out.low hb)
          replace HSz := Lib.hid (HSz.out.low hb)
          clear hry hb
          go_wp2_with fail
          refine (eq_at HRy.out HSz.out.mr.row' (by first | exact LZ.out | rfl) (by omega)).mono ?_
          rintro e wy3 ⟨rfl, hb⟩
          replace HJz := Lib.hid (HJz.out.low hb)
          replace HSz := Lib.hid (HSz.out.low hb)
          clear hb HRy
          go_wp2_with fail
          exact ⟨⟨k + 1, g, b, J, _, _, _, L6, F, ((F.size : Nat) : Int), true, A, [], 0, rfl, rfl, rfl, rfl, rfl, by go_num, by omega, by omega, by simp, by simp, by rw [HJz.out.len (by simp)]; exact Int.le_refl _, by omega, by omega, HJz.out.mono (by omega), HSz.out⟩, by simp [intOf]; omega⟩
        have f2 : (kd == 2) = false := by rw [beq_eq_false_iff_ne]; exact h2
        clear h0 h1 h2
        have hp0 : Hid (0 < p) := Lib.hid (by
          have := leaves_pos (HJ2.out.sz first (by simp)) (done.take sure)
          have := HPP.out
          omega)
        go_wp2_with fail
        refine (tear_log HJ2.out.js.ch HJ2.out.lg (by omega) on HN.out (Or.inl hp0.out)).mono ?_
        rintro e w6 ⟨g6, b6, r6, L6, m6, rfl, hc, hlg, hr, hp, hm, hlk, hb, -, -⟩
        have HK := Lib.hid (reopen HL.out HJ2.out hc hlg (by omega) hm hsd (by have := HPP.out; omega) (by omega))
        have hr6 : r ≤ r6 := hr
        clear hc hlg hr hp hm hlk hb
        go_wp2_with fail
        refine HK.out.mono ?_
        rintro e w7 ⟨J7, v7, r7, L7, s7, k7, j7, rfl, hj, hr7, hsj, hjd, hs7⟩
        have HSn := Lib.hid (HS2.out.renew hj)
        have HJn := Lib.hid (hj.rebase HJ2.out.js.ch.2.1)
        have LZ : Hid ((done.take j7).length = j7) := Lib.hid (by rw [List.length_take]; omega)
        clear hj HK HJ2 HS2 HOp z0 z1 z2 z3
        go_wp2_with fail
        refine (records_at HJn.out.js.j LZ.out (by omega)).mono ?_
        rintro e w8 ⟨a8, c8, rfl, -, hb⟩
        have HJz := Lib.hid (HJn.out.low hb)
        have HSz := Lib.hid ((HSn.out.low hb).take hjd)
        have hfr := fun w' => run_front HSn.out.mr hjd w'
        have c1 : decide ((j7 : Int) < (sure : Int)) = false := decide_eq_false (by omega)
        have c2 : decide ((done.length : Int) < (j7 : Int)) = false := decide_eq_false (by omega)
        clear hb HJn HSn
        go_wp2_with fail
        refine (first_any HJz.out.js.j).mono ?_
        rintro e wy ⟨rfl, rfl⟩
        go_wp2_with fail
        refine (records_at HJz.out.js.j (by first | exact LZ.out | rfl) (by omega)).mono ?_
        rintro e wy2 ⟨ay, cy, rfl, hry, hb⟩
        have HRy := Lib.hid hry
        replace HJz := Lib.hid (HJz.out.low hb)
        replace HSz := Lib.hid (HSz.out.low hb)
        clear hry hb
        go_wp2_with fail
        refine (eq_at HRy.out HSz.out.mr.row' (by first | exact LZ.out | rfl) (by omega)).mono ?_
        rintro e wy3 ⟨rfl, hb⟩
        replace HJz := Lib.hid (HJz.out.low hb)
        replace HSz := Lib.hid (HSz.out.low hb)
        clear hb HRy
        go_wp2_with fail
        exact ⟨⟨k + 1, g6, b6, J7, v7, _, r7, L7, s7, ((s7.size : Nat) : Int), k7, first, done.take j7, j7, rfl, rfl, rfl, rfl, rfl, by go_num, by omega, by omega, by rw [LZ.out]; omega, by rw [LZ.out]; omega, by rw [HJz.out.len (by rw [LZ.out]; exact Nat.le_refl _)]; exact Int.le_refl _, by omega, by omega, HJz.out.mono (by omega), HSz.out⟩, by simp [intOf]; omega⟩
    · have hex : (k < z.length ∧ ¬ k < 30 ∧ decide ((k : Int) < (z.length : Int)) = true ∧ decide ((k : Int) < 30) = false) ∨ (¬ k < z.length ∧ decide ((k : Int) < (z.length : Int)) = false) := by
        by_cases h1 : k < z.length
        · exact Or.inl ⟨h1, by omega, decide_eq_true (by omega), decide_eq_false (by omega)⟩
        · exact Or.inr ⟨h1, decide_eq_false (by omega)⟩
      rcases hex with ⟨i1, i2, e1, e2⟩ | ⟨i1, e1⟩
      all_goals
        go_wp2_with fail
        go_ret
        exact ⟨rfl, HJ1.out.js.ch.2.1⟩
end Go.Proofs.YtjblbjamceloaaaGreatDoor

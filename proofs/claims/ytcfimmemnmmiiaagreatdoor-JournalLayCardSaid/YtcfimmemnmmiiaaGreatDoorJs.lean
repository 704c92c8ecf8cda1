/- JournalFull: the walk. -/
import Derived.Test.YtcfimmemnmmiiaaGreatDoorNG
import Derived.Test.YtcfimmemnmmiiaaGreatDoorNF
namespace Go.Proofs.YtcfimmemnmmiiaaGreatDoor
open Go.RowKit

theorem jcut_h (s A : ByteArray) (n : Nat) (m : Int) (w : World) (hA : Hid (cutS s n = A)) (hs : s.size ≤ 9223372036854775807) (hn : n ≤ 9223372036854775807) (hm : m = (n : Int)) :
    Calls Tryz.prog 21 #[.string s, .int .i64 m] w fun e w' => e = .returned (.string A) ∧ w = w' := by
  rw [← hA.out, hm]; exact cut_any s n w hs hn
set_option maxRecDepth 100000 in
set_option maxHeartbeats 6400000 in
theorem journalFull_main (room : Int) (h11 : ¬ room < 11) (h300 : ¬ 300 < room) (a : Option Addr) (c : Nat) (z : List ByteArray) (w : World) (hr : RowAt w a (z.map .string)) (hs : ∀ s ∈ z, s.size ≤ 9223372036854775807) (hl : z.length ≤ 9223372036854775807) (LA : Laid w) :
    Calls Tryz.prog 13 #[.int .i64 room, .slice a z.length c] w fun e w' => e = .returned (.bool true) ∧ Below w.heap.size w w' := by
  have d0 : decide (room < 11) = false := decide_eq_false h11
  have d1 : decide (300 < room) = false := decide_eq_false h300
  have HL := Lib.hid LA
  have HZ := Lib.hid hr
  have HZs := Lib.hid hs
  clear LA hr hs
  go_enter Tryz.func13, Tryz.ntmps13
  go_wp2_with fail
  refine (begun4_any w HL.out).mono ?_
  rintro e w1 ⟨rfl, hb⟩
  have HB := Lib.hid hb
  clear hb
  go_wp2_with fail
  refine (new_S (w0 := w) HB.out room room (by unfold capR; omega)).mono ?_
  rintro e w2 ⟨g, b, rfl, hs, -, -, -⟩
  have HS := Lib.hid hs
  clear hs
  go_wp2_with fail
  refine (open_fresh HL.out HS.out (by omega) (by omega)).mono ?_
  rintro e w3 ⟨J, v, L, rfl, hj, -, -⟩
  have HJ := Lib.hid hj
  clear hj HS HB
  go_wp2_with fail
  go_loopw [9, 10, 11] (fun u9 u10 u11 wr => ∃ (k : Nat) (used : Int) (done : List ByteArray) (v va : Value) (L : List Rl) (s : ByteArray), u9 = .int .i64 used ∧ u10 = va ∧ u11 = .int .i64 (k : Int) ∧ k ≤ 20 ∧ k ≤ z.length ∧ done.length = k ∧ 11 ≤ used ∧ used ≤ room ∧ (s.size : Int) = used ∧ JL w wr J g b v (3 + 2 * k) (room - used) L s s.size true ⟨#[]⟩ done ∧ Side w wr J g b v va done) (fun _ _ u11 _ => 30 - (intOf u11).toNat)
  case atStart => exact ⟨0, 11, [], v, _, L, leafB ⟨#[]⟩, rfl, rfl, rfl, by omega, by omega, rfl, by omega, by omega, by rw [leaf_nil_size]; rfl, by rw [leaf_nil_size]; exact HJ.out, Side.nil _ _ _ _ _ _⟩
  case round =>
    obtain ⟨k, used, done, v, va, L, s, rfl, rfl, rfl, hk, hkz, hd, hu0, hu, hsu, hj, hside⟩ := hrel
    have HJ1 := Lib.hid hj
    have HS1 := Lib.hid hside
    obtain ⟨aa, ca, rfl⟩ := hside.mr.form
    have HDk := Lib.hid hd
    have hsz := Lib.hid hsu
    have hdl : done.length ≤ 20 := by omega
    clear hj hside HJ hd hsu
    by_cases hkl : k < z.length ∧ k < 20
    · obtain ⟨hk1, hk2⟩ := hkl
      have e1 : decide ((k : Int) < (z.length : Int)) = true := decide_eq_true (by omega)
      have e2 : decide ((k : Int) < 20) = true := decide_eq_true (by omega)
      obtain ⟨q, o, rfl, hc⟩ := (RowAt.keep HZ.out HJ1.out.js.ch.2.1).strs hk1
      have hzk := HZs.out z[k] (List.getElem_mem hk1)
      obtain ⟨A, hA⟩ : ∃ A, cutS z[k] 60 = A := ⟨_, rfl⟩
      have hAs : A.size ≤ 60 := by rw [← hA, cutS_size]; omega
      have HA := Lib.hid hA
      clear hA
      generalize z[k] = x at hc hzk HA
      obtain ⟨hF1, hF2⟩ := leaf_bd (s := A) (by omega)
      have HX := Lib.hid hzk
      clear hzk
      go_wp2_with fail
      refine (jcut_h x A 60 60 wr HA HX.out (by decide) rfl).mono ?_
      rintro e w4 ⟨rfl, rfl⟩
      clear hc
      have HD : Hid (∀ W, Calls Tryz.prog 33 #[.string A] W fun e w' => e = .returned (.string (leafB A)) ∧ Below W.heap.size W w') := Lib.hid (fun W => rleaf_any A W (by omega))
      have hln := HJ1.out.lg.ln
      by_cases hfit : used + ((leafB A).size : Int) ≤ room
      · have HAd := Lib.hid (add_press HL.out HJ1.out (by omega) (by omega) A (by omega) (by omega) (r' := room - (used + ((leafB A).size : Int))) (p' := ((catB s (leafB A)).size : Int)) (by omega) (by rw [catB_size]; omega))
        have hcs : Hid (((catB s (leafB A)).size : Int) = used + ((leafB A).size : Int)) := Lib.hid (by have := hsz.out; rw [catB_size]; omega)
        generalize leafB A = F at HAd HD hF1 hF2 hfit hcs
        have e3 : decide (used + (F.size : Int) ≤ room) = true := decide_eq_true hfit
        clear hln
        go_wp2_with fail
        refine HAd.out.mono ?_
        rintro e w5 ⟨rfl, v5, L5, hj, ho, hq⟩
        have HJ5 := Lib.hid hj
        have HS5 := Lib.hid (HS1.out.add ho hq)
        clear hj ho hq HAd
        go_wp2_with fail
        refine (HD.out w5).mono ?_
        rintro e w6 ⟨rfl, hb⟩
        have HJ6 := Lib.hid (HJ5.out.low hb)
        have HS6 := Lib.hid (HS5.out.low hb)
        clear hb HJ5 HS5
        have HM : Hid (∀ o, MidRow (w6.alloc o) (.slice aa done.length ca) done) := Lib.hid (fun o => HS6.out.mr.low (below_alloc (Below.refl _ _) _))
        have hl2 := Lib.hid (show done.length < 1000000 by omega)
        go_wp2_with (at_builtin; refine wpList_more rfl _ _ rfl (.slice aa done.length ca) done rfl (HM.out _) A w6.heap.size rfl (by simp) hl2.out ?_; intro va' w7 hm ho hq; obtain ⟨a', c', rfl⟩ := hm.form; obtain ⟨g1, g2⟩ := HS6.out.push HJ6.out (below_alloc (Below.refl _ _) _) ho hm hq; have HS7 := Lib.hid g1; have HJ7 := Lib.hid g2; clear hm ho hq g1 g2)
        have hS7 := HS7.out
        have hJ7 := HJ7.out
        simp only [List.length_append, List.length_cons, List.length_nil, Nat.zero_add] at hS7
        rw [show 3 + 2 * k + 2 = 3 + 2 * (k + 1) by omega] at hJ7
        have hdk := HDk.out
        exact ⟨⟨k + 1, used + (F.size : Int), done ++ [A], v5, _, L5, catB s F, rfl, rfl, by go_num, by omega, by omega, by simp [hdk], by omega, hfit, hcs.out, hJ7, hS7⟩, by simp [intOf]; omega⟩
      · have hfl := HJ1.out.lg.full (leafB A) (by omega)
        have HAf := Lib.hid (jadd_full (HL.out.keep HJ1.out.js.ch.2.1) HJ1.out.js (by omega) HJ1.out.lg.ok A (by omega) true (er := 5) rfl hfl)
        clear hfl
        generalize leafB A = F at HAf HD hF1 hF2 hfit
        have e3 : decide (used + (F.size : Int) ≤ room) = false := decide_eq_false hfit
        have hln' := Lib.hid hln
        clear hln
        go_wp2_with fail
        refine HAf.out.mono ?_
        rintro e w5 ⟨rfl, hjs, ho⟩
        have HJ5 := Lib.hid hjs
        have HS5 := Lib.hid (HS1.out.add ho (v' := v) (fun q h => Or.inl h))
        clear hjs ho HAf
        go_wp2_with fail
        refine (HD.out w5).mono ?_
        rintro e w6 ⟨rfl, hb⟩
        have HJ6 := Lib.hid (HJ5.out.low hb)
        have HS6 := Lib.hid (HS5.out.low hb)
        clear hb HJ5 HS5
        go_wp2_with fail
        refine (tear_log HJ6.out.ch HJ1.out.lg (by omega) 0 (by decide) (Or.inr rfl)).mono ?_
        rintro e w7 ⟨g7, b7, r7, L7, m7, rfl, hc, hlg, hr, hp, hm, hlk, hb, hg, hbb⟩
        have hsz2 := hsz.out
        obtain rfl : m7 = s.size := by omega
        have HF := Lib.hid (HJ1.out.front hm)
        have HK := Lib.hid (open_front (HL.out.keep HJ6.out.ch.2.1) hc hlg (by omega) HJ1.out.sz (by rw [HF.out.1, ← HF.out.2.2]; exact hm) (by rw [HF.out.1, HF.out.2.2, leavesL_cons_len, ← leafB_list, ← Lib.size_eq]; omega) HF.out.2.1 (by rw [HF.out.1]; omega))
        have hgg : Hid (w6.heap.size ≤ g7 ∧ w6.heap.size ≤ b7 ∧ Below w6.heap.size w6 w7) := Lib.hid ⟨hg, hbb, hb⟩
        clear hc hlg hr hp hm hlk hb hg hbb hsz2
        go_wp2_with fail
        refine HK.out.mono ?_
        rintro e w8 ⟨J8, v8, r8, L8, s8, p8, k8, j8, rfl, hj, -, ho, -, hj1, hj2, hj3, -⟩
        have hjl : done.take j8 = done := by
          have := hj2 done.length (Nat.le_refl _) (by rw [List.take_length, HF.out.1, HF.out.2.2]; exact Nat.le_refl _)
          exact List.take_of_length_le this
        rw [hjl] at hj
        have HKA := Lib.hid hj.kat
        have hbo : Below w6.heap.size w6 w8 := Only.under hgg.out.2.2 ho (fun i hi => by simp at hi; rcases hi with rfl | rfl; exact hgg.out.1; exact hgg.out.2.1)
        have HJ8 := Lib.hid (HJ6.out.low hbo)
        have HS8 := Lib.hid (HS6.out.low hbo)
        clear hj ho hj1 hj2 hj3 hjl HK HF hgg hbo
        go_wp2_with fail
        refine (jadd_down HJ8.out.j _ _).mono ?_
        rintro e w9 ⟨rfl, hb⟩
        replace HJ8 := Lib.hid (HJ8.out.low hb)
        replace HS8 := Lib.hid (HS8.out.low hb)
        replace HKA := Lib.hid (HKA.out.low hb)
        clear hb
        go_wp2_with fail
        refine (jpress_down HJ8.out.j).mono ?_
        rintro e w10 ⟨rfl, hb⟩
        replace HJ8 := Lib.hid (HJ8.out.low hb)
        replace HS8 := Lib.hid (HS8.out.low hb)
        replace HKA := Lib.hid (HKA.out.low hb)
        clear hb
        go_wp2_with fail
        refine (jlay_down HJ8.out.j _).mono ?_
        rintro e w11 ⟨rfl, hb⟩
        replace HJ8 := Lib.hid (HJ8.out.low hb)
        replace HS8 := Lib.hid (HS8.out.low hb)
        replace HKA := Lib.hid (HKA.out.low hb)
        clear hb
        go_wp2_with fail
        refine (records_any HKA.out.j (by omega)).mono ?_
        rintro e w12 ⟨a12, c12, rfl, hr12, hb⟩
        have HR := Lib.hid hr12
        clear hr12
        replace HJ8 := Lib.hid (HJ8.out.low hb)
        replace HS8 := Lib.hid (HS8.out.low hb)
        replace HKA := Lib.hid (HKA.out.low hb)
        clear hb
        go_wp2_with fail
        refine (eq_same HR.out HS8.out.mr.row (by omega)).mono ?_
        rintro e w13 ⟨rfl, hb⟩
        replace HJ8 := Lib.hid (HJ8.out.low hb)
        replace HS8 := Lib.hid (HS8.out.low hb)
        replace HKA := Lib.hid (HKA.out.low hb)
        clear hb
        go_wp2_with fail
        go_ret
        exact ⟨rfl, HJ8.out.ch.2.1⟩
    · by_cases h1 : k < z.length
      · have e1 : decide ((k : Int) < (z.length : Int)) = true := decide_eq_true (by omega)
        have e2 : decide ((k : Int) < 20) = false := decide_eq_false (by omega)
        go_wp2_with fail
        refine (records_any HJ1.out.js.j (by omega)).mono ?_
        rintro e w12 ⟨a12, c12, rfl, hr12, hb⟩
        have HR := Lib.hid hr12
        clear hr12
        replace HJ1 := Lib.hid (HJ1.out.low hb)
        replace HS1 := Lib.hid (HS1.out.low hb)
        clear hb
        go_wp2_with fail
        refine (eq_same HR.out HS1.out.mr.row (by omega)).mono ?_
        rintro e w13 ⟨rfl, hb⟩
        replace HJ1 := Lib.hid (HJ1.out.low hb)
        replace HS1 := Lib.hid (HS1.out.low hb)
        clear hb
        go_wp2_with fail
        go_ret
        exact ⟨rfl, HJ1.out.js.ch.2.1⟩
      · have e1 : decide ((k : Int) < (z.length : Int)) = false := decide_eq_false (by omega)
        go_wp2_with fail
        refine (records_any HJ1.out.js.j (by omega)).mono ?_
        rintro e w12 ⟨a12, c12, rfl, hr12, hb⟩
        have HR := Lib.hid hr12
        clear hr12
        replace HJ1 := Lib.hid (HJ1.out.low hb)
        replace HS1 := Lib.hid (HS1.out.low hb)
        clear hb
        go_wp2_with fail
        refine (eq_same HR.out HS1.out.mr.row (by omega)).mono ?_
        rintro e w13 ⟨rfl, hb⟩
        replace HJ1 := Lib.hid (HJ1.out.low hb)
        replace HS1 := Lib.hid (HS1.out.low hb)
        clear hb
        go_wp2_with fail
        go_ret
        exact ⟨rfl, HJ1.out.js.ch.2.1⟩
set_option maxRecDepth 100000 in
theorem journalFull_walk (room : Int) (a : Option Addr) (c : Nat) (z : List ByteArray) (w : World) (hr : RowAt w a (z.map .string)) (hs : ∀ s ∈ z, s.size ≤ 9223372036854775807) (hl : z.length ≤ 9223372036854775807) (LA : Laid w) :
    Calls Tryz.prog 13 #[.int .i64 room, .slice a z.length c] w fun e w' => e = .returned (.bool true) ∧ Below w.heap.size w w' := by
  by_cases h11 : room < 11
  · have d0 : decide (room < 11) = true := decide_eq_true h11
    have HL := Lib.hid LA
    clear LA hr hs
    go_enter Tryz.func13, Tryz.ntmps13
    go_wp2_with fail
    refine (begun4_any w HL.out).mono ?_
    rintro e w1 ⟨rfl, hb⟩
    have HB := Lib.hid hb
    clear hb
    go_wp2_with fail
    go_ret
    exact ⟨rfl, HB.out⟩
  · by_cases h300 : 300 < room
    · have d0 : decide (room < 11) = false := decide_eq_false h11
      have d1 : decide (300 < room) = true := decide_eq_true h300
      have HL := Lib.hid LA
      clear LA hr hs
      go_enter Tryz.func13, Tryz.ntmps13
      go_wp2_with fail
      refine (begun4_any w HL.out).mono ?_
      rintro e w1 ⟨rfl, hb⟩
      have HB := Lib.hid hb
      clear hb
      go_wp2_with fail
      go_ret
      exact ⟨rfl, HB.out⟩
    · exact journalFull_main room h11 h300 a c z w hr hs hl LA
end Go.Proofs.YtcfimmemnmmiiaaGreatDoor

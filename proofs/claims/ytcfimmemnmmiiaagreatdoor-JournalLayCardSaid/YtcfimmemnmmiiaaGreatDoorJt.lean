/- JournalLay: the walk. -/
import Derived.Test.YtcfimmemnmmiiaaGreatDoorJs
namespace Go.Proofs.YtcfimmemnmmiiaaGreatDoor
open Go.RowKit

/-- A new roll beside the log. -/
theorem Log.aside {n : Nat} {r : Int} {L : List Rl} {s : ByteArray} {p : Int} {k : Bool} (h : Log n r L s p k) (x : ByteArray) (hr : (x.size : Int) ≤ r) :
    ∃ L', writeS r L kNEW x = (0, r - x.size, L') ∧ Log (n + 1) (r - x.size) L' s p k := by
  have h1 := writeS_put (L := L) (n := kNEW) (s := x) good_NEW hr
  have h2 := writeS_ok h.ok h.ri kNEW x
  rw [h1] at h2
  refine ⟨_, h1, ⟨⟨h2.1, h2.2.1, by have := h2.2.2.1; have := h.ln; simp only at *; omega⟩, ?_⟩⟩
  rw [look_putL h.ri, if_neg log_ne_new]
  exact h.lk
theorem Side.chest {w0 w w' : World} {J g b : Nat} {v va : Value} {all : List ByteArray} (h : Side w0 w J g b v va all) (k : Only [g, b] w w') : Side w0 w' J g b v va all :=
  ⟨h.mr.keep k (fun q hq hm => by
    simp at hm
    rcases hm with rfl | rfl
    · exact h.ng hq
    · exact h.nb hq), h.lo, h.nj, h.ng, h.nb, h.nv⟩
theorem take_all {α : Type} {l : List α} {j : Nat} (h : l.length ≤ j) : l.take j = l := List.take_of_length_le h
set_option maxRecDepth 100000 in
set_option maxHeartbeats 6400000 in
theorem journalLay_walk (a : Option Addr) (c : Nat) (z : List ByteArray) (s half : ByteArray) (n : Int) (hn : -9223372036854775808 ≤ n ∧ n ≤ 9223372036854775807) (w : World) (hr : RowAt w a (z.map .string)) (hs : ∀ s ∈ z, s.size ≤ 9223372036854775807) (hs1 : s.size ≤ 9223372036854775807) (hs2 : half.size ≤ 9223372036854775807) (hl : z.length ≤ 9223372036854775807) (LA : Laid w) :
    Calls Tryz.prog 12 #[.slice a z.length c, .string s, .string half, .int .i64 n] w fun e w' => e = .returned (.bool true) ∧ Below w.heap.size w w' := by
  have HL := Lib.hid LA
  have HZ := Lib.hid hr
  have HZs := Lib.hid hs
  have Hs1 := Lib.hid hs1
  have Hs2 := Lib.hid hs2
  have Hn := Lib.hid hn
  obtain ⟨S, hS⟩ : ∃ S, cutS s 100 = S := ⟨_, rfl⟩
  have HSc := Lib.hid hS
  have hSs : S.size ≤ 100 := by rw [← hS, cutS_size]; omega
  obtain ⟨X, hX⟩ : ∃ X, cutS half 40 = X := ⟨_, rfl⟩
  have HXc := Lib.hid hX
  have hXs : X.size ≤ 40 := by rw [← hX, cutS_size]; omega
  clear LA hr hs hs1 hs2 hn hS hX
  go_enter Tryz.func12, Tryz.ntmps12
  go_wp2_with fail
  refine (begun4_any w HL.out).mono ?_
  rintro e w1 ⟨rfl, hb⟩
  have HB := Lib.hid hb
  clear hb
  go_wp2_with fail
  refine (jcut_h s S 100 100 w1 HSc Hs1.out (by decide) rfl).mono ?_
  rintro e w1' ⟨rfl, rfl⟩
  go_wp2_with fail
  refine (new_S (w0 := w) HB.out 1048576 1048576 (by decide)).mono ?_
  rintro e w2 ⟨g, b, rfl, hs, -, -, -⟩
  have HS := Lib.hid hs
  clear hs
  go_wp2_with fail
  refine (open_fresh HL.out HS.out (by decide) (by decide)).mono ?_
  rintro e w3 ⟨J, v, L, rfl, hj, -, -⟩
  have HJ := Lib.hid hj
  clear hj HS HB
  go_wp2_with fail
  go_loopw [13, 14] (fun u13 u14 wr => ∃ (k : Nat) (used : Int) (done : List ByteArray) (v va : Value) (L : List Rl) (s : ByteArray), u13 = va ∧ u14 = .int .i64 (k : Int) ∧ k ≤ 8 ∧ k ≤ z.length ∧ done.length = k ∧ 11 ≤ used ∧ used ≤ 11 + 57 * k ∧ (s.size : Int) = used ∧ JL w wr J g b v (3 + 2 * k) (1048576 - used) L s s.size true ⟨#[]⟩ done ∧ Side w wr J g b v va done) (fun _ u14 _ => 30 - (intOf u14).toNat)
  case atStart => exact ⟨0, 11, [], v, _, L, leafB ⟨#[]⟩, rfl, rfl, by omega, by omega, rfl, by omega, by omega, by rw [leaf_nil_size]; rfl, by rw [leaf_nil_size]; exact HJ.out, Side.nil _ _ _ _ _ _⟩
  case round =>
    obtain ⟨k, used, done, v, va, L, s0, rfl, rfl, hk, hkz, hd, hu0, hu, hsu, hj, hside⟩ := hrel
    have HJ1 := Lib.hid hj
    have HS1 := Lib.hid hside
    obtain ⟨aa, ca, rfl⟩ := hside.mr.form
    have HDk := Lib.hid hd
    have hsz := Lib.hid hsu
    have hdl : done.length ≤ 8 := by omega
    have hln := Lib.hid HJ1.out.lg.ln
    clear hj hside HJ hd hsu
    by_cases hkl : k < z.length ∧ k < 8
    · obtain ⟨hk1, hk2⟩ := hkl
      have e1 : decide ((k : Int) < (z.length : Int)) = true := decide_eq_true (by omega)
      have e2 : decide ((k : Int) < 8) = true := decide_eq_true (by omega)
      obtain ⟨q, o, rfl, hc⟩ := (RowAt.keep HZ.out HJ1.out.js.ch.2.1).strs hk1
      have hzk := HZs.out z[k] (List.getElem_mem hk1)
      obtain ⟨A, hA⟩ : ∃ A, cutS z[k] 40 = A := ⟨_, rfl⟩
      have hAs : A.size ≤ 40 := by rw [← hA, cutS_size]; omega
      have HA := Lib.hid hA
      clear hA
      generalize z[k] = x at hc hzk HA
      obtain ⟨hF1, hF2⟩ := leaf_bd (s := A) (by omega)
      have HX := Lib.hid hzk
      clear hzk
      go_wp2_with fail
      refine (jcut_h x A 40 40 wr HA HX.out (by decide) rfl).mono ?_
      rintro e w4 ⟨rfl, rfl⟩
      clear hc
      have HAd := Lib.hid (add_press HL.out HJ1.out (by omega) (by omega) A (by omega) (by omega) (r' := 1048576 - (used + ((leafB A).size : Int))) (p' := ((catB s0 (leafB A)).size : Int)) (by omega) (by rw [catB_size]; omega))
      have hcs : Hid (((catB s0 (leafB A)).size : Int) = used + ((leafB A).size : Int)) := Lib.hid (by have := hsz.out; rw [catB_size]; omega)
      generalize leafB A = F at HAd hF1 hF2 hcs
      go_wp2_with fail
      refine HAd.out.mono ?_
      rintro e w5 ⟨rfl, v5, L5, hj, ho, hq⟩
      have HJ5 := Lib.hid hj
      have HS5 := Lib.hid (HS1.out.add ho hq)
      clear hj ho hq HAd
      have HM : Hid (∀ o, MidRow (w5.alloc o) (.slice aa done.length ca) done) := Lib.hid (fun o => HS5.out.mr.low (below_alloc (Below.refl _ _) _))
      have hl2 := Lib.hid (show done.length < 1000000 by omega)
      go_wp2_with (at_builtin; refine wpList_more rfl _ _ rfl (.slice aa done.length ca) done rfl (HM.out _) A w5.heap.size rfl (by simp) hl2.out ?_; intro va' w7 hm ho hq; obtain ⟨a', c', rfl⟩ := hm.form; obtain ⟨g1, g2⟩ := HS5.out.push HJ5.out (below_alloc (Below.refl _ _) _) ho hm hq; have HS7 := Lib.hid g1; have HJ7 := Lib.hid g2; clear hm ho hq g1 g2)
      have hS7 := HS7.out
      have hJ7 := HJ7.out
      simp only [List.length_append, List.length_cons, List.length_nil, Nat.zero_add] at hS7
      rw [show 3 + 2 * k + 2 = 3 + 2 * (k + 1) by omega] at hJ7
      have hdk := HDk.out
      have hcs' := hcs.out
      exact ⟨⟨k + 1, used + (F.size : Int), done ++ [A], v5, _, L5, catB s0 F, rfl, by go_num, by omega, by omega, by simp [hdk], by omega, by omega, hcs', hJ7, hS7⟩, by simp [intOf]; omega⟩
    · obtain ⟨Lw, hwr, hlw⟩ := HJ1.out.lg.aside X (by omega)
      have hlen := hln.out
      have HWr := Lib.hid (fun W (h : ChS w W g b (1048576 - used) L) => write_S h (by omega) HJ1.out.lg.ok ⟨#[78, 69, 87]⟩ X (by decide) hwr)
      have HLw := Lib.hid hlw
      clear hwr hlw hlen
      have hln2 := hln.out
      by_cases h1 : k < z.length
      · have e1 : decide ((k : Int) < (z.length : Int)) = true := decide_eq_true (by omega)
        have e2 : decide ((k : Int) < 8) = false := decide_eq_false (by omega)
        go_wp2_with fail
        refine (jcut_h half X 40 40 wr HXc Hs2.out (by decide) rfl).mono ?_
        rintro e w4 ⟨rfl, rfl⟩
        go_wp2_with fail
        refine (HWr.out _ HJ1.out.js.ch).mono ?_
        rintro e w5 ⟨rfl, hc, ho⟩
        have HCh := Lib.hid hc
        have HS5 := Lib.hid (HS1.out.chest ho)
        clear hc ho
        go_wp2_with fail
        refine (tear_log HCh.out HLw.out (by omega) n Hn.out (Or.inr rfl)).mono ?_
        rintro e w6 ⟨g6, b6, r6, L6, m6, rfl, hc, hlg, hr, hp, hm, hlk, hb, hg, hbb⟩
        obtain rfl : m6 = s0.size := by omega
        have HF := Lib.hid (HJ1.out.front hm)
        have HK := Lib.hid (open_front (HL.out.keep HCh.out.2.1) hc hlg (by omega) HJ1.out.sz (by rw [HF.out.1, ← HF.out.2.2]; exact hm) (by rw [HF.out.1, HF.out.2.2, leavesL_cons_len, ← leafB_list, ← Lib.size_eq]; omega) HF.out.2.1 (by have := hsz.out; rw [HF.out.1]; omega))
        have hgg : Hid (w5.heap.size ≤ g6 ∧ w5.heap.size ≤ b6 ∧ Below w5.heap.size w5 w6) := Lib.hid ⟨hg, hbb, hb⟩
        clear hc hlg hr hp hm hlk hb hg hbb
        go_wp2_with fail
        refine HK.out.mono ?_
        rintro e w7 ⟨J8, v8, r8, L8, s8, p8, k8, j8, rfl, hj, -, ho, -, hj1, hj2, hj3, -⟩
        rw [take_all (hj2 done.length (Nat.le_refl _) (by rw [List.take_length, HF.out.1, HF.out.2.2]; exact Nat.le_refl _))] at hj
        have HKA := Lib.hid hj.kat
        have hbo : Below w5.heap.size w5 w7 := Only.under hgg.out.2.2 ho (fun i hi => by simp at hi; rcases hi with rfl | rfl; exact hgg.out.1; exact hgg.out.2.1)
        have HC7 := Lib.hid (HCh.out.low hbo)
        have HS7 := Lib.hid (HS5.out.low hbo)
        clear hj ho hj1 hj2 hj3 HK hgg hbo HCh HS5
        go_wp2_with fail
        refine (first_any HKA.out.j).mono ?_
        rintro e w8 ⟨rfl, rfl⟩
        go_wp2_with fail
        refine (records_any HKA.out.j (by omega)).mono ?_
        rintro e w9 ⟨a9, c9, rfl, hr9, hb⟩
        have HR := Lib.hid hr9
        replace HC7 := Lib.hid (HC7.out.low hb)
        replace HS7 := Lib.hid (HS7.out.low hb)
        clear hr9 hb HKA
        go_wp2_with fail
        refine (eq_same HR.out HS7.out.mr.row (by omega)).mono ?_
        rintro e w10 ⟨rfl, hb⟩
        replace HC7 := Lib.hid (HC7.out.low hb)
        clear hb HR HS7
        have HO := Lib.hid (open_front HL.out HC7.out HLw.out (by omega) HJ1.out.sz (by rw [HF.out.2.2]; exact Nat.le_refl _) (by rw [HF.out.2.2, leavesL_cons_len, ← leafB_list, ← Lib.size_eq]; omega) (by rw [HF.out.2.2, List.take_length, HJ1.out.da]) (by have := hsz.out; omega))
        go_wp2_with fail
        refine HO.out.mono ?_
        rintro e w11 ⟨J11, v11, r11, L11, s11, p11, k11, j11, rfl, hj, -, -, hr11, -, -, -, -⟩
        have HJ11 := Lib.hid hj
        clear hj HO HF
        obtain ⟨hG1, hG2⟩ := leaf_bd (s := S) (by omega)
        have HLy := Lib.hid (lay_JL HL.out HJ11.out (by omega) S (by omega) (by omega))
        go_wp2_with fail
        refine HLy.out.mono ?_
        rintro e w12 ⟨rfl, L12, hj, -⟩
        have HJ12 := Lib.hid hj
        clear hj HLy HJ11
        go_wp2_with fail
        refine (tear_log HJ12.out.js.ch HJ12.out.lg (by omega) n Hn.out (Or.inr rfl)).mono ?_
        rintro e w13 ⟨g13, b13, r13, L13, m13, rfl, hc, hlg, hr, hp, hm, hlk, hb, hg, hbb⟩
        obtain rfl : m13 = (leafB S).size := by omega
        have HF := Lib.hid (HJ12.out.front hm)
        have HK := Lib.hid (open_front (HL.out.keep HJ12.out.js.ch.2.1) hc hlg (by omega) HJ12.out.sz (by rw [HF.out.1, ← HF.out.2.2]; exact hm) (by rw [HF.out.1, HF.out.2.2, leavesL_cons_len, ← leafB_list, ← Lib.size_eq]; omega) HF.out.2.1 (by rw [HF.out.1]; omega))
        have hgg : Hid (w12.heap.size ≤ g13 ∧ w12.heap.size ≤ b13 ∧ Below w12.heap.size w12 w13) := Lib.hid ⟨hg, hbb, hb⟩
        clear hc hlg hr hp hm hlk hb hg hbb
        go_wp2_with fail
        refine HK.out.mono ?_
        rintro e w14 ⟨J14, v14, r14, L14, s14, p14, k14, j14, rfl, hj, -, ho, -, -, -, -, -⟩
        rw [List.take_nil] at hj
        have HKA := Lib.hid hj.kat
        have hbo : Below w12.heap.size w12 w14 := Only.under hgg.out.2.2 ho (fun i hi => by simp at hi; rcases hi with rfl | rfl; exact hgg.out.1; exact hgg.out.2.1)
        have HJ14 := Lib.hid (HJ12.out.low hbo)
        clear hj ho HK hgg hbo HF HJ12
        go_wp2_with fail
        refine (first_any HKA.out.j).mono ?_
        rintro e w15 ⟨rfl, rfl⟩
        go_wp2_with fail
        refine (records_any HKA.out.j (by simp)).mono ?_
        rintro e w16 ⟨a16, c16, rfl, -, hb⟩
        replace HJ14 := Lib.hid (HJ14.out.low hb)
        clear hb
        go_wp2_with fail
        refine (long_any (t := true) HJ14.out.js (congrArg Scr.s HJ14.out.lg.at) (congrArg Option.isSome HJ14.out.lg.lk)).mono ?_
        rintro e w17 ⟨rfl, hb⟩
        replace HJ14 := Lib.hid (HJ14.out.low hb)
        clear hb
        go_wp2_with fail
        refine (rleaf_any S w17 (by omega)).mono ?_
        rintro e w18 ⟨rfl, hb⟩
        replace HJ14 := Lib.hid (HJ14.out.low hb)
        clear hb
        go_wp2_with fail
        go_ret
        exact ⟨rfl, HJ14.out.js.ch.2.1⟩
      · have e1 : decide ((k : Int) < (z.length : Int)) = false := decide_eq_false (by omega)
        go_wp2_with fail
        refine (jcut_h half X 40 40 wr HXc Hs2.out (by decide) rfl).mono ?_
        rintro e w4 ⟨rfl, rfl⟩
        go_wp2_with fail
        refine (HWr.out _ HJ1.out.js.ch).mono ?_
        rintro e w5 ⟨rfl, hc, ho⟩
        have HCh := Lib.hid hc
        have HS5 := Lib.hid (HS1.out.chest ho)
        clear hc ho
        go_wp2_with fail
        refine (tear_log HCh.out HLw.out (by omega) n Hn.out (Or.inr rfl)).mono ?_
        rintro e w6 ⟨g6, b6, r6, L6, m6, rfl, hc, hlg, hr, hp, hm, hlk, hb, hg, hbb⟩
        obtain rfl : m6 = s0.size := by omega
        have HF := Lib.hid (HJ1.out.front hm)
        have HK := Lib.hid (open_front (HL.out.keep HCh.out.2.1) hc hlg (by omega) HJ1.out.sz (by rw [HF.out.1, ← HF.out.2.2]; exact hm) (by rw [HF.out.1, HF.out.2.2, leavesL_cons_len, ← leafB_list, ← Lib.size_eq]; omega) HF.out.2.1 (by have := hsz.out; rw [HF.out.1]; omega))
        have hgg : Hid (w5.heap.size ≤ g6 ∧ w5.heap.size ≤ b6 ∧ Below w5.heap.size w5 w6) := Lib.hid ⟨hg, hbb, hb⟩
        clear hc hlg hr hp hm hlk hb hg hbb
        go_wp2_with fail
        refine HK.out.mono ?_
        rintro e w7 ⟨J8, v8, r8, L8, s8, p8, k8, j8, rfl, hj, -, ho, -, hj1, hj2, hj3, -⟩
        rw [take_all (hj2 done.length (Nat.le_refl _) (by rw [List.take_length, HF.out.1, HF.out.2.2]; exact Nat.le_refl _))] at hj
        have HKA := Lib.hid hj.kat
        have hbo : Below w5.heap.size w5 w7 := Only.under hgg.out.2.2 ho (fun i hi => by simp at hi; rcases hi with rfl | rfl; exact hgg.out.1; exact hgg.out.2.1)
        have HC7 := Lib.hid (HCh.out.low hbo)
        have HS7 := Lib.hid (HS5.out.low hbo)
        clear hj ho hj1 hj2 hj3 HK hgg hbo HCh HS5
        go_wp2_with fail
        refine (first_any HKA.out.j).mono ?_
        rintro e w8 ⟨rfl, rfl⟩
        go_wp2_with fail
        refine (records_any HKA.out.j (by omega)).mono ?_
        rintro e w9 ⟨a9, c9, rfl, hr9, hb⟩
        have HR := Lib.hid hr9
        replace HC7 := Lib.hid (HC7.out.low hb)
        replace HS7 := Lib.hid (HS7.out.low hb)
        clear hr9 hb HKA
        go_wp2_with fail
        refine (eq_same HR.out HS7.out.mr.row (by omega)).mono ?_
        rintro e w10 ⟨rfl, hb⟩
        replace HC7 := Lib.hid (HC7.out.low hb)
        clear hb HR HS7
        have HO := Lib.hid (open_front HL.out HC7.out HLw.out (by omega) HJ1.out.sz (by rw [HF.out.2.2]; exact Nat.le_refl _) (by rw [HF.out.2.2, leavesL_cons_len, ← leafB_list, ← Lib.size_eq]; omega) (by rw [HF.out.2.2, List.take_length, HJ1.out.da]) (by have := hsz.out; omega))
        go_wp2_with fail
        refine HO.out.mono ?_
        rintro e w11 ⟨J11, v11, r11, L11, s11, p11, k11, j11, rfl, hj, -, -, hr11, -, -, -, -⟩
        have HJ11 := Lib.hid hj
        clear hj HO HF
        obtain ⟨hG1, hG2⟩ := leaf_bd (s := S) (by omega)
        have HLy := Lib.hid (lay_JL HL.out HJ11.out (by omega) S (by omega) (by omega))
        go_wp2_with fail
        refine HLy.out.mono ?_
        rintro e w12 ⟨rfl, L12, hj, -⟩
        have HJ12 := Lib.hid hj
        clear hj HLy HJ11
        go_wp2_with fail
        refine (tear_log HJ12.out.js.ch HJ12.out.lg (by omega) n Hn.out (Or.inr rfl)).mono ?_
        rintro e w13 ⟨g13, b13, r13, L13, m13, rfl, hc, hlg, hr, hp, hm, hlk, hb, hg, hbb⟩
        obtain rfl : m13 = (leafB S).size := by omega
        have HF := Lib.hid (HJ12.out.front hm)
        have HK := Lib.hid (open_front (HL.out.keep HJ12.out.js.ch.2.1) hc hlg (by omega) HJ12.out.sz (by rw [HF.out.1, ← HF.out.2.2]; exact hm) (by rw [HF.out.1, HF.out.2.2, leavesL_cons_len, ← leafB_list, ← Lib.size_eq]; omega) HF.out.2.1 (by rw [HF.out.1]; omega))
        have hgg : Hid (w12.heap.size ≤ g13 ∧ w12.heap.size ≤ b13 ∧ Below w12.heap.size w12 w13) := Lib.hid ⟨hg, hbb, hb⟩
        clear hc hlg hr hp hm hlk hb hg hbb
        go_wp2_with fail
        refine HK.out.mono ?_
        rintro e w14 ⟨J14, v14, r14, L14, s14, p14, k14, j14, rfl, hj, -, ho, -, -, -, -, -⟩
        rw [List.take_nil] at hj
        have HKA := Lib.hid hj.kat
        have hbo : Below w12.heap.size w12 w14 := Only.under hgg.out.2.2 ho (fun i hi => by simp at hi; rcases hi with rfl | rfl; exact hgg.out.1; exact hgg.out.2.1)
        have HJ14 := Lib.hid (HJ12.out.low hbo)
        clear hj ho HK hgg hbo HF HJ12
        go_wp2_with fail
        refine (first_any HKA.out.j).mono ?_
        rintro e w15 ⟨rfl, rfl⟩
        go_wp2_with fail
        refine (records_any HKA.out.j (by simp)).mono ?_
        rintro e w16 ⟨a16, c16, rfl, -, hb⟩
        replace HJ14 := Lib.hid (HJ14.out.low hb)
        clear hb
        go_wp2_with fail
        refine (long_any (t := true) HJ14.out.js (congrArg Scr.s HJ14.out.lg.at) (congrArg Option.isSome HJ14.out.lg.lk)).mono ?_
        rintro e w17 ⟨rfl, hb⟩
        replace HJ14 := Lib.hid (HJ14.out.low hb)
        clear hb
        go_wp2_with fail
        refine (rleaf_any S w17 (by omega)).mono ?_
        rintro e w18 ⟨rfl, hb⟩
        replace HJ14 := Lib.hid (HJ14.out.low hb)
        clear hb
        go_wp2_with fail
        go_ret
        exact ⟨rfl, HJ14.out.js.ch.2.1⟩
end Go.Proofs.YtcfimmemnmmiiaaGreatDoor

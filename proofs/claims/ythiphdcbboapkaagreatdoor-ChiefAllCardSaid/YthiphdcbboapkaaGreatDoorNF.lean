/- Walk of law4's eq over rows that are the same. Walk of law4's begun. -/
import Derived.Test.YthiphdcbboapkaaGreatDoorNE
import Derived.Deep.QuietTactic
import Derived.BigQuiet
import Derived.Test.YthiphdcbboapkaaGreatDoorN7
namespace Go.Proofs.YthiphdcbboapkaaGreatDoor
open Go.RowKit

theorem RowAt.strs {w : World} {a : Option Addr} {ss : List ByteArray} (h : RowAt w a (ss.map .string)) {k : Nat} (hk : k < ss.length) : ∃ q o, a = some ⟨q, o, none⟩ ∧ w.cell? ⟨q, o + k, none⟩ = some (.string ss[k]) := by
  rcases h with h | ⟨q, o, rfl, -, hc⟩
  · have : ss = [] := by simpa using h
    subst this; simp at hk
  · exact ⟨q, o, rfl, hc k _ (by rw [List.getElem?_map, List.getElem?_eq_getElem hk]; rfl)⟩
set_option maxRecDepth 100000 in
set_option maxHeartbeats 1600000 in
theorem eq_same {w : World} {a b : Option Addr} {c d : Nat} {ss : List ByteArray} (ha : RowAt w a (ss.map .string)) (hb : RowAt w b (ss.map .string)) (hl : ss.length < 1000000) :
    Calls Tryz.prog 67 #[.slice a ss.length c, .slice b ss.length d] w fun e w' => e = .returned (.bool true) ∧ Below w.heap.size w w' := by
  have HA := Lib.hid ha
  have HB := Lib.hid hb
  have HW : Hid (Below w.heap.size w w) := Lib.hid (Below.refl _ _)
  clear ha hb
  go_enter Tryz.func67, Tryz.ntmps67
  go_wp2_with fail
  go_loopw [5] (fun i wr => ∃ k : Nat, k ≤ ss.length ∧ i = .int .i64 (k : Int) ∧ Below w.heap.size w wr) (fun i _ => ss.length - (intOf i).toNat)
  case atStart => exact ⟨0, Nat.zero_le _, rfl, HW.out⟩
  case round =>
    obtain ⟨k, hk, rfl, hbw⟩ := hrel
    have HBW := Lib.hid hbw
    have HA2 := Lib.hid (RowAt.keep HA.out hbw)
    have HB2 := Lib.hid (RowAt.keep HB.out hbw)
    clear hbw HA HB HW
    by_cases hlt : k < ss.length
    · obtain ⟨q, o, rfl, hc⟩ := HA2.out.strs hlt
      obtain ⟨q2, o2, rfl, hc2⟩ := HB2.out.strs hlt
      have e1 : decide ((k : Int) < (ss.length : Int)) = true := decide_eq_true (by omega)
      clear HA2 HB2
      generalize ss[k] = x at hc hc2
      go_wp2_with fail
      go_quiet (fail)
      go_wp2_with fail
      exact ⟨⟨k + 1, by omega, rfl, below_drewN HBW.out _⟩, by simp [intOf]; omega⟩
    · have e1 : decide ((k : Int) < (ss.length : Int)) = false := decide_eq_false (by omega)
      go_wp2_with fail
      go_ret
      exact ⟨rfl, HBW.out⟩
end Go.Proofs.YthiphdcbboapkaaGreatDoor
namespace Go.Proofs.YthiphdcbboapkaaGreatDoor
open Go.RowKit

def bOne : ByteArray := ⟨#[111, 110, 101]⟩
def bTwo : ByteArray := ⟨#[116, 119, 111]⟩
def bState : ByteArray := ⟨#[115, 116, 97, 116, 101]⟩
theorem leaf_size_small {s : ByteArray} (h : s.size < 10) : (leafB s).size = s.size + 11 := by
  rw [leafB_size (by omega), Lib.decDigits_one h]
  rfl
theorem leaf_one : (leafB ⟨#[111, 110, 101]⟩).size = 14 := leaf_size_small (by decide)
theorem leaf_two : (leafB ⟨#[116, 119, 111]⟩).size = 14 := leaf_size_small (by decide)
theorem leaf_state : (leafB ⟨#[115, 116, 97, 116, 101]⟩).size = 16 := leaf_size_small (by decide)
theorem leaf_ab : (leafB ⟨#[97, 98]⟩).size = 13 := leaf_size_small (by decide)
set_option maxRecDepth 100000 in
set_option maxHeartbeats 6400000 in
theorem begun4_any (w : World) (LA : Laid w) : Calls Tryz.prog 47 #[] w fun e w' => e = .returned (.bool true) ∧ Below w.heap.size w w' := by
  have HL := Lib.hid LA
  clear LA
  go_enter Tryz.func47, Tryz.ntmps47
  go_wp2_with fail
  refine (new_S (w0 := w) (Below.refl _ _) 10000 10000 (by decide)).mono ?_
  rintro e w1 ⟨g, b, rfl, hs, -, -, -⟩
  have HS := Lib.hid hs
  clear hs
  go_wp2_with fail
  refine (open_fresh HL.out HS.out (by decide) (by decide)).mono ?_
  rintro e w2 ⟨J, v, L, rfl, hj, -, -⟩
  have HJ := Lib.hid hj
  clear hj HS
  go_wp2_with fail
  refine (add_press HL.out HJ.out (by decide) (by decide) ⟨#[111, 110, 101]⟩ (by decide) (by rw [leaf_one]; decide) (r' := 9975) (p' := 25) (by rw [leaf_one]; decide) (by rw [leaf_one, leaf_nil_size]; decide)).mono ?_
  rintro e w3 ⟨rfl, v3, L3, hj, -, -⟩
  have HJ3 := Lib.hid hj
  clear hj HJ
  go_wp2_with fail
  refine (add_soft HL.out HJ3.out (by decide) (by decide) ⟨#[116, 119, 111]⟩ (by decide) (by rw [leaf_two]; decide) (r' := 9961) (by rw [leaf_two]; decide)).mono ?_
  rintro e w4 ⟨rfl, v4, L4, hj, -, -⟩
  have HJ4 := Lib.hid hj
  have hsz : (catB (catB (leafB ⟨#[]⟩) (leafB ⟨#[111, 110, 101]⟩)) (leafB ⟨#[116, 119, 111]⟩)).size = 39 := by rw [catB_size, catB_size, leaf_nil_size, leaf_one, leaf_two]
  clear hj HJ3
  generalize catB (catB (leafB ⟨#[]⟩) (leafB ⟨#[111, 110, 101]⟩)) (leafB ⟨#[116, 119, 111]⟩) = S at HJ4 hsz
  have HSZ := Lib.hid hsz
  clear hsz
  go_wp2_with fail
  refine (tear_log HJ4.out.js.ch HJ4.out.lg (by decide) 0 (by decide) (Or.inr rfl)).mono ?_
  rintro e w5 ⟨g5, b5, r5, L5, m5, rfl, hc, hl, hr, hp, hm, hlk, hb, hg, hbb⟩
  have HJ5 := Lib.hid (HJ4.out.low hb)
  obtain rfl : m5 = 25 := by
    unfold leftK at hlk
    rw [if_neg (by decide)] at hlk
    simp only at hlk
    omega
  have HF := Lib.hid (HJ4.out.front hm)
  have HK := Lib.hid (open_front (HL.out.keep HJ4.out.js.ch.2.1) hc hl (by decide) HJ4.out.sz (by rw [HF.out.1, ← HF.out.2.2]; exact hm) (by rw [HF.out.1]; show (leafL []).length ≤ 25; rw [leafL_len (by decide), List.length_nil, Lib.decDigits_one (by decide)]; decide) HF.out.2.1 (by rw [HF.out.1]; decide))
  have hgg : Hid (w4.heap.size ≤ g5 ∧ w4.heap.size ≤ b5 ∧ Below w4.heap.size w4 w5) := Lib.hid ⟨hg, hbb, hb⟩
  clear hc hl hr hp hm hlk hb hg hbb
  go_wp2_with fail
  refine HK.out.mono ?_
  rintro e w6 ⟨J6, v6, r6, L6, s6, p6, k6, j6, rfl, hj, -, ho, -, hj1, hj2, hj3, -⟩
  obtain rfl : j6 = 1 := by
    have h1 := hj2 1 (by decide) (by rw [HF.out.1]; show (leavesL [⟨#[]⟩, ⟨#[111, 110, 101]⟩]).length ≤ 25; rw [leavesL_cons_len, leavesL_cons_len, leaf_nil_size, leaf_one]; decide)
    rw [HF.out.1] at hj3
    have h2 : j6 ≤ 2 := hj1
    rcases Nat.lt_or_ge j6 2 with h | h
    · omega
    · obtain rfl : j6 = 2 := by omega
      change (leavesL [⟨#[]⟩, ⟨#[111, 110, 101]⟩, ⟨#[116, 119, 111]⟩]).length ≤ 25 at hj3
      rw [leavesL_cons_len, leavesL_cons_len, leavesL_cons_len, leaf_nil_size, leaf_one, leaf_two] at hj3
      omega
  have HKA : Hid (KAt w4.heap.size w6 J6 g5 v6 ⟨#[]⟩ [⟨#[111, 110, 101]⟩]) := Lib.hid hj.kat
  have HJ6 := Lib.hid (HJ4.out.low (Only.under hgg.out.2.2 ho (fun i hi => by simp at hi; rcases hi with rfl | rfl; exact hgg.out.1; exact hgg.out.2.1)))
  have HKA0 := HKA
  have HW46 : Hid (w4.heap.size ≤ w6.heap.size) := Lib.hid (Nat.le_trans hgg.out.2.2.size ho.size)
  clear hj ho hj1 hj2 hj3 HK HF HJ5 hgg
  go_wp2_with fail
  refine (tear_log HJ6.out.js.ch HJ6.out.lg (by decide) 5 (by decide) (Or.inr rfl)).mono ?_
  rintro e w7 ⟨g7, b7, r7, L7, m7, rfl, hc, hl, hr, hp, hm, hlk, hb, hg, hbb⟩
  have HKA := Lib.hid (HKA.out.low hb)
  obtain rfl : m7 = 30 := by
    unfold leftK at hlk
    rw [if_pos (by decide)] at hlk
    simp only [HSZ.out] at hlk
    omega
  have HF := Lib.hid (HJ6.out.front hm)
  have HK := Lib.hid (open_front (HL.out.keep HJ6.out.js.ch.2.1) hc hl (by decide) HJ6.out.sz (by rw [HF.out.1, ← HF.out.2.2]; exact hm) (by rw [HF.out.1]; show (leafL []).length ≤ 30; rw [leafL_len (by decide), List.length_nil, Lib.decDigits_one (by decide)]; decide) HF.out.2.1 (by rw [HF.out.1]; decide))
  have hgg : Hid (w6.heap.size ≤ g7 ∧ w6.heap.size ≤ b7 ∧ Below w6.heap.size w6 w7) := Lib.hid ⟨hg, hbb, hb⟩
  clear hc hl hr hp hm hlk hb hg hbb
  go_wp2_with fail
  refine HK.out.mono ?_
  rintro e w8 ⟨J8, v8, r8, L8, s8, p8, k8, j8, rfl, hj, -, ho, -, hj1, hj2, hj3, -⟩
  obtain rfl : j8 = 1 := by
    have h1 := hj2 1 (by decide) (by rw [HF.out.1]; show (leavesL [⟨#[]⟩, ⟨#[111, 110, 101]⟩]).length ≤ 30; rw [leavesL_cons_len, leavesL_cons_len, leaf_nil_size, leaf_one]; decide)
    rw [HF.out.1] at hj3
    have h2 : j8 ≤ 2 := hj1
    rcases Nat.lt_or_ge j8 2 with h | h
    · omega
    · obtain rfl : j8 = 2 := by omega
      change (leavesL [⟨#[]⟩, ⟨#[111, 110, 101]⟩, ⟨#[116, 119, 111]⟩]).length ≤ 30 at hj3
      rw [leavesL_cons_len, leavesL_cons_len, leavesL_cons_len, leaf_nil_size, leaf_one, leaf_two] at hj3
      omega
  have HKB : Hid (KAt w6.heap.size w8 J8 g7 v8 ⟨#[]⟩ [⟨#[111, 110, 101]⟩]) := Lib.hid hj.kat
  have hbo : Below w6.heap.size w6 w8 := Only.under hgg.out.2.2 ho (fun i hi => by simp at hi; rcases hi with rfl | rfl; exact hgg.out.1; exact hgg.out.2.1)
  have HJ8 := Lib.hid (HJ6.out.low hbo)
  have HKA8 : Hid (KAt w4.heap.size w8 J6 g5 v6 ⟨#[]⟩ [⟨#[111, 110, 101]⟩]) := Lib.hid (by
    have h6 : w7.heap.size ≤ w8.heap.size := ho.size
    have h7 : KAt w4.heap.size w6 J6 g5 v6 ⟨#[]⟩ [⟨#[111, 110, 101]⟩] := HKA0.out
    exact h7.low hbo)
  have HW4 : Hid (J < w4.heap.size ∧ g < w4.heap.size ∧ b < w4.heap.size) := Lib.hid ⟨HJ4.out.js.j.lt, HJ4.out.js.ch.1.ltg, HJ4.out.js.ch.1.ltb⟩
  have HW6 : Hid (w4.heap.size ≤ w6.heap.size) := HW46
  clear hj ho hj1 hj2 hj3 HK HF hgg HKA HJ4 HJ6 hbo
  go_wp2_with fail
  refine (lay_JL HL.out HJ8.out (by decide) ⟨#[115, 116, 97, 116, 101]⟩ (by decide) (by rw [leaf_state]; decide)).mono ?_
  rintro e w9 ⟨rfl, L9, hj, ho⟩
  rw [leaf_state, HSZ.out] at hj
  have HJ9 := Lib.hid hj
  have HKA9 := Lib.hid (HKA8.out.keep ho (fun i hi => by simp at hi; rcases hi with rfl | rfl | rfl; exact HW4.out.1; exact HW4.out.2.1; exact HW4.out.2.2))
  have HKB9 := Lib.hid (HKB.out.keep ho (fun i hi => by
    have h6 := HW6.out
    have h4 := HW4.out
    simp at hi; rcases hi with rfl | rfl | rfl <;> omega))
  clear hj ho HKA8 HKB HJ8
  go_wp2_with fail
  refine (tear_log HJ9.out.js.ch HJ9.out.lg (by decide) 0 (by decide) (Or.inr rfl)).mono ?_
  rintro e w10 ⟨g10, b10, r10, L10, m10, rfl, hc, hl, hr, hp, hm, hlk, hb, hg, hbb⟩
  obtain rfl : m10 = 16 := by
    unfold leftK at hlk
    rw [if_neg (by decide)] at hlk
    simp only at hlk
    omega
  have HF := Lib.hid (HJ9.out.front hm)
  have HK := Lib.hid (open_front (HL.out.keep HJ9.out.js.ch.2.1) hc hl (by decide) HJ9.out.sz (by rw [HF.out.1, ← HF.out.2.2]; exact hm) (by rw [HF.out.1, ← leafB_list, ← Lib.size_eq, leaf_state]; decide) HF.out.2.1 (by rw [HF.out.1]; decide))
  have hgg : Hid (w9.heap.size ≤ g10 ∧ w9.heap.size ≤ b10 ∧ Below w9.heap.size w9 w10) := Lib.hid ⟨hg, hbb, hb⟩
  clear hc hl hr hp hm hlk hb hg hbb
  go_wp2_with fail
  refine HK.out.mono ?_
  rintro e w11 ⟨J11, v11, r11, L11, s11, p11, k11, j11, rfl, hj, -, ho, -, hj1, hj2, hj3, -⟩
  obtain rfl : j11 = 0 := by simpa using hj1
  have HKC : Hid (KAt w9.heap.size w11 J11 g10 v11 ⟨#[115, 116, 97, 116, 101]⟩ []) := Lib.hid hj.kat
  have hbo : Below w9.heap.size w9 w11 := Only.under hgg.out.2.2 ho (fun i hi => by simp at hi; rcases hi with rfl | rfl; exact hgg.out.1; exact hgg.out.2.1)
  have HJ11 := Lib.hid (HJ9.out.low hbo)
  have HKA11 := Lib.hid (HKA9.out.low hbo)
  have HKB11 := Lib.hid (HKB9.out.low hbo)
  clear hj ho hj1 hj2 hj3 HK HF hgg HJ9 HKA9 HKB9 hbo HW4 HW6
  go_wp2_with fail
  refine (leaf_any ⟨#[97, 98]⟩ w11 (HL.out.keep HJ11.out.js.ch.2.1) (by decide)).mono ?_
  rintro e w12 ⟨rfl, hb⟩
  replace HJ11 := Lib.hid (HJ11.out.low hb)
  replace HKA11 := Lib.hid (HKA11.out.low hb)
  replace HKB11 := Lib.hid (HKB11.out.low hb)
  replace HKC := Lib.hid (HKC.out.low hb)
  clear hb
  have hlim : ¬ (9223372036854775807 < (leafB ⟨#[97, 98]⟩).size + 1) := by rw [leaf_ab]; decide
  have HF := Lib.hid (turn_leaf (u := ⟨#[97, 98]⟩) (s := leafB ⟨#[97, 98]⟩ ++ ⟨#[122]⟩) (r := [122]) (by decide) (by rw [ByteArray.data_append, Array.toList_append, leafB_list]))
  have HFs : Hid ((leafB ⟨#[97, 98]⟩ ++ ⟨#[122]⟩).size ≤ 140737488355328) := Lib.hid (by rw [ByteArray.size_append, leaf_ab]; decide)
  have HFl : Hid ((leafL (⟨#[97, 98]⟩ : ByteArray).data.toList).length = 13) := Lib.hid (by rw [← leafB_list, ← Lib.size_eq, leaf_ab])
  generalize leafB ⟨#[97, 98]⟩ = F at HF HFs hlim ⊢
  go_wp2_with fail
  refine (turn_any _ w12 (HL.out.keep HJ11.out.js.ch.2.1) HFs.out).mono ?_
  unfold TurnR
  rw [HF.out, HFl.out]
  rintro e w13 ⟨rfl, hb⟩
  replace HJ11 := Lib.hid (HJ11.out.low hb)
  replace HKA11 := Lib.hid (HKA11.out.low hb)
  replace HKB11 := Lib.hid (HKB11.out.low hb)
  replace HKC := Lib.hid (HKC.out.low hb)
  clear hb
  clear hlim HF HFs HFl
  go_wp2_with fail
  refine (Begun3_any w13 (HL.out.keep HJ11.out.js.ch.2.1)).mono ?_
  rintro e w14 ⟨rfl, hb⟩
  replace HJ11 := Lib.hid (HJ11.out.low hb)
  replace HKA11 := Lib.hid (HKA11.out.low hb)
  replace HKB11 := Lib.hid (HKB11.out.low hb)
  replace HKC := Lib.hid (HKC.out.low hb)
  clear hb
  go_wp2_with fail
  refine (records_any HKA11.out.j (by decide)).mono ?_
  rintro e w15 ⟨a15, c15, rfl, hr15, hb⟩
  have HR := Lib.hid hr15
  clear hr15
  replace HJ11 := Lib.hid (HJ11.out.low hb)
  replace HKA11 := Lib.hid (HKA11.out.low hb)
  replace HKB11 := Lib.hid (HKB11.out.low hb)
  replace HKC := Lib.hid (HKC.out.low hb)
  clear hb
  go_wp2_with fail
  refine (eq_same (ss := [⟨#[111, 110, 101]⟩]) (RowAt.keep HR.out (below_alloc (Below.refl _ _) _)) (RowAt.new w15 (.string ⟨#[111, 110, 101]⟩) 9) (by decide)).mono ?_
  rintro e w16 ⟨rfl, hb⟩
  replace hb := below_on (below_alloc (Below.refl w15.heap.size w15) (.cells #[.string ⟨#[111, 110, 101]⟩] 9)) hb
  clear HR
  replace HJ11 := Lib.hid (HJ11.out.low hb)
  replace HKA11 := Lib.hid (HKA11.out.low hb)
  replace HKB11 := Lib.hid (HKB11.out.low hb)
  replace HKC := Lib.hid (HKC.out.low hb)
  clear hb
  go_wp2_with fail
  refine (records_any HKB11.out.j (by decide)).mono ?_
  rintro e w17 ⟨a17, c17, rfl, hr17, hb⟩
  have HR := Lib.hid hr17
  clear hr17
  replace HJ11 := Lib.hid (HJ11.out.low hb)
  replace HKA11 := Lib.hid (HKA11.out.low hb)
  replace HKB11 := Lib.hid (HKB11.out.low hb)
  replace HKC := Lib.hid (HKC.out.low hb)
  clear hb
  go_wp2_with fail
  refine (eq_same (ss := [⟨#[111, 110, 101]⟩]) (RowAt.keep HR.out (below_alloc (Below.refl _ _) _)) (RowAt.new w17 (.string ⟨#[111, 110, 101]⟩) 9) (by decide)).mono ?_
  rintro e w18 ⟨rfl, hb⟩
  replace hb := below_on (below_alloc (Below.refl w17.heap.size w17) (.cells #[.string ⟨#[111, 110, 101]⟩] 9)) hb
  clear HR
  replace HJ11 := Lib.hid (HJ11.out.low hb)
  replace HKA11 := Lib.hid (HKA11.out.low hb)
  replace HKB11 := Lib.hid (HKB11.out.low hb)
  replace HKC := Lib.hid (HKC.out.low hb)
  clear hb
  go_wp2_with fail
  refine (first_any HKC.out.j).mono ?_
  rintro e w19 ⟨rfl, rfl⟩
  go_wp2_with fail
  refine (records_any HKC.out.j (by decide)).mono ?_
  rintro e w20 ⟨a20, c20, rfl, -, hb⟩
  replace HJ11 := Lib.hid (HJ11.out.low hb)
  replace HKA11 := Lib.hid (HKA11.out.low hb)
  replace HKB11 := Lib.hid (HKB11.out.low hb)
  replace HKC := Lib.hid (HKC.out.low hb)
  clear hb
  go_wp2_with fail
  refine (first_any HJ11.out.js.j).mono ?_
  rintro e w21 ⟨rfl, rfl⟩
  go_wp2_with fail
  refine (long_any (t := true) HJ11.out.js (congrArg Scr.s HJ11.out.lg.at) (congrArg Option.isSome HJ11.out.lg.lk)).mono ?_
  rintro e w22 ⟨rfl, hb⟩
  replace HJ11 := Lib.hid (HJ11.out.low hb)
  replace HKA11 := Lib.hid (HKA11.out.low hb)
  replace HKB11 := Lib.hid (HKB11.out.low hb)
  replace HKC := Lib.hid (HKC.out.low hb)
  clear hb
  have hlong : decide ((8 : Int) < ((leafB ⟨#[115, 116, 97, 116, 101]⟩).size : Int)) = true := by rw [leaf_state]; decide
  go_wp2_with fail
  go_ret
  exact ⟨rfl, HJ11.out.js.ch.2.1⟩
end Go.Proofs.YthiphdcbboapkaaGreatDoor

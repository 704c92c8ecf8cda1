/- A chest of the document's: a roll called by another name. -/
import Derived.Test.YtjblbjamceloaaaGreatDoorVg
import Derived.Test.YtjblbjamceloaaaGreatDoorVf
namespace Go.Proofs.YtjblbjamceloaaaGreatDoor
open Go.RowKit

set_option maxRecDepth 100000
theorem put_low {m : Nm} {x : Scr} {r : List Rl} (h : ∀ y ∈ r, m < y.1) : putL m x r = (m, x) :: r := by
  cases r with
  | nil => rfl
  | cons z t => unfold putL; rw [if_pos (h z (by simp))]
theorem put_del {m : Nm} {x : Scr} : ∀ {M : List Rl}, Rising M → putL m x (delL m M) = putL m x M
  | [], _ => rfl
  | y :: r, hs => by
    have hr : Rising r := (List.pairwise_cons.1 hs).2
    have hh := (List.pairwise_cons.1 hs).1
    by_cases h1 : y.1 = m
    · have hlow : ∀ z ∈ r, m < z.1 := fun z hz => by rw [← h1]; exact hh z hz
      have e1 : delL m (y :: r) = r := by
        have := del_none (look_of_low hlow)
        unfold delL at this ⊢
        rw [List.filter_cons_of_neg (by simp [h1]), this]
      rw [e1, put_low hlow]
      unfold putL
      rw [if_neg (by rw [h1]; exact lt_irr _), if_pos h1]
    · have e1 : delL m (y :: r) = y :: delL m r := by unfold delL; rw [List.filter_cons_of_pos (by simp [h1])]
      rw [e1]
      unfold putL
      by_cases h2 : m < y.1
      · rw [if_pos h2, if_pos h2, del_none (look_of_low (fun z hz => lt_tr h2 (hh z hz)))]
      · rw [if_neg h2, if_neg h2, if_neg h1, if_neg h1, put_del hr]
set_option maxHeartbeats 6400000 in
theorem rcalled_any {w : World} {d : Nat} {v : Value} {z r : Int} {L : List Rl} (H : DocAt w d v z L) (hL : L.length < 800000) (hs : Rising L) (n m : ByteArray) (hm : m.size ≤ 9223372036854775807) {er r' : Int} {L' : List Rl} (he : callS r L n.data.toList m.data.toList = (er, r', L')) :
    Calls Tryz.prog 49 #[.pointer (some ⟨d, 0, none⟩), .string n, .string m] w (DocR w d v er z L') := by
  have HN := Lib.hid (fun W => rname_any m W hm)
  have HAt := Lib.hid (fun W (h : DocAt W d v z L) => rat_any h (by omega) hs n)
  have HD := Lib.hid H
  unfold callS at he
  cases hg : goodN m.data.toList with
  | false =>
    rw [if_pos hg] at he
    simp only [Prod.mk.injEq] at he
    obtain ⟨rfl, -, rfl⟩ := he
    rw [hg] at HN
    obtain ⟨t, ht⟩ : ∃ t, (lookL n.data.toList L).isSome = t := ⟨_, rfl⟩
    rw [ht] at HAt
    clear H hs hg ht
    go_enter Tryz.func49, Tryz.ntmps49
    go_wp2_with fail
    refine (HAt.out _ HD.out).mono ?_
    rintro e w1 ⟨rfl, hb⟩
    have HB := Lib.hid hb
    clear hb
    go_wp2_with fail
    refine (HN.out _).mono ?_
    rintro e w2 ⟨rfl, rfl⟩
    go_wp2_with fail
    go_ret
    exact DocR.same HD.out HB.out
  | true =>
    rw [if_neg (by rw [hg]; simp)] at he
    rw [hg] at HN
    cases hl : lookL n.data.toList L with
    | none =>
      rw [hl] at he
      simp only [Prod.mk.injEq] at he
      obtain ⟨rfl, -, rfl⟩ := he
      rw [hl, Option.isSome_none] at HAt
      clear H hs hg hl
      go_enter Tryz.func49, Tryz.ntmps49
      go_wp2_with fail
      refine (HAt.out _ HD.out).mono ?_
      rintro e w1 ⟨rfl, hb⟩
      have HB := Lib.hid hb
      clear hb
      go_wp2_with fail
      refine (HN.out _).mono ?_
      rintro e w2 ⟨rfl, rfl⟩
      go_wp2_with fail
      go_ret
      exact DocR.same HD.out HB.out
    | some c =>
      rw [hl] at he
      dsimp only at he
      have hkc := (look_place hs c).1 hl
      have hkl := (List.getElem?_eq_some_iff.1 hkc).1
      rw [hl, Option.isSome_some] at HAt
      by_cases hnm : n = m
      · subst hnm
        rw [if_pos rfl] at he
        simp only [Prod.mk.injEq] at he
        obtain ⟨rfl, -, rfl⟩ := he
        have hnn : (n.toList == n.toList) = true := by simp
        clear H hs hg hl hkc hkl
        go_enter Tryz.func49, Tryz.ntmps49
        go_wp2_with fail
        refine (HAt.out _ HD.out).mono ?_
        rintro e w1 ⟨rfl, hb⟩
        have HB := Lib.hid hb
        clear hb
        go_wp2_with fail
        refine (HN.out _).mono ?_
        rintro e w2 ⟨rfl, rfl⟩
        go_wp2_with fail
        go_ret
        exact DocR.same HD.out HB.out
      · have hnl : n.data.toList ≠ m.data.toList := fun e => hnm (ba_ext e)
        rw [if_neg hnl] at he
        simp only [Prod.mk.injEq] at he
        obtain ⟨rfl, -, hL'⟩ := he
        have hnn : (n.toList == m.toList) = false := by rw [str_eqL]; exact decide_eq_false hnm
        have HOut := Lib.hid (fun W (h : DocAt W d v z L) => rout_any h (by omega) hs n.data.toList (by rw [hl]; rfl))
        have hd1 := delL_rising (n := n.data.toList) hs
        have hl1 := len_delL n.data.toList L
        have hlm : lookL m.data.toList (delL n.data.toList L) = lookL m.data.toList L := by rw [look_delL hs, if_neg (fun e => hnl e.symm)]
        generalize delL n.data.toList L = L1 at HOut hd1 hl1 hlm hL'
        generalize placeL n.data.toList L = k at HAt HOut hkc hkl
        have HKC := Lib.hid hkc
        have HAm := Lib.hid (fun W v1 (h : DocAt W d v1 z L1) => rat_any h (by omega) hd1 m)
        cases hlk : lookL m.data.toList L1 with
        | none =>
          rw [hlk, Option.isSome_none] at HAm
          have HIn := Lib.hid (fun W v1 (h : DocAt W d v1 z L1) => rin_any h (by omega) hd1 m.data.toList ⟨c.s, c.p, true⟩ hlk)
          rw [nmB_of, hL'] at HIn
          clear H hs hg hl hkc hd1 hlm hlk hl1
          go_enter Tryz.func49, Tryz.ntmps49
          go_wp2_with fail
          refine (HAt.out _ HD.out).mono ?_
          rintro e w1 ⟨rfl, hb⟩
          have HB := Lib.hid hb
          have HD1 := Lib.hid (HD.out.low hb)
          clear hb
          obtain ⟨q, cap, hv, g0, g1, g2, g3, gf⟩ := HD1.out.rw.get HKC.out
          have c1 := HD1.out.c1
          rw [hv] at c1
          have HVv := Lib.hid hv
          clear hv
          go_wp2_with fail
          refine (HN.out _).mono ?_
          rintro e w2 ⟨rfl, rfl⟩
          go_wp2_with fail
          have HBx := Lib.hid (BoxR.new w1 (nmB n.data.toList) c 89)
          have HO1 : Hid (Only (d :: ownB v) w (w1.alloc (.cells #[.string (nmB n.data.toList), .string c.s, .int .i64 c.p, .bool c.k] 89))) := Lib.hid (Only.of_below (below_alloc HB.out _))
          have HD2 := Lib.hid (HD1.out.low (below_alloc (Below.refl _ _) (.cells #[.string (nmB n.data.toList), .string c.s, .int .i64 c.p, .bool c.k] 89)))
          have hrd : w1.heap.size ≠ d := fun e => by have := HD1.out.lt; omega
          have hrw : Hid (w.heap.size ≤ w1.heap.size) := Lib.hid HB.out.size
          have hrs : Hid (w1.heap.size < (w1.alloc (.cells #[.string (nmB n.data.toList), .string c.s, .int .i64 c.p, .bool c.k] 89)).heap.size) := Lib.hid (by simp)
          generalize w1.alloc (.cells #[.string (nmB n.data.toList), .string c.s, .int .i64 c.p, .bool c.k] 89) = wq at HBx HO1 HD2 hrs ⊢
          generalize w1.heap.size = rb at HBx hrd hrw hrs ⊢
          have HF0 := Lib.hid HBx.out.2
          replace HBx := Lib.hid HBx.out.1
          clear HD1 c1 g0 g1 g2 g3 gf
          refine (HOut.out _ HD2.out).mono ?_
          rintro e w3 ⟨rfl, v3, hd3, ho3, hq3⟩
          have HD3 := Lib.hid hd3
          have HO3 := Lib.hid (HO1.out.join ho3 (fun i hi => Or.inl (by simp at hi; subst hi; simp)))
          have HB3 := Lib.hid (HBx.out.keep ho3 (by simpa using hrd))
          have HF3 := Lib.hid (fun i => (ho3.frozen (p := ⟨rb, i, none⟩) hrs.out (by simpa using hrd)).trans (HF0.out i))
          have HQ3 := Lib.hid (fun q hq => Nat.lt_of_lt_of_le hrs.out (hq3 q hq))
          clear hd3 ho3 hq3 HD2 HBx HF0
          go_wp2_with fail
          refine (HAm.out _ _ HD3.out).mono ?_
          rintro e w4 ⟨rfl, hb⟩
          replace HD3 := Lib.hid (HD3.out.low hb)
          replace HO3 := Lib.hid (HO3.out.join (Only.of_below (S := []) hb) (fun i hi => by simp at hi))
          have hbl : rb < w3.heap.size := cell_old HB3.out.c0
          have HF4 : Hid (∀ i, i < 4 → w4.frozen? ⟨rb, i, none⟩ = false) := Lib.hid (fun i hi => by rw [hb.frozen (p := ⟨rb, i, none⟩) hbl]; exact HF3.out i)
          clear hbl
          replace HB3 := Lib.hid (HB3.out.low hb)
          clear hb HF3
          obtain ⟨y0, y1, y2, y3⟩ := HB3.out
          have f0 := HF4.out 0 (by omega)
          have f3 := HF4.out 3 (by omega)
          go_wp2_with fail
          have HO5 : Hid (Only [rb] w4 ((w4.setCell ⟨rb, 0, none⟩ (.string m)).setCell ⟨rb, 3, none⟩ (.bool true))) := Lib.hid (((Only.refl _ _).setCell (Or.inl (by simp)) _).setCell (Or.inl (by simp)) _)
          have HD5 := Lib.hid (HD3.out.keep HO5.out (by simp; intro e; exact hrd e.symm) (fun q hq hm => by simp at hm; subst hm; have := HQ3.out q hq; omega))
          replace HO3 := Lib.hid (HO3.out.join HO5.out (fun i hi => Or.inr (by simp at hi; subst hi; exact hrw.out)))
          generalize (w4.setCell ⟨rb, 0, none⟩ (.string m)).setCell ⟨rb, 3, none⟩ (.bool true) = w6 at HD5 HO3 ⊢
          clear HO5 HD3 HB3 HF4
          refine (HIn.out _ _ HD5.out).mono ?_
          rintro e w7 ⟨rfl, v7, hd7, ho7, hq7⟩
          have HD7 := Lib.hid hd7
          have HQ7 := Lib.hid (fun q hq => Nat.le_trans HO3.out.size (hq7 q hq))
          replace HO3 := Lib.hid (HO3.out.join ho7 (fun i hi => Or.inl (by simp at hi; subst hi; simp)))
          clear hd7 ho7 hq7 HD5
          go_wp2_with fail
          go_ret
          exact ⟨rfl, v7, HD7.out, HO3.out, fun q hq => Or.inr (HQ7.out q hq)⟩
        | some y =>
          rw [hlk, Option.isSome_some] at HAm
          have HOut2 := Lib.hid (fun W v1 (h : DocAt W d v1 z L1) => rout_any h (by omega) hd1 m.data.toList (by rw [hlk]; rfl))
          have hd2 := delL_rising (n := m.data.toList) hd1
          have hl2 := len_delL m.data.toList L1
          have hnd : lookL m.data.toList (delL m.data.toList L1) = none := by rw [look_delL hd1, if_pos rfl]
          rw [← put_del hd1] at hL'
          generalize delL m.data.toList L1 = L2 at HOut2 hd2 hl2 hL' hnd
          generalize placeL m.data.toList L1 = k2 at HAm HOut2
          have HIn := Lib.hid (fun W v1 (h : DocAt W d v1 z L2) => rin_any h (by omega) hd2 m.data.toList ⟨c.s, c.p, true⟩ hnd)
          rw [nmB_of, hL'] at HIn
          clear H hs hg hl hkc hd1 hlm hlk hl1 hd2 hl2 hnd
          go_enter Tryz.func49, Tryz.ntmps49
          go_wp2_with fail
          refine (HAt.out _ HD.out).mono ?_
          rintro e w1 ⟨rfl, hb⟩
          have HB := Lib.hid hb
          have HD1 := Lib.hid (HD.out.low hb)
          clear hb
          obtain ⟨q, cap, hv, g0, g1, g2, g3, gf⟩ := HD1.out.rw.get HKC.out
          have c1 := HD1.out.c1
          rw [hv] at c1
          have HVv := Lib.hid hv
          clear hv
          go_wp2_with fail
          refine (HN.out _).mono ?_
          rintro e w2 ⟨rfl, rfl⟩
          go_wp2_with fail
          have HBx := Lib.hid (BoxR.new w1 (nmB n.data.toList) c 89)
          have HO1 : Hid (Only (d :: ownB v) w (w1.alloc (.cells #[.string (nmB n.data.toList), .string c.s, .int .i64 c.p, .bool c.k] 89))) := Lib.hid (Only.of_below (below_alloc HB.out _))
          have HD2 := Lib.hid (HD1.out.low (below_alloc (Below.refl _ _) (.cells #[.string (nmB n.data.toList), .string c.s, .int .i64 c.p, .bool c.k] 89)))
          have hrd : w1.heap.size ≠ d := fun e => by have := HD1.out.lt; omega
          have hrw : Hid (w.heap.size ≤ w1.heap.size) := Lib.hid HB.out.size
          have hrs : Hid (w1.heap.size < (w1.alloc (.cells #[.string (nmB n.data.toList), .string c.s, .int .i64 c.p, .bool c.k] 89)).heap.size) := Lib.hid (by simp)
          generalize w1.alloc (.cells #[.string (nmB n.data.toList), .string c.s, .int .i64 c.p, .bool c.k] 89) = wq at HBx HO1 HD2 hrs ⊢
          generalize w1.heap.size = rb at HBx hrd hrw hrs ⊢
          have HF0 := Lib.hid HBx.out.2
          replace HBx := Lib.hid HBx.out.1
          clear HD1 c1 g0 g1 g2 g3 gf
          refine (HOut.out _ HD2.out).mono ?_
          rintro e w3 ⟨rfl, v3, hd3, ho3, hq3⟩
          have HD3 := Lib.hid hd3
          have HO3 := Lib.hid (HO1.out.join ho3 (fun i hi => Or.inl (by simp at hi; subst hi; simp)))
          have HB3 := Lib.hid (HBx.out.keep ho3 (by simpa using hrd))
          have HF3 := Lib.hid (fun i => (ho3.frozen (p := ⟨rb, i, none⟩) hrs.out (by simpa using hrd)).trans (HF0.out i))
          have HQ3 := Lib.hid (fun q hq => Nat.lt_of_lt_of_le hrs.out (hq3 q hq))
          clear hd3 ho3 hq3 HD2 HBx HF0
          go_wp2_with fail
          refine (HAm.out _ _ HD3.out).mono ?_
          rintro e w4 ⟨rfl, hb⟩
          replace HD3 := Lib.hid (HD3.out.low hb)
          replace HO3 := Lib.hid (HO3.out.join (Only.of_below (S := []) hb) (fun i hi => by simp at hi))
          have hbl : rb < w3.heap.size := cell_old HB3.out.c0
          have HF4 : Hid (∀ i, i < 4 → w4.frozen? ⟨rb, i, none⟩ = false) := Lib.hid (fun i hi => by rw [hb.frozen (p := ⟨rb, i, none⟩) hbl]; exact HF3.out i)
          clear hbl
          replace HB3 := Lib.hid (HB3.out.low hb)
          clear hb HF3
          go_wp2_with fail
          refine (HOut2.out _ _ HD3.out).mono ?_
          rintro e w5 ⟨rfl, v5, hd5, ho5, hq5⟩
          have hrl : rb < w4.heap.size := cell_old HB3.out.c0
          replace HQ3 := Lib.hid (fun q hq => Nat.lt_of_lt_of_le hrl (hq5 q hq))
          replace HD3 := Lib.hid hd5
          replace HO3 := Lib.hid (HO3.out.join ho5 (fun i hi => Or.inl (by simp at hi; subst hi; simp)))
          replace HF4 : Hid (∀ i, i < 4 → w5.frozen? ⟨rb, i, none⟩ = false) := Lib.hid (fun i hi => (ho5.frozen (p := ⟨rb, i, none⟩) hrl (by simpa using hrd)).trans (HF4.out i hi))
          replace HB3 := Lib.hid (HB3.out.keep ho5 (by simpa using hrd))
          clear hd5 ho5 hq5 hrl
          obtain ⟨y0, y1, y2, y3⟩ := HB3.out
          have f0 := HF4.out 0 (by omega)
          have f3 := HF4.out 3 (by omega)
          go_wp2_with fail
          have HO5 : Hid (Only [rb] w5 ((w5.setCell ⟨rb, 0, none⟩ (.string m)).setCell ⟨rb, 3, none⟩ (.bool true))) := Lib.hid (((Only.refl _ _).setCell (Or.inl (by simp)) _).setCell (Or.inl (by simp)) _)
          have HD5 := Lib.hid (HD3.out.keep HO5.out (by simp; intro e; exact hrd e.symm) (fun q hq hm => by simp at hm; subst hm; have := HQ3.out q hq; omega))
          replace HO3 := Lib.hid (HO3.out.join HO5.out (fun i hi => Or.inr (by simp at hi; subst hi; exact hrw.out)))
          generalize (w5.setCell ⟨rb, 0, none⟩ (.string m)).setCell ⟨rb, 3, none⟩ (.bool true) = w6 at HD5 HO3 ⊢
          clear HO5 HD3 HB3 HF4
          refine (HIn.out _ _ HD5.out).mono ?_
          rintro e w7 ⟨rfl, v7, hd7, ho7, hq7⟩
          have HD7 := Lib.hid hd7
          have HQ7 := Lib.hid (fun q hq => Nat.le_trans HO3.out.size (hq7 q hq))
          replace HO3 := Lib.hid (HO3.out.join ho7 (fun i hi => Or.inl (by simp at hi; subst hi; simp)))
          clear hd7 ho7 hq7 HD5
          go_wp2_with fail
          go_ret
          exact ⟨rfl, v7, HD7.out, HO3.out, fun q hq => Or.inr (HQ7.out q hq)⟩
end Go.Proofs.YtjblbjamceloaaaGreatDoor

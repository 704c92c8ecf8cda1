/- A chest of the document's: a roll written. -/
import Derived.Test.YtjblbjamceloaaaGreatDoorVe
namespace Go.Proofs.YtjblbjamceloaaaGreatDoor
open Go.RowKit

set_option maxRecDepth 100000
theorem DocAt.field {w : World} {d q m cap : Nat} {z : Int} {L : List Rl} (H : DocAt w d (.slice (some ⟨q, 0, none⟩) m cap) z L) {i : Nat} {x y : Rl} (hi : L[i]? = some x) {j : Nat} (hj : j < 4) {u : Value} (e : rollC y = (rollC x).set j u) :
    DocAt (w.setCell ⟨q, i * 4 + j, none⟩ u) d (.slice (some ⟨q, 0, none⟩) m cap) z (L.set i y) := by
  have hq := H.nq
  rw [ownB_some] at hq
  have hne : d ≠ q := by simpa using hq
  obtain ⟨a', c', hv⟩ := H.rw.slice
  simp only [Value.slice.injEq] at hv
  obtain ⟨-, hm, -⟩ := hv
  subst hm
  refine ⟨?_, ?_, by rw [World.frozen?_setCell]; exact H.f1, H.rw.put hi hj e, H.nq⟩
  · rw [World.cell?_setCell_other _ _ _ _ (fun h => hne (by injection h with h1; exact h1.symm))]; exact H.c0
  · rw [World.cell?_setCell_other _ _ _ _ (fun h => hne (by injection h with h1; exact h1.symm))]; exact H.c1
/-- What an operation of the document's chest gives. -/
def DocR (w : World) (d : Nat) (v : Value) (er : Int) (z : Int) (L : List Rl) (e : Ending) (w' : World) : Prop := e = .returned (.int .i64 er) ∧ ∃ v', DocAt w' d v' z L ∧ Only (d :: ownB v) w w' ∧ ∀ q ∈ ownB v', q ∈ ownB v ∨ w.heap.size ≤ q
theorem DocR.same {w w' : World} {d : Nat} {v : Value} {er z : Int} {L : List Rl} (H : DocAt w d v z L) (hb : Below w.heap.size w w') : DocR w d v er z L (.returned (.int .i64 er)) w' := ⟨rfl, v, H.low hb, Only.of_below hb, fun q hq => Or.inl hq⟩
theorem atL_some {n : Nm} {L : List Rl} {c : Scr} (h : lookL n L = some c) : atL n L = c := by unfold atL; rw [h]; rfl
theorem atL_none {n : Nm} {L : List Rl} (h : lookL n L = none) : atL n L = zScr := by unfold atL; rw [h]; rfl
theorem put_get {n : Nm} {c : Scr} {L : List Rl} (hs : Rising L) (h : lookL n L = none) : (putL n c L)[placeL n L]? = some (n, c) ∧ ∀ c', (putL n c L).set (placeL n L) (n, c') = putL n c' L := by
  have hk := placeL_le n L
  have hl : (L.take (placeL n L)).length = placeL n L := by rw [List.length_take]; omega
  refine ⟨?_, fun c' => ?_⟩
  · rw [put_new hs h, List.getElem?_append_right (by omega), hl, Nat.sub_self]; rfl
  · rw [put_new hs h, put_new hs h, List.set_append_right _ _ (by omega), hl, Nat.sub_self]; rfl
set_option maxHeartbeats 6400000 in
theorem rwrite_any {w : World} {d : Nat} {v : Value} {z r : Int} {L : List Rl} (H : DocAt w d v z L) (hL : L.length < 800000) (hs : Rising L) (hk : OkL r L) (hz : r + sumL L = z) (n s : ByteArray) (hn : n.size ≤ 9223372036854775807) (hss : s.size ≤ 1048576) {er r' : Int} {L' : List Rl} (he : writeS r L n.data.toList s = (er, r', L')) :
    Calls Tryz.prog 46 #[.pointer (some ⟨d, 0, none⟩), .string n, .string s] w (DocR w d v er z L') := by
  have h0 := sumL_nonneg L
  obtain ⟨hr0, hrz, -⟩ := hk
  have HN := Lib.hid (rname_any n w hn)
  have HRm : Hid (∀ W, DocAt W d v z L → Calls Tryz.prog 51 #[.pointer (some ⟨d, 0, none⟩)] W fun e w' => e = .returned (.int .i64 r) ∧ W = w') := Lib.hid (fun W h => by
    have := rroom_any h (by omega) (by omega) (by omega)
    rw [show z - sumL L = r by omega] at this
    exact this)
  have HAt := Lib.hid (fun W (h : DocAt W d v z L) => rat_any h (by omega) hs n)
  have HD := Lib.hid H
  unfold writeS at he
  cases hg : goodN n.data.toList with
  | false =>
    rw [if_pos hg] at he
    simp only [Prod.mk.injEq] at he
    obtain ⟨rfl, -, rfl⟩ := he
    rw [hg] at HN
    clear H hs hg
    go_enter Tryz.func46, Tryz.ntmps46
    go_wp2_with fail
    refine HN.out.mono ?_
    rintro e w1 ⟨rfl, rfl⟩
    go_wp2_with fail
    go_ret
    exact DocR.same HD.out (Below.refl _ _)
  | true =>
    rw [if_neg (by rw [hg]; simp)] at he
    rw [hg] at HN
    by_cases hrs : r < s.size
    · rw [if_pos hrs] at he
      simp only [Prod.mk.injEq] at he
      obtain ⟨rfl, -, rfl⟩ := he
      have e1 : decide (r < (s.size : Int)) = true := decide_eq_true hrs
      clear H hs hg hz hr0 hrz
      go_enter Tryz.func46, Tryz.ntmps46
      go_wp2_with fail
      refine HN.out.mono ?_
      rintro e w1 ⟨rfl, rfl⟩
      go_wp2_with fail
      refine (HRm.out _ HD.out).mono ?_
      rintro e w1 ⟨rfl, rfl⟩
      go_wp2_with fail
      go_ret
      exact DocR.same HD.out (Below.refl _ _)
    · rw [if_neg hrs] at he
      simp only [Prod.mk.injEq] at he
      obtain ⟨rfl, -, hL'⟩ := he
      have e1 : decide (r < (s.size : Int)) = false := decide_eq_false hrs
      cases hl : lookL n.data.toList L with
      | some c =>
        rw [atL_some hl] at hL'
        have hkc := (look_place hs c).1 hl
        have hcs : c.s.size ≤ 1048576 := by
          have h1 := lenL_le n.data.toList L
          unfold lenL at h1; rw [hl] at h1
          simp only at h1; omega
        obtain ⟨C, hC⟩ : ∃ C, (⟨(c.s.data.toList ++ s.data.toList).toArray⟩ : ByteArray) = C := ⟨_, rfl⟩
        rw [hC, put_there hs (by rw [hl]; rfl)] at hL'
        have kc : ∀ w, (Op.stringOp .add c.s s).run Tryz.prog w = .ok (.string C) w := fun w => by rw [run_catS c.s s (by omega), hC]
        rw [hl, Option.isSome_some] at HAt
        have hkl := (List.getElem?_eq_some_iff.1 hkc).1
        generalize placeL n.data.toList L = k at HAt hkc hL' hkl
        have HL' := Lib.hid hL'
        have HKC := Lib.hid hkc
        clear H hs hg hz hr0 hrz hC hL' hl hkc
        go_enter Tryz.func46, Tryz.ntmps46
        go_wp2_with fail
        refine HN.out.mono ?_
        rintro e w1 ⟨rfl, rfl⟩
        go_wp2_with fail
        refine (HRm.out _ HD.out).mono ?_
        rintro e w1 ⟨rfl, rfl⟩
        go_wp2_with fail
        refine (HAt.out _ HD.out).mono ?_
        rintro e w2 ⟨rfl, hb⟩
        have HD2 := Lib.hid (HD.out.low hb)
        have HB := Lib.hid hb
        obtain ⟨q, cap, rfl, g0, g1, g2, g3, gf⟩ := HD2.out.rw.get HKC.out
        have c1 := HD2.out.c1
        have HF := Lib.hid (HD2.out.field HKC.out (j := 1) (by omega) (u := .string C) (y := (n.data.toList, ⟨C, c.p, c.k⟩)) rfl)
        clear hb
        go_wp2_with fail
        go_ret
        refine ⟨rfl, _, by rw [← HL'.out]; exact HF.out, (Only.of_below HB.out).setCell (Or.inl (by rw [ownB_some]; simp)) _, fun q hq => Or.inl hq⟩
      | none =>
        rw [atL_none hl] at hL'
        obtain ⟨hp1, hp2⟩ := put_get (c := zScr) hs hl
        have HIn := Lib.hid (fun W (h : DocAt W d v z L) => rin_any h (by omega) hs n.data.toList zScr hl)
        rw [nmB_of] at HIn
        obtain ⟨C, hC⟩ : ∃ C, (⟨(zScr.s.data.toList ++ s.data.toList).toArray⟩ : ByteArray) = C := ⟨_, rfl⟩
        rw [hC, ← hp2] at hL'
        have kc : ∀ w, (Op.stringOp .add ⟨#[]⟩ s).run Tryz.prog w = .ok (.string C) w := fun w => by
          have h9 : (zScr.s).size = 0 := rfl
          have := run_catS (P := Tryz.prog) zScr.s s (by rw [h9]; omega) w
          rw [hC] at this; exact this
        rw [hl, Option.isSome_none] at HAt
        have hlen : placeL n.data.toList L < (putL n.data.toList zScr L).length := (List.getElem?_eq_some_iff.1 hp1).1
        generalize placeL n.data.toList L = k at HAt hp1 hp2 hL' hlen
        generalize putL n.data.toList zScr L = L2 at HIn hp1 hL' hlen
        have HL' := Lib.hid hL'
        have HKC := Lib.hid hp1
        clear H hs hg hz hr0 hrz hC hL' hl hp1 hp2
        go_enter Tryz.func46, Tryz.ntmps46
        go_wp2_with fail
        refine HN.out.mono ?_
        rintro e w1 ⟨rfl, rfl⟩
        go_wp2_with fail
        refine (HRm.out _ HD.out).mono ?_
        rintro e w1 ⟨rfl, rfl⟩
        go_wp2_with fail
        refine (HAt.out _ HD.out).mono ?_
        rintro e w2 ⟨rfl, hb⟩
        have HD2 := Lib.hid (HD.out.low hb)
        have HB := Lib.hid hb
        clear hb
        go_wp2_with fail
        refine (HIn.out _ HD2.out).mono ?_
        rintro e w3 ⟨rfl, v3, hd3, ho3, hq3⟩
        have HD3 := Lib.hid hd3
        have HO := Lib.hid (only_far (S := [d]) HB.out ho3)
        have HQ := Lib.hid hq3
        obtain ⟨q, cap, rfl, g0, g1, g2, g3, gf⟩ := HD3.out.rw.get HKC.out
        have g1' : w3.cell? ⟨q, k * 4 + 1, none⟩ = some (.string ⟨#[]⟩) := g1
        have c1 := HD3.out.c1
        have HF := Lib.hid (HD3.out.field HKC.out (j := 1) (by omega) (u := .string C) (y := (n.data.toList, ⟨C, zScr.p, zScr.k⟩)) rfl)
        clear hd3 ho3 hq3 g1
        go_wp2_with fail
        go_ret
        have hq9 : w.heap.size ≤ q := Nat.le_trans HB.out.size (HQ.out q (by rw [ownB_some]; simp))
        exact ⟨rfl, _, by rw [← HL'.out]; exact HF.out, (((Only.refl (d :: ownB v) w).join HO.out (fun i hi => Or.inl (by simp at hi; subst hi; simp))).setCell (Or.inr hq9) _), fun q' hq' => Or.inr (by rw [ownB_some] at hq'; simp at hq'; subst hq'; exact hq9)⟩
end Go.Proofs.YtjblbjamceloaaaGreatDoor

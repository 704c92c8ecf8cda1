/- A roster's text: the walk. -/
import Derived.Test.YthiphdcbboapkaaGreatDoorH1
import Derived.Deep.CutBlock
import Derived.Deep.DeepCutAuto
namespace Go.Proofs.YthiphdcbboapkaaGreatDoor
open Go.RowKit

set_option maxRecDepth 100000
/-- A value in a box. -/
structure BoxV (w : World) (q : Nat) (va : Value) : Prop where
  c0 : w.cell? ⟨q, 0, none⟩ = some (.int .i64 3)
  c1 : w.cell? ⟨q, 1, none⟩ = some (.int .i64 0)
  c2 : w.cell? ⟨q, 2, none⟩ = some (.string ⟨#[]⟩)
  c3 : w.cell? ⟨q, 3, none⟩ = some va
  f3 : w.frozen? ⟨q, 3, none⟩ = false
theorem BoxV.low {w w' : World} {q : Nat} {va : Value} (h : BoxV w q va) (k : Below w.heap.size w w') : BoxV w' q va := ⟨cell_keep k h.c0, cell_keep k h.c1, cell_keep k h.c2, cell_keep k h.c3, frozen_keep k h.c3 h.f3⟩
theorem rown_two (w : World) (e nw : Int) : RowN (w.alloc (.cells #[.int .i64 1, .int .i64 e, .string ⟨#[]⟩, .slice none 0 0, .int .i64 1, .int .i64 nw, .string ⟨#[]⟩, .slice none 0 0] 102)) w.heap.size (.slice (some ⟨w.heap.size, 0, none⟩) 2 2) [e, nw] :=
  World.ownsRow_lit w _ 2 (Nat.le_refl _) (by decide) rfl
theorem boxv_new (w : World) (va : Value) (ty : TypeId) : BoxV (w.alloc (.cells #[.int .i64 3, .int .i64 0, .string ⟨#[]⟩, va] ty)) w.heap.size va := ⟨by simp, by simp, by simp, by simp, by simp [go_sem]⟩
/-- What the first lines leave. -/
def TxC (V wx : World) (e nw : Int) (u4 : Value) : Prop := ∃ (vb : Nat) (va : Value), u4 = .pointer (some ⟨vb, 0, none⟩) ∧ BoxV wx vb va ∧ RowN wx V.heap.size va [e, nw] ∧ V.heap.size ≤ vb ∧ Far va vb ∧ Below V.heap.size V wx
theorem far_ne {g o n c k : Nat} (h : k ≠ g) : Far (.slice (some ⟨g, o, none⟩) n c) k := fun e => h (by simpa [Value.ownBlock] using e)
theorem tx_A {V w2 : World} (h : Below V.heap.size V w2) (e nw : Int) (t : TypeId) :
    TxC V ((w2.alloc (.cells #[.int .i64 1, .int .i64 e, .string ⟨#[]⟩, .slice none 0 0, .int .i64 1, .int .i64 nw, .string ⟨#[]⟩, .slice none 0 0] 102)).alloc (.cells #[.int .i64 3, .int .i64 0, .string ⟨#[]⟩, .slice (some ⟨w2.heap.size, 0, none⟩) 2 2] t)) e nw (.pointer (some ⟨w2.heap.size + 1, 0, none⟩)) := by
  have hs := h.size
  refine ⟨_, .slice (some ⟨w2.heap.size, 0, none⟩) 2 2, rfl, ?_, ?_, by omega, far_ne (by omega), below_alloc (below_alloc h _) _⟩
  · have := boxv_new (w2.alloc (.cells #[.int .i64 1, .int .i64 e, .string ⟨#[]⟩, .slice none 0 0, .int .i64 1, .int .i64 nw, .string ⟨#[]⟩, .slice none 0 0] 102)) (.slice (some ⟨w2.heap.size, 0, none⟩) 2 2) t
    simpa using this
  · exact ownsRow_base ((rown_two w2 e nw).alloc _) hs
theorem tx_B {V w2 : World} (h : Below V.heap.size V w2) (e nw : Int) (t : TypeId) :
    TxC V ((w2.alloc (.cells #[.int .i64 3, .int .i64 0, .string ⟨#[]⟩, .slice (some ⟨w2.heap.size + 1, 0, none⟩) 2 2] t)).alloc (.cells #[.int .i64 1, .int .i64 e, .string ⟨#[]⟩, .slice none 0 0, .int .i64 1, .int .i64 nw, .string ⟨#[]⟩, .slice none 0 0] 102)) e nw (.pointer (some ⟨w2.heap.size, 0, none⟩)) := by
  have hs := h.size
  refine ⟨_, .slice (some ⟨w2.heap.size + 1, 0, none⟩) 2 2, rfl, ?_, ?_, by omega, far_ne (by omega), below_alloc (below_alloc h _) _⟩
  · exact (boxv_new w2 (.slice (some ⟨w2.heap.size + 1, 0, none⟩) 2 2) t).low (below_alloc (Below.refl _ _) _)
  · have := rown_two (w2.alloc (.cells #[.int .i64 3, .int .i64 0, .string ⟨#[]⟩, .slice (some ⟨w2.heap.size + 1, 0, none⟩) 2 2] t)) e nw
    simp only [World.size_alloc] at this
    exact ownsRow_base this (by omega)
theorem tx_C {V w2 : World} (h : Below V.heap.size V w2) (e nw : Int) {q : Nat} (hq : V.heap.size ≤ q) {u0 u1 u2 u3 : Value} (c0 : w2.cell? ⟨q, 0, none⟩ = some u0) (c1 : w2.cell? ⟨q, 1, none⟩ = some u1) (c2 : w2.cell? ⟨q, 2, none⟩ = some u2) (c3 : w2.cell? ⟨q, 3, none⟩ = some u3) (f3 : w2.frozen? ⟨q, 3, none⟩ = false) :
    TxC V (((((w2.setCell ⟨q, 0, none⟩ (.int .i64 3)).setCell ⟨q, 1, none⟩ (.int .i64 0)).setCell ⟨q, 2, none⟩ (.string ⟨#[]⟩)).setCell ⟨q, 3, none⟩ (.slice (some ⟨w2.heap.size, 0, none⟩) 2 2)).alloc (.cells #[.int .i64 1, .int .i64 e, .string ⟨#[]⟩, .slice none 0 0, .int .i64 1, .int .i64 nw, .string ⟨#[]⟩, .slice none 0 0] 102)) e nw (.pointer (some ⟨q, 0, none⟩)) := by
  have hs := h.size
  have hql : q < w2.heap.size := cell_old c0
  have hb4 : Below V.heap.size V ((((w2.setCell ⟨q, 0, none⟩ (.int .i64 3)).setCell ⟨q, 1, none⟩ (.int .i64 0)).setCell ⟨q, 2, none⟩ (.string ⟨#[]⟩)).setCell ⟨q, 3, none⟩ (.slice (some ⟨w2.heap.size, 0, none⟩) 2 2)) := below_set4 h hq _ _ _ _
  refine ⟨_, .slice (some ⟨w2.heap.size, 0, none⟩) 2 2, rfl, BoxV.low ?_ (below_alloc (Below.refl _ _) _), ?_, hq, far_ne (by omega), below_alloc hb4 _⟩
  · refine ⟨?_, ?_, ?_, ?_, ?_⟩
    · rw [World.cell?_setCell_other _ _ _ _ (by simp), World.cell?_setCell_other _ _ _ _ (by simp), World.cell?_setCell_other _ _ _ _ (by simp)]; exact World.cell?_setCell_same _ _ _ c0
    · rw [World.cell?_setCell_other _ _ _ _ (by simp), World.cell?_setCell_other _ _ _ _ (by simp)]; exact World.cell?_setCell_same _ _ _ (by rw [World.cell?_setCell_other _ _ _ _ (by simp)]; exact c1)
    · rw [World.cell?_setCell_other _ _ _ _ (by simp)]; exact World.cell?_setCell_same _ _ _ (by rw [World.cell?_setCell_other _ _ _ _ (by simp), World.cell?_setCell_other _ _ _ _ (by simp)]; exact c2)
    · exact World.cell?_setCell_same _ _ _ (by rw [World.cell?_setCell_other _ _ _ _ (by simp), World.cell?_setCell_other _ _ _ _ (by simp), World.cell?_setCell_other _ _ _ _ (by simp)]; exact c3)
    · rw [World.frozen?_setCell, World.frozen?_setCell, World.frozen?_setCell, World.frozen?_setCell]; exact f3
  · have := rown_two ((((w2.setCell ⟨q, 0, none⟩ (.int .i64 3)).setCell ⟨q, 1, none⟩ (.int .i64 0)).setCell ⟨q, 2, none⟩ (.string ⟨#[]⟩)).setCell ⟨q, 3, none⟩ (.slice (some ⟨w2.heap.size, 0, none⟩) 2 2)) e nw
    simp only [World.size_setCell] at this
    exact ownsRow_base this hs
theorem tx_of {V W : World} {rb : Nat} {e nw : Int} (y0 : V.cell? ⟨rb, 0, none⟩ = some (.int .i64 e)) (y2 : V.cell? ⟨rb, 2, none⟩ = some (.int .i64 nw)) (h : Below V.heap.size V W) : W.cell? ⟨rb, 0, none⟩ = some (.int .i64 e) ∧ W.cell? ⟨rb, 2, none⟩ = some (.int .i64 nw) ∧ Below V.heap.size V W := ⟨cell_keep h y0, cell_keep h y2, h⟩
theorem tx_from {V W : World} {rb : Nat} {e nw : Int} (h : W.cell? ⟨rb, 0, none⟩ = some (.int .i64 e) ∧ W.cell? ⟨rb, 2, none⟩ = some (.int .i64 nw) ∧ Below V.heap.size V W) : Below V.heap.size V W := h.2.2
def SvS (V : World) (vb : Nat) (va : Value) (W : World) : Prop := W.cell? ⟨vb, 3, none⟩ = some va ∧ W.frozen? ⟨vb, 3, none⟩ = false ∧ Below V.heap.size V W
theorem SvS.low {V W W' : World} {vb : Nat} {va : Value} (h : SvS V vb va W) (k : Below W.heap.size W W') : SvS V vb va W' := ⟨cell_keep k h.1, frozen_keep k h.1 h.2.1, below_on h.2.2 k⟩
theorem SvS.alloc {V W : World} {vb : Nat} {va : Value} (h : SvS V vb va W) (o : Obj) : SvS V vb va (W.alloc o) := h.low (below_alloc (Below.refl _ _) _)
theorem SvS.grew {V W W' : World} {vb : Nat} {va v v' : Value} (h : SvS V vb va W) (hf : Far v vb) (G : Grew V.heap.size W W' v v') : SvS V vb va W' :=
  ⟨(G.2.1 vb 3 (cell_old h.1) hf).trans h.1, (G.2.2.1 vb 3 (cell_old h.1) hf).trans h.2.1, h.2.2.trans G.1⟩
theorem BoxV.drew {w : World} {q : Nat} {va : Value} (h : BoxV w q va) : BoxV w.drew q va := ⟨h.c0, h.c1, h.c2, h.c3, h.f3⟩
theorem BoxV.grew {B : Nat} {w w' : World} {q : Nat} {va v v' : Value} (h : BoxV w q va) (hf : Far v q) (G : Grew B w w' v v') : BoxV w' q va :=
  have hl := cell_old h.c0
  ⟨(G.2.1 q 0 hl hf).trans h.c0, (G.2.1 q 1 hl hf).trans h.c1, (G.2.1 q 2 hl hf).trans h.c2, (G.2.1 q 3 hl hf).trans h.c3, (G.2.2.1 q 3 hl hf).trans h.f3⟩
theorem BoxV.set3 {w : World} {q : Nat} {va : Value} (h : BoxV w q va) (v : Value) : BoxV (w.setCell ⟨q, 3, none⟩ v) q v :=
  ⟨by rw [World.cell?_setCell_other _ _ _ _ (by simp)]; exact h.c0, by rw [World.cell?_setCell_other _ _ _ _ (by simp)]; exact h.c1, by rw [World.cell?_setCell_other _ _ _ _ (by simp)]; exact h.c2, World.cell?_setCell_same _ _ _ h.c3, by rw [World.frozen?_setCell]; exact h.f3⟩
theorem SvS.drew {V W : World} {vb : Nat} {va : Value} (h : SvS V vb va W) : SvS V vb va W.drew := ⟨h.1, h.2.1, h.2.2.drew⟩
theorem cellD_eq {w : World} {p : Addr} {v : Value} (h : w.cell? p = some v) : cellD w p = v := by unfold cellD; rw [h]; rfl
theorem SvS.cd {V W : World} {vb : Nat} {va : Value} (h : SvS V vb va W) : W.cell? ⟨vb, 3, none⟩ = some (cellD W ⟨vb, 3, none⟩) ∧ W.frozen? ⟨vb, 3, none⟩ = false ∧ Below V.heap.size V W := ⟨by rw [cellD_eq h.1]; exact h.1, h.2⟩
theorem RowN.drew {w : World} {B : Nat} {v : Value} {L : List Int} (h : RowN w B v L) : RowN w.drew B v L := h
theorem RowN.low {w w' : World} {B : Nat} {v : Value} {L : List Int} (h : RowN w B v L) (k : Below w.heap.size w w') : RowN w' B v L := ownsRow_below h k
set_option maxHeartbeats 6400000 in
theorem chtext_any (e nw : Int) (a : Option Addr) (c : Nat) (zs : List Int) (w : World) (hok : RosOk e nw zs) (hz : IntsAt w a zs) (L : Laid w) :
    Calls Tryz.prog 57 #[.agg #[.int .i64 e, .slice a zs.length c, .int .i64 nw]] w fun e' w' => e' = .returned (.string (rosT e nw zs)) ∧ Below w.heap.size w w' := by
  have HL := Lib.hid L
  have HZ := Lib.hid hz
  obtain ⟨y0, y1, y2, -⟩ := new3 w (.int .i64 e) (.slice a zs.length c) (.int .i64 nw) 24
  have HB : Hid (Below w.heap.size w (w.alloc (.cells #[.int .i64 e, .slice a zs.length c, .int .i64 nw] 24))) := Lib.hid (below_alloc (Below.refl _ _) _)
  clear hz L
  go_enter Tryz.func57, Tryz.ntmps57
  go_upto_region 2 with fail
  generalize w.alloc (.cells #[.int .i64 e, .slice a zs.length c, .int .i64 nw] 24) = V at HB y0 y1 y2 ⊢
  generalize w.heap.size = rb at y0 y1 y2 ⊢
  go_cut [4] (fun u4 wx => TxC V wx e nw u4)
  case first =>
    go_region_held3 (fun W => W.cell? ⟨rb, 0, none⟩ = some (.int .i64 e) ∧ W.cell? ⟨rb, 2, none⟩ = some (.int .i64 nw) ∧ Below V.heap.size V W)
      (first | exact tx_of y0 y2 (Below.refl _ _) | exact tx_of y0 y2 (Below.refl _ _).drew | exact tx_of y0 y2 HW.out | exact tx_of y0 y2 (below_alloc HW.out _) | exact tx_of y0 y2 (below_alloc (below_alloc HW.out _) _) | exact tx_of y0 y2 (below_alloc (Below.refl _ _) _) | exact tx_of y0 y2 (below_alloc (Below.refl _ _).drew _) | (have hs := (‹_ ∧ _ ∧ Below _ _ _›).2.2; first | exact tx_of y0 y2 (below_alloc hs _) | exact tx_of y0 y2 (below_alloc (below_set4 HW.out (by first | exact Nat.le_refl _ | assumption | omega) _ _ _ _) _) | exact tx_of y0 y2 (below_set4 hs (by first | exact Nat.le_refl _ | assumption | omega) _ _ _ _)))
      (first
        | (go_at_call 82; have hold := HW.out.size; refine (num_any _ _).mono ?_; rintro e' w2 ⟨rfl, hb⟩; have HWp := Lib.hid (‹_ ∧ _ ∧ Below V.heap.size V _›).2.2; have HW := Lib.hid (below_on HWp.out hb); obtain ⟨hc2, hf2⟩ := bcell hb; have hz2 := hb.size; (try simp only [World.size_alloc] at hz2); (try have hn2 : ¬ (V.heap.size = w2.heap.size) := by omega); (try have hl2 : V.heap.size < w2.heap.size := by omega); (try have hn3 : ¬ (w1.heap.size = w2.heap.size) := by omega); (try have hl3 : w1.heap.size < w2.heap.size := by omega); clear hb)
        | (go_at_call 82; refine (num_any _ _).mono ?_; rintro e' w1 ⟨rfl, hb⟩; have HWp := Lib.hid (‹_ ∧ _ ∧ Below V.heap.size V _›).2.2; have HW := Lib.hid (below_on HWp.out hb); obtain ⟨hc, hf⟩ := bcell hb; have hz1 := hb.size; (try simp only [World.size_alloc, World.size_drew] at hz1); (try have hn1 : ¬ (V.heap.size = w1.heap.size) := by omega); (try have hl1 : V.heap.size < w1.heap.size := by omega); clear hb))
    all_goals
      go_wp2_with fail
      go_meet
      first
        | exact tx_A HW.out e nw _
        | exact tx_B HW.out e nw _
        | exact tx_C HW.out e nw (by omega) (u0 := .int .i64 0) (u1 := .int .i64 0) (u2 := .string ⟨#[]⟩) (u3 := .slice none 0 0) ((hc2 _ _ (by simp)).trans (by simp)) ((hc2 _ _ (by simp)).trans (by simp)) ((hc2 _ _ (by simp)).trans (by simp)) ((hc2 _ _ (by simp)).trans (by simp)) ((hf2 _ _ (by simp)).trans (by simp [go_sem]))
        | exact tx_C HW.out e nw (by omega) (u0 := .int .i64 0) (u1 := .int .i64 0) (u2 := .string ⟨#[]⟩) (u3 := .slice none 0 0) ((hc2 _ _ hl1).trans ((hc _ _ (by simp)).trans (by simp))) ((hc2 _ _ hl1).trans ((hc _ _ (by simp)).trans (by simp))) ((hc2 _ _ hl1).trans ((hc _ _ (by simp)).trans (by simp))) ((hc2 _ _ hl1).trans ((hc _ _ (by simp)).trans (by simp))) ((hf2 _ _ hl1).trans ((hf _ _ (by simp)).trans (by simp [go_sem])))
        | (trace_state; fail)
  case rest =>
    obtain ⟨vb, va, rfl, hv, hr, hvb, hfar, hbw⟩ := hcut
    have y1' := cell_keep hbw y1
    have HZV := Lib.hid (HZ.out.keep HB.out)
    have HV := Lib.hid hv
    have HR := Lib.hid hr
    have HF := Lib.hid hfar
    have HW := Lib.hid hbw
    have hl := hok.1
    have HOK := Lib.hid hok
    clear hv hr hfar HZ hok y0 y1 y2
    go_wp2_with fail
    go_loopw [20] (fun u20 wr => ∃ (k : Nat) (va : Value), u20 = .int .i64 (k : Int) ∧ k ≤ zs.length ∧ BoxV wr vb va ∧ RowN wr V.heap.size va (e :: nw :: zs.take k) ∧ Far va vb ∧ Below V.heap.size V wr) (fun u20 _ => zs.length - (intOf u20).toNat)
    case atStart => exact ⟨0, va, rfl, Nat.zero_le _, HV.out, HR.out, HF.out, HW.out⟩
    case round =>
      obtain ⟨k, va', rfl, hk, hv, hr, hfar, hbw⟩ := hrel
      have hzr := HZV.out.keep hbw
      have HV1 := Lib.hid hv
      have HR1 := Lib.hid hr
      have HF1 := Lib.hid hfar
      have HW1 := Lib.hid hbw
      clear HV HR HF HW
      by_cases hlt : k < zs.length
      · obtain ⟨b, off, rfl, hbl, hcells⟩ := hzr.form (by omega)
        have hcell := hcells k hlt
        have hc3 := hv.c3
        have hf3 := hv.f3
        have hvl : vb < wr.heap.size := cell_old hc3
        clear hcells hzr hv hr hfar hbw
        have hlt' : decide ((k : Int) < (zs.length : Int)) = true := by simp; omega
        go_upto_region 6 with fail
        go_region_law (first
            | (refine step_append_far (by rfl) _ _ 100 (by rfl) V.heap.size 102 _ 4 56 tyVals va' (e :: nw :: zs.take k).length (numsC (e :: nw :: zs.take k)) (by rfl) (HR2.out.alloc _) _ 1 1 (numC (nthI zs k)) (by rfl) (by rfl) (rowAt_new4 _ _ _ _ _ _ _ rfl) (by simp [Value.oneCell', numC]) (by simp; unfold maxLen; omega) (by simp; omega) (by have := HW1.out.size; simp; omega) ?_
               intro v' w' own' G
               obtain ⟨a5, c5, rfl, _⟩ := ownsRow_row own'
               have HG := Lib.hid (SvS.grew (SvS.alloc HS2.out _) HF1.out G)
               have HO := Lib.hid own'
               have HV3 := Lib.hid ((HV2.out.low (below_alloc (Below.refl _ _) _)).grew HF1.out G)
               have HF2 := Lib.hid (G.2.2.2.1 vb (by simp; omega) HF1.out)
               obtain ⟨g1, g2, -⟩ := HG.out
               clear own' G)
            | (go_simp; refine (num_any _ _).mono ?_; rintro e' w2 ⟨rfl, hb⟩; have HS2 := Lib.hid ((SvS.drew (V := V) ⟨hc3, hf3, HW1.out⟩).low hb); have HR2 := Lib.hid (RowN.low (RowN.drew HR1.out) hb); have HV2 := Lib.hid (BoxV.low (BoxV.drew HV1.out) hb); have hz2 := hb.size; (try simp only [World.size_drew] at hz2); obtain ⟨k1, k2, -⟩ := HS2.out; have k3 : ¬ (vb = w2.heap.size) := Nat.ne_of_lt (cell_old k1); have k4 := fun o => cell_keep (below_alloc (Below.refl w2.heap.size w2) o) k1; clear hb))
        all_goals
          go_wp2_with fail
          go_roundw
          case rel =>
            have e0 : (e :: nw :: zs.take k).length = k + 1 + 1 := by simp; omega
            refine ⟨k + 1, _, by go_num, by omega, HV3.out.set3 _, ?_, by have := HF2.out; rwa [e0] at this, HG.out.2.2.setCell (p := ⟨vb, 3, none⟩) hvb _⟩
            have ho := own_set_far HO.out HF2.out 3 (.slice a5 (k + 1 + 1 + 1) c5)
            have e1 : (e :: nw :: zs.take (k + 1)) = (e :: nw :: zs.take k) ++ [nthI zs k] := by rw [take_snocI zs k hlt]; rfl
            unfold RowN
            rw [e1, numsC_append, List.length_append]
            have e2 : numsC [nthI zs k] = numC (nthI zs k) := by simp [numsC]
            rw [e2, e0]
            rw [e0] at ho
            exact ho
          case measure => simp [intOf]; omega
      · have hkl : k = zs.length := by omega
        subst hkl
        have hlt' : decide ((zs.length : Int) < (zs.length : Int)) = false := by simp
        rw [List.take_length] at hr HR1
        obtain ⟨c0, c1, c2, c3, -⟩ := hv
        obtain ⟨a9, c9, rfl, -⟩ := ownsRow_row hr
        clear hr hfar hbw hzr
        go_wp2_with (go_at_call 77; refine (Put_pv (RowN.pat HR1.out (by simp; omega) HOK.out.2) ((HL.out.1.keep HB.out).keep HW1.out) (fun _ => by have := (rosP_put HOK.out).2.2; have := HOK.out.1; unfold rosP at *; omega)).mono ?_; rintro e' w' ⟨rfl, hb⟩; have HE := Lib.hid (below_on (below_on HB.out HW1.out) hb); clear hb)
        go_ret
        exact ⟨rfl, HE.out⟩
end Go.Proofs.YthiphdcbboapkaaGreatDoor

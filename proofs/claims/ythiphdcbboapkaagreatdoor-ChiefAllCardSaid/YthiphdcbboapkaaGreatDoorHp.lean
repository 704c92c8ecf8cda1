/- Walks of chief.Step: one that has learnt; what is left. -/
import Derived.Test.YthiphdcbboapkaaGreatDoorH4
namespace Go.Proofs.YthiphdcbboapkaaGreatDoor
open Go.RowKit Go.Maps

set_option maxRecDepth 100000
set_option maxHeartbeats 6400000 in
theorem step_full {w0 w : World} (LA : Laid w0) {x : Nat} {S : St} {f : Ft} (H : CH w0 w x S f) (hm : mayB S.e S.zs S.nw = true) (hk : S.k ≤ 300) (W : Wd) (h0 : W.tt = 0) (h1 : 1 ≤ W.fr) (h2 : W.fr ≤ 5) (h3 : W.kind = 11) (h4 : W.fr = S.nw) (h5 : W.ep = S.e) (h6 : ¬ 0 < S.e2) (now : Int) :
    Calls Tryz.prog 18 #[.pointer (some ⟨x, 0, none⟩), wordV W, .int .i64 now] w fun e' w' => e' = .returned (.slice none 0 0) ∧ ∃ f', PostF w0 w x f (setR S S.e S.zs 0) f' w' ∧ f'.g = f.g := by
  have HG := Lib.hid (Beg.new H W 46)
  unfold wordC at HG
  have q1 : (W.tt != 0) = false := by simp [h0]
  have q2 : decide (W.fr < 1) = false := by simp; omega
  have q3 : decide (5 < W.fr) = false := by simp; omega
  have q4 : (W.kind == 1) = false := by simp [h3]
  have q5 : (W.kind == 11) = true := by simp [h3]
  have q6 : (W.fr == S.nw) = true := by simp [h4]
  have q7 : (W.ep == S.e) = true := by simp [h5]
  have q8 : Hid (decide (0 < S.e2) = false) := Lib.hid (by simp; omega)
  have HM := Lib.hid (learn_turn hm)
  have HL := Lib.hid LA
  have HK := Lib.hid hk
  have HNF : Hid (∀ i ∈ foot x f, ¬ (i = w.heap.size)) := Lib.hid (fun i hi e => by have := H.lt i hi; omega)
  clear H h0 h1 h2 h3 h4 h5 h6 hm LA hk
  go_enter Tryz.func18, Tryz.ntmps18
  go_upto_region 1 with fail
  generalize w.alloc _ = V at HG ⊢
  generalize w.heap.size = rb at HG HNF ⊢
  obtain ⟨k0, k1, k2, k3⟩ := HG.out.wa
  have d1 : V.cell? ⟨x, 1, none⟩ = some (.int .i64 S.e) := HG.out.ch.at'.d1
  have d2 : V.cell? ⟨x, 2, none⟩ = some (.slice f.a S.zs.length f.c) := HG.out.ch.at'.d2
  have d3 : V.cell? ⟨x, 3, none⟩ = some (.int .i64 S.nw) := HG.out.ch.at'.d3
  go_wp2_with (go_at_call 39; refine (off_ch HG.out.ch).mono ?_; rintro e' w' ⟨rfl, rfl⟩)
  go_quiet (fail)
  go_wp2_with fail
  have HRd : Hid (∀ n, Rd w0 V x S f rb W (V.drewN n).drew) := Lib.hid (fun n => by
    have hb : Below V.heap.size V (V.drewN n).drew := Below.drew (below_drewN (Below.refl _ _) _)
    exact ⟨cell_keep hb d1, cell_keep hb d2, cell_keep hb d3, cell_keep hb k0, cell_keep hb k1, cell_keep hb k3, HG.out.ch.low hb, hb⟩)
  go_region_held3 (fun U => U.cell? ⟨x, 1, none⟩ = some (.int .i64 S.e) ∧ U.cell? ⟨x, 2, none⟩ = some (.slice f.a S.zs.length f.c) ∧ U.cell? ⟨x, 3, none⟩ = some (.int .i64 S.nw) ∧ U.cell? ⟨rb, 0, none⟩ = some (.int .i64 W.kind) ∧ U.cell? ⟨rb, 1, none⟩ = some (.int .i64 W.fr) ∧ U.cell? ⟨rb, 3, none⟩ = some (.int .i64 W.ep) ∧ CH w0 U x S f ∧ Below V.heap.size V U)
    (first | exact HRd.out _ | exact ‹_ ∧ _ ∧ _ ∧ _ ∧ _ ∧ _ ∧ CH _ _ _ _ _ ∧ Below _ _ _›)
    (first | (go_at_call 25; have s := (‹_ ∧ _ ∧ _ ∧ _ ∧ _ ∧ _ ∧ CH _ _ _ _ _ ∧ Below _ _ _›).2.2.2.2.2.2.1; refine (changing_ch s).mono ?_; rw [q8.out]; rintro e' w2 ⟨rfl, rfl⟩; clear s))
  all_goals
    have HR' : Hid (Rd w0 V x S f rb W (V.drewN (nq + 1))) := Lib.hid (by
      have hb : Below V.heap.size V (V.drewN (nq + 1)) := below_drewN (Below.refl _ _) _
      exact ⟨cell_keep hb d1, cell_keep hb d2, cell_keep hb d3, cell_keep hb k0, cell_keep hb k1, cell_keep hb k3, HG.out.ch.low hb, hb⟩)
    clear k0 k1 k2 k3 d1 d2 d3 HRd
    generalize V.drewN (nq + 1) = V' at HR' ⊢
    obtain ⟨d1, d2, d3, -⟩ := HR'.out
    have hb2 : Below V'.heap.size V' (V'.alloc (.cells #[.int .i64 S.e, .slice f.a S.zs.length f.c, .int .i64 0] 24)) := below_alloc (Below.refl _ _) _
    have HC2 := Lib.hid (HR'.out.ch.low hb2)
    have HP2 := Lib.hid (HG.out.post (below_on HR'.out.bl hb2))
    clear hb2
    go_wp2_with fail
    refine (lasts_any HL.out HC2.out HK.out HM.out HC2.out.at'.rz HC2.out.da).mono ?_
    rintro e' w4 ⟨rfl, f4, hp, hg⟩
    have HP4 := Lib.hid (HP2.out.trans hp)
    have HG4 := Lib.hid hg
    clear hp hg
    go_wp2_with fail
    go_ret
    exact ⟨rfl, f4, HP4.out, HG4.out⟩
/-- What is left: no beat, no full one. -/
def idle (S : St) (W : Wd) : Prop := W.kind ≠ 1 ∧ ¬ (W.kind = 11 ∧ W.fr = S.nw ∧ W.ep = S.e ∧ ¬ 0 < S.e2)
set_option maxHeartbeats 6400000 in
theorem step_idle {w0 w : World} {x : Nat} {S : St} {f : Ft} (H : CH w0 w x S f) (W : Wd) (h0 : W.tt = 0) (h1 : 1 ≤ W.fr) (h2 : W.fr ≤ 5) (h3 : idle S W) (now : Int) :
    Calls Tryz.prog 18 #[.pointer (some ⟨x, 0, none⟩), wordV W, .int .i64 now] w fun e' w' => e' = .returned (.slice none 0 0) ∧ Below w.heap.size w w' := by
  have HG := Lib.hid (Beg.new H W 46)
  unfold wordC at HG
  have q1 : (W.tt != 0) = false := by simp [h0]
  have q2 : decide (W.fr < 1) = false := by simp; omega
  have q3 : decide (5 < W.fr) = false := by simp; omega
  have q4 : (W.kind == 1) = false := by simpa using h3.1
  have hc : (W.kind == 11) = false ∨ ((W.kind == 11) = true ∧ (W.fr == S.nw) = false) ∨ ((W.kind == 11) = true ∧ (W.fr == S.nw) = true ∧ (W.ep == S.e) = false) ∨ ((W.kind == 11) = true ∧ (W.fr == S.nw) = true ∧ (W.ep == S.e) = true ∧ decide (0 < S.e2) = true) := by
    by_cases a1 : W.kind = 11
    · by_cases a2 : W.fr = S.nw
      · by_cases a3 : W.ep = S.e
        · by_cases a4 : 0 < S.e2
          · exact Or.inr (Or.inr (Or.inr ⟨by simp [a1], by simp [a2], by simp [a3], by simp [a4]⟩))
          · exact absurd ⟨a1, a2, a3, a4⟩ h3.2
        · exact Or.inr (Or.inr (Or.inl ⟨by simp [a1], by simp [a2], by simp [a3]⟩))
      · exact Or.inr (Or.inl ⟨by simp [a1], by simp [a2]⟩)
    · exact Or.inl (by simp [a1])
  clear H h0 h1 h2 h3
  rcases hc with q5 | ⟨q5, q6⟩ | ⟨q5, q6, q7⟩ | ⟨q5, q6, q7, q8⟩
  all_goals
    go_enter Tryz.func18, Tryz.ntmps18
    go_upto_region 1 with fail
    generalize w.alloc _ = V at HG ⊢
    generalize w.heap.size = rb at HG ⊢
    obtain ⟨k0, k1, k2, k3⟩ := HG.out.wa
    have d1 : V.cell? ⟨x, 1, none⟩ = some (.int .i64 S.e) := HG.out.ch.at'.d1
    have d2 : V.cell? ⟨x, 2, none⟩ = some (.slice f.a S.zs.length f.c) := HG.out.ch.at'.d2
    have d3 : V.cell? ⟨x, 3, none⟩ = some (.int .i64 S.nw) := HG.out.ch.at'.d3
    go_wp2_with (go_at_call 39; refine (off_ch HG.out.ch).mono ?_; rintro e' w' ⟨rfl, rfl⟩)
    go_quiet (fail)
    go_wp2_with fail
    have HRd : Hid (∀ n, Rd w0 V x S f rb W (V.drewN n).drew) := Lib.hid (fun n => by
      have hb : Below V.heap.size V (V.drewN n).drew := Below.drew (below_drewN (Below.refl _ _) _)
      exact ⟨cell_keep hb d1, cell_keep hb d2, cell_keep hb d3, cell_keep hb k0, cell_keep hb k1, cell_keep hb k3, HG.out.ch.low hb, hb⟩)
  · go_quiet (fail)
    go_wp2_with fail
    go_ret
    exact ⟨rfl, below_on HG.out.bl (below_drewN (below_drewN (Below.refl _ _) _) _)⟩
  · go_quiet (fail)
    go_wp2_with fail
    go_ret
    exact ⟨rfl, below_on HG.out.bl (below_drewN (below_drewN (Below.refl _ _) _) _)⟩
  · go_quiet (fail)
    go_wp2_with fail
    go_ret
    exact ⟨rfl, below_on HG.out.bl (below_drewN (below_drewN (Below.refl _ _) _) _)⟩
  · go_region_held3 (fun U => U.cell? ⟨x, 1, none⟩ = some (.int .i64 S.e) ∧ U.cell? ⟨x, 2, none⟩ = some (.slice f.a S.zs.length f.c) ∧ U.cell? ⟨x, 3, none⟩ = some (.int .i64 S.nw) ∧ U.cell? ⟨rb, 0, none⟩ = some (.int .i64 W.kind) ∧ U.cell? ⟨rb, 1, none⟩ = some (.int .i64 W.fr) ∧ U.cell? ⟨rb, 3, none⟩ = some (.int .i64 W.ep) ∧ CH w0 U x S f ∧ Below V.heap.size V U)
      (first | exact HRd.out _ | exact ‹_ ∧ _ ∧ _ ∧ _ ∧ _ ∧ _ ∧ CH _ _ _ _ _ ∧ Below _ _ _›)
      (first | (go_at_call 25; have s := (‹_ ∧ _ ∧ _ ∧ _ ∧ _ ∧ _ ∧ CH _ _ _ _ _ ∧ Below _ _ _›).2.2.2.2.2.2.1; refine (changing_ch s).mono ?_; rw [q8]; rintro e' w2 ⟨rfl, rfl⟩; clear s))
    all_goals
      go_wp2_with fail
      go_ret
      exact ⟨rfl, below_on HG.out.bl (below_drewN (Below.refl _ _) _)⟩
/-- What a granted lease is in memory, or nothing. -/
def Told (_w0 w w' : World) (x : Nat) (S : St) (f' : Ft) (W : Wd) (now : Int) (v : Value) : Prop :=
  (leaseB S W.kind W.fr W.tt = false ∧ v = .slice none 0 0) ∨
  (leaseB S W.kind W.fr W.tt = true ∧ ∃ q a c, v = .slice (some ⟨q, 0, none⟩) 1 1 ∧ LeaseAt w' q W.fr S.e S.zs S.nw (now + 6) a c ∧ w.heap.size ≤ q ∧ OwnI w' w.heap.size (.slice a S.zs.length c) S.zs ∧ ∀ i ∈ foot x f', i < w.heap.size)
/-- Step, whatever the word. -/
theorem step_any {w0 w : World} (LA : Laid w0) {x : Nat} {S : St} {f : Ft} {T : Int} (H : CH w0 w x S f) (hok : OkS S T) (hT : T ≤ 4611686018427387000) (hk : S.k ≤ 300) (hm : S.m ≤ 100000) (W : Wd) {now : Int} (hn : 0 ≤ now ∧ now ≤ T) :
    Calls Tryz.prog 18 #[.pointer (some ⟨x, 0, none⟩), wordV W, .int .i64 now] w fun e' w' => ∃ v f', e' = .returned v ∧ PostF w0 w x f (stepS S W.kind W.fr W.tt W.ep now) f' w' ∧ f'.g = f.g ∧ Told w0 w w' x S f' W now v := by
  have hl5 := (mayB_mayL hok.may).2.2
  by_cases h1 : W.tt ≠ 0 ∨ W.fr < 1 ∨ 5 < W.fr
  · refine (step_no H W h1 now).mono ?_
    rintro e' w' ⟨rfl, hb⟩
    refine ⟨_, f, rfl, ?_, rfl, Or.inl ⟨?_, rfl⟩⟩
    · unfold stepS; rw [if_pos h1]; exact (PostF.refl H).low hb
    · unfold leaseB; simp; omega
  have h2 : W.tt = 0 := by omega
  have h3 : 1 ≤ W.fr := by omega
  have h4 : W.fr ≤ 5 := by omega
  by_cases h5 : W.kind = 1
  · by_cases h6 : idx S.zs W.fr < 0
    · refine (step_ask H hl5 W h2 h3 h4 h5 h6 now).mono ?_
      rintro e' w' ⟨rfl, hp⟩
      refine ⟨_, f, rfl, ?_, rfl, Or.inl ⟨?_, rfl⟩⟩
      · unfold stepS; rw [if_neg h1, if_pos h5, if_pos h6]; exact hp
      · unfold leaseB; simp; omega
    · by_cases h7 : 0 < S.e2
      · refine (step_beat1 H hl5 hok.on hm W h2 h3 h4 h5 (by omega) h7 (fitI_of (by omega))).mono ?_
        rintro e' w' ⟨rfl, hp⟩
        refine ⟨_, f, rfl, ?_, rfl, Or.inl ⟨?_, rfl⟩⟩
        · unfold stepS; rw [if_neg h1, if_pos h5, if_neg h6]; exact hp
        · unfold leaseB; simp; omega
      · refine (step_beat2 H hl5 hok.on hm W h2 h3 h4 h5 (by omega) h7 (by omega)).mono ?_
        rintro e' w' ⟨q, a, c, rfl, hp, hq1, hq2, hq3⟩
        refine ⟨_, f, rfl, ?_, rfl, Or.inr ⟨?_, q, a, c, rfl, hq1, hq2, hq3, H.lt⟩⟩
        · unfold stepS; rw [if_neg h1, if_pos h5, if_neg h6]; exact hp
        · unfold leaseB; simp; omega
  · have hlb : leaseB S W.kind W.fr W.tt = false := by unfold leaseB; simp; omega
    by_cases h6 : W.kind = 11 ∧ W.fr = S.nw ∧ W.ep = S.e ∧ ¬ 0 < S.e2
    · refine (step_full LA H hok.may hk W h2 h3 h4 h6.1 h6.2.1 h6.2.2.1 h6.2.2.2 now).mono ?_
      rintro e' w' ⟨rfl, f', hp, hg⟩
      refine ⟨_, f', rfl, ?_, hg, Or.inl ⟨hlb, rfl⟩⟩
      unfold stepS; rw [if_neg h1, if_neg h5, if_pos h6]; exact hp
    · refine (step_idle H W h2 h3 h4 ⟨h5, h6⟩ now).mono ?_
      rintro e' w' ⟨rfl, hb⟩
      refine ⟨_, f, rfl, ?_, rfl, Or.inl ⟨hlb, rfl⟩⟩
      unfold stepS; rw [if_neg h1, if_neg h5, if_neg h6]; exact (PostF.refl H).low hb
end Go.Proofs.YthiphdcbboapkaaGreatDoor

/- Walks of roster.Drop. -/
import Derived.Test.YthiphdcbboapkaaGreatDoorRoB
namespace Go.Proofs.YthiphdcbboapkaaGreatDoor
open Go.RowKit

theorem ownI_some {w : World} {base : Nat} {v : Value} {zs : List Int} (hl : 0 < zs.length) (h : OwnI w base v zs) : ∃ g cap, v = .slice (some ⟨g, 0, none⟩) zs.length cap ∧ base ≤ g ∧ g < w.heap.size := by
  obtain ⟨h1, h2⟩ := h
  rcases h2 with ⟨_, h⟩ | ⟨g, cap, cur, rfl, hb, hg, _⟩
  · omega
  · exact ⟨g, cap, rfl, hb, (Array.getElem?_eq_some_iff.1 hg).1⟩
theorem ne_of_base {B g : Nat} (h : B ≤ g) : ∀ k, k < B → ¬ (k = g) := fun _ hk => Nat.ne_of_lt (Nat.lt_of_lt_of_le hk h)
theorem size_lt {B : Nat} {w w' : World} (h : Below B w w') : ∀ k, k < w.heap.size → k < w'.heap.size := fun _ hk => Nat.lt_of_lt_of_le hk h.size
theorem own_ints {w : World} {base : Nat} {a : Option Addr} {n c : Nat} {zs : List Int} (h : OwnI w base (.slice a n c) zs) : IntsAt w a zs := by
  obtain ⟨a', c', h1, h2⟩ := ownsRow_row h
  simp only [Value.slice.injEq] at h1
  obtain ⟨rfl, _, _⟩ := h1
  exact h2.ints
/-- What roster.Drop makes of New. -/
def newD (nw n : Int) : Int := if nw = n then 0 else nw

set_option maxRecDepth 100000 in
set_option maxHeartbeats 400000 in
theorem drop_no (e nw n : Int) (a : Option Addr) (c : Nat) (zs : List Int) (w : World) (hl : zs.length ≤ 9223372036854775807) (hz : IntsAt w a zs) (hm : mayB e zs nw = false ∨ idx zs n < 0) :
    Calls Tryz.prog 42 #[rosV e a zs c nw, .int .i64 n] w fun e' w' => e' = .returned (.tuple #[ros0, .bool false]) ∧ Below w.heap.size w w' := by
  by_cases h1 : mayB e zs nw = false
  · go_enter Tryz.func42, Tryz.ntmps42
    go_wp2_with (first
      | (go_at_call 61; refine (index_any _ _ _ _ _ hl ((hz.alloc _).alloc _)).mono ?_; rintro e w' ⟨rfl, rfl⟩)
      | (go_at_call 35; refine (may_any _ _ _ _ _ _ hl ((hz.alloc _).alloc _)).mono ?_; rw [h1]; rintro e w' ⟨rfl, hb⟩; obtain ⟨hc, hf⟩ := bcell hb))
    refine bodyPost_ret (v := .tuple #[ros0, .bool false]) (by simp [results, Tryz.results42, go_sem, hc]) rfl ⟨rfl, ?_⟩
    exact below_set3 (below_on (below_alloc (below_alloc (Below.refl _ _) _) _) hb) (by omega) _ _ _ _ _ _
  · have h2 : mayB e zs nw = true := by simpa using h1
    have h3 : idx zs n < 0 := hm.resolve_left h1
    clear h1 hm
    go_enter Tryz.func42, Tryz.ntmps42
    go_wp2_with (first
      | (go_at_call 61; refine (index_any _ _ _ _ _ hl ((hz.alloc _).alloc _)).mono ?_; rintro e w' ⟨rfl, rfl⟩)
      | (go_at_call 35; refine (may_any _ _ _ _ _ _ hl ((hz.alloc _).alloc _)).mono ?_; rw [h2]; rintro e w' ⟨rfl, hb⟩; obtain ⟨hc, hf⟩ := bcell hb))
    refine bodyPost_ret (v := .tuple #[ros0, .bool false]) (by simp [results, Tryz.results42, go_sem, hc]) rfl ⟨rfl, ?_⟩
    exact below_set3 (below_on (below_alloc (below_alloc (Below.refl _ _) _) _) hb) (by omega) _ _ _ _ _ _

/-- What Drop's great statement leaves. -/
def DropC (w : World) (e nw : Int) (sl : Value) (k : Nat) (zs : List Int) (H g c2 : Nat) (wx : World) : Prop :=
  RosS w (.int .i64 e) sl (.int .i64 nw) wx ∧ wx.cell? ⟨H, 0, none⟩ = some (.int .i64 (e + 1)) ∧ wx.cell? ⟨H, 1, none⟩ = some (.slice (some ⟨g, 0, none⟩) (zs.eraseIdx k).length c2) ∧ wx.cell? ⟨H, 2, none⟩ = some (.int .i64 nw) ∧
  wx.frozen? ⟨H, 2, none⟩ = false ∧ w.heap.size + 2 ≤ H ∧ ¬ H = g ∧ OwnI wx (w.heap.size + 2) (.slice (some ⟨g, 0, none⟩) (zs.eraseIdx k).length c2) (zs.eraseIdx k)

set_option maxRecDepth 100000 in
set_option maxHeartbeats 1600000 in
theorem drop_yes (e nw n : Int) (k : Nat) (a : Option Addr) (c : Nat) (zs : List Int) (w : World) (hz : IntsAt w a zs) (hm : mayB e zs nw = true) (he : 1 ≤ e ∧ e ≤ 1099511627776) (hl : zs.length ≤ 5) (hk : k < zs.length) (hi : Hid (idx zs n = k)) (hy : mayB (e + 1) (zs.eraseIdx k) (newD nw n) = true) :
    Calls Tryz.prog 42 #[rosV e a zs c nw, .int .i64 n] w (AddR w (e + 1) (newD nw n) (zs.eraseIdx k)) := by
  have hw : IntKind.i64.wrap (e + 1) = e + 1 := IntWalk.i64_in _ (by omega)
  have hw2 : IntKind.i64.wrap ((k : Int) + 1) = (k : Int) + 1 := IntWalk.i64_in _ (by omega)
  have hyH := Lib.hid hy
  clear hy
  go_enter Tryz.func42, Tryz.ntmps42
  go_wp2_with (first
      | (go_at_call 61; refine (index_any _ _ _ _ _ (by omega) ((hz.alloc _).alloc _)).mono ?_; rw [hi.out]; rintro e w' ⟨rfl, rfl⟩)
      | (go_at_call 35; refine (may_any _ _ _ _ _ _ (by omega) ((hz.alloc _).alloc _)).mono ?_; rw [hm]; rintro e w' ⟨rfl, hb⟩; obtain ⟨hc, hf⟩ := bcell hb))
  have hS : RosS w (.int .i64 e) (.slice a zs.length c) (.int .i64 nw) w' := (RosS.start w _ _ _ _ _ _ _ _).keep hb
  clear hb hc hf
  go_cut [7] (fun s7 wx => ∃ H g c2 : Nat, s7 = .pointer (some ⟨H, 0, none⟩) ∧ DropC w e nw (.slice a zs.length c) k zs H g c2 wx)
  case first =>
    go_region_held3 (fun w' => w'.cell? ⟨w.heap.size, 0, none⟩ = some (.int .i64 e) ∧ w'.cell? ⟨w.heap.size, 1, none⟩ = some (.slice a zs.length c) ∧ w'.cell? ⟨w.heap.size, 2, none⟩ = some (.int .i64 nw) ∧
        w'.cell? ⟨w.heap.size + 1, 0, none⟩ = some (cellD w' ⟨w.heap.size + 1, 0, none⟩) ∧ w'.cell? ⟨w.heap.size + 1, 1, none⟩ = some (cellD w' ⟨w.heap.size + 1, 1, none⟩) ∧ w'.cell? ⟨w.heap.size + 1, 2, none⟩ = some (cellD w' ⟨w.heap.size + 1, 2, none⟩) ∧
        w'.frozen? ⟨w.heap.size + 1, 0, none⟩ = false ∧ w'.frozen? ⟨w.heap.size + 1, 1, none⟩ = false ∧ w'.frozen? ⟨w.heap.size + 1, 2, none⟩ = false ∧ Below w.heap.size w w')
      (first | exact RosS.keep hS (Below.refl _ _).drew | exact RosS.keep (show RosS w _ _ _ _ from ‹_›) hb | exact RosS.keepB (show RosS w _ _ _ _ from ‹_›) hb2 | exact RosS.keep (show RosS w _ _ _ _ from ‹_›) (below_alloc (Below.refl _ _) _) | exact (((hS.keep (Below.refl _ _).drew).keep hb).keepB hb2).keep (below_alloc (Below.refl _ _) _) | (have z1 := hS.size; have z2 := hb.size; have z3 := hb2.size; try simp only [World.size_drew, World.size_alloc] at z2 z3; exact RosS.keepB (show RosS w _ _ _ _ from ‹_›) (below_set3 (Below.refl _ _) (by (try simp only [World.size_drew, World.size_alloc]); omega) _ _ _ _ _ _)))
      (first
        | (go_at_call 46; refine (clone_any _ _ _ _ (by omega) ?_).mono ?_; (exact (hz.below (show RosS w _ _ _ _ from ‹_›).low (Nat.le_refl _))); rintro e w' ⟨v1, rfl, hown, hb⟩; obtain ⟨hc, hf⟩ := bcell hb; obtain ⟨g, cap, rfl, hg1, hg2⟩ := ownI_some (by omega) hown; have hneA := Nat.ne_of_gt hg2; have hneB := ne_of_base hg1; have hneC := size_lt hb; have hown1 := Lib.hid (ownsRow_base (base' := w.heap.size + 2) hown (show RosS w _ _ _ _ from ‹_›).size); clear hown)
        | (go_at_call 62; refine (delete_any (w.heap.size + 2) _ _ zs k _ hk ?_).mono ?_; (first | exact hown1.out | exact hown1.out.alloc _); rintro e w' ⟨c2, rfl, hown2', hb2, hgr⟩; obtain ⟨hdc, hdf⟩ := grown_cells hgr; have hown2 := Lib.hid hown2'; clear hown2'))
    all_goals
      have hR := (show RosS w _ _ _ _ from ‹_›)
      have z1 := hS.size
      have z2 := hb.size
      have z3 := hb2.size
      try simp only [World.size_drew, World.size_alloc] at z2 z3 hg1 hg2
      go_wp2_with fail
      go_meet
      refine ⟨_, g, c2, rfl, hR, ?_, ?_, ?_, ?_, ?_, ?_, ?_⟩
      · clear hR; go_simp; all_goals (refine set_same ?_; go_simp)
      · clear hR; go_simp; all_goals (refine set_same ?_; go_simp)
      · clear hR; go_simp; all_goals (refine set_same ?_; go_simp)
      · clear hR; go_simp
      · omega
      · omega
      · first | exact hown2.out.alloc _ | exact own_set3_ne hown2.out (by omega) _ _ _ _ _ _
  case rest =>
    obtain ⟨H, g, c2, rfl, hR, q0, q1, q2, qf, hHl, hHg, hown⟩ := hcut
    have hz2 := own_ints hown
    obtain ⟨r0, r1, r2, d0, d1, d2, f0, f1, f2, hlow⟩ := hR
    have z1 : w.heap.size + 1 < wc.heap.size := cell_old d0
    have z2 : w.heap.size < wc.heap.size := by omega
    have z3 : H < wc.heap.size := cell_old q0
    have z4 : ¬ (H = w.heap.size) := by omega
    have z5 : ¬ (H = w.heap.size + 1) := by omega
    have hzl : (zs.eraseIdx k).length ≤ 5 := by rw [List.length_eraseIdx]; split <;> omega
    by_cases hn : nw = n
    · subst hn
      have e2 : newD nw nw = 0 := by simp [newD]
      rw [e2] at hyH
      have E2 := Lib.hid e2
      clear e2
      have hz3 := Lib.hid (hz2.set (a := ⟨H, 2, none⟩) hHg (.int .i64 0))
      go_wp2_with (go_at_call 63; refine (asked_yes _ _ _ _ (zs.eraseIdx k) _ (by omega) hz3.out hyH.out).mono ?_; rintro e w' ⟨rfl, hb⟩; obtain ⟨hc, hf⟩ := bcell hb)
      refine bodyPost_ret (v := .tuple #[rosV (e + 1) (some ⟨g, 0, none⟩) (zs.eraseIdx k) c2 0, .bool true]) (by simp [results, Tryz.results42, go_sem, hc, d0, d1, d2, z1]) rfl ⟨_, by rw [E2.out], ?_, ?_⟩
      · exact ownsRow_base (own_set3 (b := w.heap.size + 1) (ownsRow_below (own_set_ne hown hHg 2 (.int .i64 0)) hb) (by omega) (.int .i64 (e + 1)) (.slice (some ⟨g, 0, none⟩) (zs.eraseIdx k).length c2) (.int .i64 0)) (by omega)
      · exact below_set3 (below_on (hlow.setCell (p := ⟨H, 2, none⟩) (by simp; omega) (.int .i64 0)) hb) (by omega) _ _ _ _ _ _
    · have e2 : newD nw n = nw := by simp [newD, hn]
      rw [e2] at hyH
      have E2 := Lib.hid e2
      have hn2 : (nw == n) = false := by simpa using hn
      clear e2 hn
      go_wp2_with (go_at_call 63; refine (asked_yes _ _ _ _ (zs.eraseIdx k) _ (by omega) hz2 hyH.out).mono ?_; rintro e w' ⟨rfl, hb⟩; obtain ⟨hc, hf⟩ := bcell hb)
      refine bodyPost_ret (v := .tuple #[rosV (e + 1) (some ⟨g, 0, none⟩) (zs.eraseIdx k) c2 nw, .bool true]) (by simp [results, Tryz.results42, go_sem, hc, d0, d1, d2, z1]) rfl ⟨_, by rw [E2.out], ?_, ?_⟩
      · exact ownsRow_base (own_set3 (b := w.heap.size + 1) (ownsRow_below hown hb) (by omega) (.int .i64 (e + 1)) (.slice (some ⟨g, 0, none⟩) (zs.eraseIdx k).length c2) (.int .i64 nw)) (by omega)
      · exact below_set3 (below_on hlow hb) (by omega) _ _ _ _ _ _

set_option maxRecDepth 100000 in
set_option maxHeartbeats 1600000 in
theorem drop_no2 (e nw n : Int) (k : Nat) (a : Option Addr) (c : Nat) (zs : List Int) (w : World) (hz : IntsAt w a zs) (hm : mayB e zs nw = true) (he : 1 ≤ e ∧ e ≤ 1099511627776) (hl : zs.length ≤ 5) (hk : k < zs.length) (hi : Hid (idx zs n = k)) (hy : mayB (e + 1) (zs.eraseIdx k) (newD nw n) = false) :
    Calls Tryz.prog 42 #[rosV e a zs c nw, .int .i64 n] w fun e' w' => e' = .returned (.tuple #[ros0, .bool false]) ∧ Below w.heap.size w w' := by
  have hw : IntKind.i64.wrap (e + 1) = e + 1 := IntWalk.i64_in _ (by omega)
  have hw2 : IntKind.i64.wrap ((k : Int) + 1) = (k : Int) + 1 := IntWalk.i64_in _ (by omega)
  have hyH := Lib.hid hy
  clear hy
  go_enter Tryz.func42, Tryz.ntmps42
  go_wp2_with (first
      | (go_at_call 61; refine (index_any _ _ _ _ _ (by omega) ((hz.alloc _).alloc _)).mono ?_; rw [hi.out]; rintro e w' ⟨rfl, rfl⟩)
      | (go_at_call 35; refine (may_any _ _ _ _ _ _ (by omega) ((hz.alloc _).alloc _)).mono ?_; rw [hm]; rintro e w' ⟨rfl, hb⟩; obtain ⟨hc, hf⟩ := bcell hb))
  have hS : RosS w (.int .i64 e) (.slice a zs.length c) (.int .i64 nw) w' := (RosS.start w _ _ _ _ _ _ _ _).keep hb
  clear hb hc hf
  go_cut [7] (fun s7 wx => ∃ H g c2 : Nat, s7 = .pointer (some ⟨H, 0, none⟩) ∧ DropC w e nw (.slice a zs.length c) k zs H g c2 wx)
  case first =>
    go_region_held3 (fun w' => w'.cell? ⟨w.heap.size, 0, none⟩ = some (.int .i64 e) ∧ w'.cell? ⟨w.heap.size, 1, none⟩ = some (.slice a zs.length c) ∧ w'.cell? ⟨w.heap.size, 2, none⟩ = some (.int .i64 nw) ∧
        w'.cell? ⟨w.heap.size + 1, 0, none⟩ = some (cellD w' ⟨w.heap.size + 1, 0, none⟩) ∧ w'.cell? ⟨w.heap.size + 1, 1, none⟩ = some (cellD w' ⟨w.heap.size + 1, 1, none⟩) ∧ w'.cell? ⟨w.heap.size + 1, 2, none⟩ = some (cellD w' ⟨w.heap.size + 1, 2, none⟩) ∧
        w'.frozen? ⟨w.heap.size + 1, 0, none⟩ = false ∧ w'.frozen? ⟨w.heap.size + 1, 1, none⟩ = false ∧ w'.frozen? ⟨w.heap.size + 1, 2, none⟩ = false ∧ Below w.heap.size w w')
      (first | exact RosS.keep hS (Below.refl _ _).drew | exact RosS.keep (show RosS w _ _ _ _ from ‹_›) hb | exact RosS.keepB (show RosS w _ _ _ _ from ‹_›) hb2 | exact RosS.keep (show RosS w _ _ _ _ from ‹_›) (below_alloc (Below.refl _ _) _) | exact (((hS.keep (Below.refl _ _).drew).keep hb).keepB hb2).keep (below_alloc (Below.refl _ _) _) | (have z1 := hS.size; have z2 := hb.size; have z3 := hb2.size; try simp only [World.size_drew, World.size_alloc] at z2 z3; exact RosS.keepB (show RosS w _ _ _ _ from ‹_›) (below_set3 (Below.refl _ _) (by (try simp only [World.size_drew, World.size_alloc]); omega) _ _ _ _ _ _)))
      (first
        | (go_at_call 46; refine (clone_any _ _ _ _ (by omega) ?_).mono ?_; (exact (hz.below (show RosS w _ _ _ _ from ‹_›).low (Nat.le_refl _))); rintro e w' ⟨v1, rfl, hown, hb⟩; obtain ⟨hc, hf⟩ := bcell hb; obtain ⟨g, cap, rfl, hg1, hg2⟩ := ownI_some (by omega) hown; have hneA := Nat.ne_of_gt hg2; have hneB := ne_of_base hg1; have hneC := size_lt hb; have hown1 := Lib.hid (ownsRow_base (base' := w.heap.size + 2) hown (show RosS w _ _ _ _ from ‹_›).size); clear hown)
        | (go_at_call 62; refine (delete_any (w.heap.size + 2) _ _ zs k _ hk ?_).mono ?_; (first | exact hown1.out | exact hown1.out.alloc _); rintro e w' ⟨c2, rfl, hown2', hb2, hgr⟩; obtain ⟨hdc, hdf⟩ := grown_cells hgr; have hown2 := Lib.hid hown2'; clear hown2'))
    all_goals
      have hR := (show RosS w _ _ _ _ from ‹_›)
      have z1 := hS.size
      have z2 := hb.size
      have z3 := hb2.size
      try simp only [World.size_drew, World.size_alloc] at z2 z3 hg1 hg2
      go_wp2_with fail
      go_meet
      refine ⟨_, g, c2, rfl, hR, ?_, ?_, ?_, ?_, ?_, ?_, ?_⟩
      · clear hR; go_simp; all_goals (refine set_same ?_; go_simp)
      · clear hR; go_simp; all_goals (refine set_same ?_; go_simp)
      · clear hR; go_simp; all_goals (refine set_same ?_; go_simp)
      · clear hR; go_simp
      · omega
      · omega
      · first | exact hown2.out.alloc _ | exact own_set3_ne hown2.out (by omega) _ _ _ _ _ _
  case rest =>
    obtain ⟨H, g, c2, rfl, hR, q0, q1, q2, qf, hHl, hHg, hown⟩ := hcut
    have hz2 := own_ints hown
    obtain ⟨r0, r1, r2, d0, d1, d2, f0, f1, f2, hlow⟩ := hR
    have z1 : w.heap.size + 1 < wc.heap.size := cell_old d0
    have z2 : w.heap.size < wc.heap.size := by omega
    have z3 : H < wc.heap.size := cell_old q0
    have z4 : ¬ (H = w.heap.size) := by omega
    have z5 : ¬ (H = w.heap.size + 1) := by omega
    have hzl : (zs.eraseIdx k).length ≤ 5 := by rw [List.length_eraseIdx]; split <;> omega
    by_cases hn : nw = n
    · subst hn
      have e2 : newD nw nw = 0 := by simp [newD]
      rw [e2] at hyH
      clear e2
      have hz3 := Lib.hid (hz2.set (a := ⟨H, 2, none⟩) hHg (.int .i64 0))
      go_wp2_with (go_at_call 63; refine (asked_no _ _ _ _ (zs.eraseIdx k) _ (by omega) hz3.out hyH.out).mono ?_; rintro e w' ⟨rfl, hb⟩; obtain ⟨hc, hf⟩ := bcell hb)
      refine bodyPost_ret (v := .tuple #[ros0, .bool false]) (by simp [results, Tryz.results42, go_sem, hc, d0, d1, d2, z1]) rfl ⟨rfl, ?_⟩
      · exact below_set3 (below_on (hlow.setCell (p := ⟨H, 2, none⟩) (by simp; omega) (.int .i64 0)) hb) (by omega) _ _ _ _ _ _
    · have e2 : newD nw n = nw := by simp [newD, hn]
      rw [e2] at hyH
      have E2 := Lib.hid e2
      have hn2 : (nw == n) = false := by simpa using hn
      clear e2 hn
      go_wp2_with (go_at_call 63; refine (asked_no _ _ _ _ (zs.eraseIdx k) _ (by omega) hz2 hyH.out).mono ?_; rintro e w' ⟨rfl, hb⟩; obtain ⟨hc, hf⟩ := bcell hb)
      refine bodyPost_ret (v := .tuple #[ros0, .bool false]) (by simp [results, Tryz.results42, go_sem, hc, d0, d1, d2, z1]) rfl ⟨rfl, ?_⟩
      · exact below_set3 (below_on hlow hb) (by omega) _ _ _ _ _ _

end Go.Proofs.YthiphdcbboapkaaGreatDoor

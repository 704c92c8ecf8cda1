/- Walks of the document's AddNode, DropNode, Side. -/
import Derived.Test.YthiphdcbboapkaaGreatDoorRoE
namespace Go.Proofs.YthiphdcbboapkaaGreatDoor
open Go.RowKit

/-- What AddNode's and DropNode's great statements leave. -/
def MadeC (w : World) (e e' nw nw' : Int) (sl : Value) (zs : List Int) (H : Nat) (a : Option Addr) (m c : Nat) (wx : World) : Prop :=
  RosS w (.int .i64 e) sl (.int .i64 nw) wx ∧ wx.cell? ⟨H, 0, none⟩ = some (.int .i64 e') ∧ wx.cell? ⟨H, 1, none⟩ = some (.slice a m c) ∧ wx.cell? ⟨H, 2, none⟩ = some (.int .i64 nw') ∧
  wx.frozen? ⟨H, 2, none⟩ = false ∧ w.heap.size + 2 ≤ H ∧ Far (.slice a m c) H ∧ m = zs.length ∧ wx.ownsRow (w.heap.size + 2) 3 1 (.slice a m c) m (zs.map (.int .i64))

theorem mayRoster_any' (e nw : Int) (a : Option Addr) (m c : Nat) (zs : List Int) (w : World) (hl : zs.length ≤ 9223372036854775807) (hz : IntsAt w a zs) (h : zs.length = m) :
    Calls Tryz.prog 29 #[.agg #[.int .i64 e, .slice a m c, .int .i64 nw]] w fun e' w' => e' = .returned (.bool (mayB e zs nw)) ∧ Below w.heap.size w w' := by
  subst h; exact mayRoster_any e nw a c zs w hl hz
set_option maxRecDepth 100000 in
set_option maxHeartbeats 3200000 in
theorem addNode_x (e nw n : Int) (a : Option Addr) (c : Nat) (zs : List Int) (w : World) (hz : IntsAt w a zs) (he : -9223372036854775808 ≤ e ∧ e < 9223372036854775807) (hl : zs.length ≤ 100) (R : Ending → World → Prop)
    (hR : ∀ e' w', ((mayB e zs nw = true ∧ nw = 0 ∧ mayB (e + 1) (zs ++ [n]) n = true → AddR w (e + 1) n (zs ++ [n]) e' w') ∧ (¬ (mayB e zs nw = true ∧ nw = 0 ∧ mayB (e + 1) (zs ++ [n]) n = true) → e' = .returned (.tuple #[ros0, .bool false]) ∧ Below w.heap.size w w')) → R e' w') :
    Calls Tryz.prog 45 #[rosV e a zs c nw, .int .i64 n] w R := by
  have hw : IntKind.i64.wrap (e + 1) = e + 1 := IntWalk.i64_in _ (by omega)
  have HR := Lib.hid hR
  clear hR
  go_enter Tryz.func45, Tryz.ntmps45
  go_wp2_with fail
  go_cut [6] (fun s wx => ∃ H c2 : Nat, ∃ a2 : Option Addr, s = .pointer (some ⟨H, 0, none⟩) ∧ MadeC w e (e + 1) nw n (.slice a zs.length c) (zs ++ [n]) H a2 (zs.length + 1) c2 wx)
  case first =>
    have hS := Lib.hid (RosS.start w (.int .i64 e) (.slice a zs.length c) (.int .i64 nw) (.int .i64 0) (.slice none 0 0) (.int .i64 0) 24 24)
    have hfn := far_nil
    go_region_held3 (fun w' => w'.cell? ⟨w.heap.size, 0, none⟩ = some (.int .i64 e) ∧ w'.cell? ⟨w.heap.size, 1, none⟩ = some (.slice a zs.length c) ∧ w'.cell? ⟨w.heap.size, 2, none⟩ = some (.int .i64 nw) ∧
      w'.cell? ⟨w.heap.size + 1, 0, none⟩ = some (cellD w' ⟨w.heap.size + 1, 0, none⟩) ∧ w'.cell? ⟨w.heap.size + 1, 1, none⟩ = some (cellD w' ⟨w.heap.size + 1, 1, none⟩) ∧ w'.cell? ⟨w.heap.size + 1, 2, none⟩ = some (cellD w' ⟨w.heap.size + 1, 2, none⟩) ∧
      w'.frozen? ⟨w.heap.size + 1, 0, none⟩ = false ∧ w'.frozen? ⟨w.heap.size + 1, 1, none⟩ = false ∧ w'.frozen? ⟨w.heap.size + 1, 2, none⟩ = false ∧ Below w.heap.size w w')
      (first | exact hS.out.keep (Below.refl _ _).drew | exact RosS.keepB (show RosS w _ _ _ _ from ‹_›) hG.1 | exact RosS.keep (show RosS w _ _ _ _ from ‹_›) (below_alloc (Below.refl _ _) _) | exact RosS.keepB (show RosS w _ _ _ _ from ‹_›) (below_realloc (by (try simp only [World.size_drew, World.size_alloc]); omega) _ _) | exact RosS.keepB (show RosS w _ _ _ _ from ‹_›) (below_set3 (Below.refl _ _) (by (try simp only [World.size_drew, World.size_alloc]); omega) _ _ _ _ _ _))
      (first
        | (refine step_append_far (by rfl) _ _ 22 (by rfl) (w.heap.size + 2) 3 _ 1 8 tyInts (.slice none 0 0) 0 [] (by rfl) (World.ownsRow_nil _ _ _ _) a zs.length c (zs.map (.int .i64)) (by rfl) (by simp) ?c2 (by simp [Value.oneCell']) (by unfold maxLen; omega) (by omega) ?c3 ?_
           case c2 => exact (hz.below (show RosS w _ _ _ _ from ‹_›).low (Nat.le_refl _)).row
           case c3 => first | exact (show RosS w _ _ _ _ from ‹_›).size | (have := (show RosS w _ _ _ _ from ‹_›).size; simp at this ⊢; omega)
           intro v2 w2 hown2' hG
           have hs1 := Nat.le_trans (show RosS w _ _ _ _ from ‹_›).size hG.1.size
           simp only [Nat.zero_add, List.nil_append] at hown2'
           obtain ⟨a2, c2, rfl, _⟩ := ownsRow_row hown2'
           have hz1 := hG.1.size
           try simp only [World.size_drew, World.size_alloc] at hz1
           obtain ⟨_, g1, g2, g3, g4, g5, g6⟩ := id hG
           have hown2 := Lib.hid hown2'
           clear hown2')
        | (refine step_append_far (by rfl) _ _ 22 (by rfl) (w.heap.size + 2) 3 _ 1 8 tyInts _ zs.length (zs.map (.int .i64)) (by rfl) ?c1 _ 1 1 [.int .i64 n] (by rfl) (by rfl) ?c2 (by simp [Value.oneCell']) (by unfold maxLen; omega) (by omega) ?c3 ?_
           case c1 => first | exact hown2.out | exact hown2.out.alloc _ | exact (hown2.out.alloc _).alloc _
           case c2 => first | exact RowAt.new' _ _ _ _ (by simp) | exact (RowAt.new' _ _ _ _ (by simp)).alloc _ | exact (RowAt.new' _ _ _ _ (by simp)).drew.grew0 hG | exact ((RowAt.new' _ _ _ _ (by simp)).alloc _).drew.grew0 hG | exact ((RowAt.new' _ _ _ _ (by simp)).drew.grew0 hG).alloc _
           case c3 => first | exact (show RosS w _ _ _ _ from ‹_›).size | (have := (show RosS w _ _ _ _ from ‹_›).size; simp at this ⊢; omega)
           intro v3 w3 hown3' hG
           have hs2 := Nat.le_trans (show RosS w _ _ _ _ from ‹_›).size hG.1.size
           obtain ⟨a3, c3, rfl, _⟩ := ownsRow_row hown3'
           have hz2 := hG.1.size
           try simp only [World.size_alloc] at hz2
           obtain ⟨_, k1, k2, k3, k4, k5, k6⟩ := id hG
           have hown3 := Lib.hid hown3'
           clear hown3'))
    all_goals
      have hR := show RosS w _ _ _ _ from ‹_›
      go_wp2_with fail
      go_meet
      refine ⟨_, c3, a3, rfl, hR, ?_, ?_, ?_, ?_, ?_, ?_, by simp, ?_⟩
      · clear hR; go_simp; all_goals (refine set_same ?_; go_simp)
      · clear hR; go_simp; all_goals (refine set_same ?_; go_simp)
      · clear hR; go_simp; all_goals (refine set_same ?_; go_simp)
      · clear hR; go_simp
      · omega
      · first | exact k4 _ (by (try simp only [World.size_drew, World.size_alloc]); omega) | exact k3 _ (by (try simp only [World.size_alloc]); omega) (g4 _ (by (try simp only [World.size_drew, World.size_alloc]); omega)) | exact k3 _ (by (try simp only [World.size_alloc]); omega) (g3 _ (by (try simp only [World.size_drew, World.size_alloc]); omega) (hfn _))
      · rw [List.map_append]; first | exact hown3.out.alloc _ | (refine own_set3_far hown3.out ?_ _ _ _ _ _ _; first | exact k4 _ (by (try simp only [World.size_drew, World.size_alloc]); omega) | exact k3 _ (by (try simp only [World.size_alloc]); omega) (g4 _ (by (try simp only [World.size_drew, World.size_alloc]); omega)) | exact k3 _ (by (try simp only [World.size_alloc]); omega) (g3 _ (by (try simp only [World.size_drew, World.size_alloc]); omega) (hfn _)))
  case rest =>
    obtain ⟨H, c2, a2, rfl, hR, q0, q1, q2, qf, hHl, hHf, hm', hown⟩ := hcut
    have hz2 : IntsAt wc a2 (zs ++ [n]) := own_ints (n := zs.length + 1) (c := c2) (base := w.heap.size + 2) (by rw [OwnI, ← hm']; exact hown)
    have HM := Lib.hid hm'
    clear hm'
    obtain ⟨r0, r1, r2, d0, d1, d2, f0, f1, f2, hlow⟩ := hR
    have z1 : w.heap.size + 1 < wc.heap.size := cell_old d0
    have z2 : w.heap.size < wc.heap.size := by omega
    have z3 : H < wc.heap.size := cell_old q0
    have z4 : ¬ (H = w.heap.size) := by omega
    have z5 : ¬ (H = w.heap.size + 1) := by omega
    have hzc := hz.below hlow (Nat.le_refl _)
    by_cases m1 : mayB e zs nw = false
    · go_wp2_with (go_at_call 29; refine (mayRoster_any _ _ _ _ zs _ (by omega) hzc).mono ?_; rw [m1]; rintro e w' ⟨rfl, hb⟩; obtain ⟨hc, hf⟩ := bcell hb)
      refine bodyPost_ret (v := .tuple #[ros0, .bool false]) (by simp [results, Tryz.results45, go_sem, hc, d0, d1, d2, z1]) rfl (HR.out _ _ ⟨fun h => ?_, fun _ => ⟨rfl, ?_⟩⟩)
      · rw [m1] at h; cases h.1
      · exact below_set3 (below_on hlow hb) (by omega) _ _ _ _ _ _
    have m1' : mayB e zs nw = true := by simpa using m1
    have M1 := Lib.hid m1'
    clear m1 m1'
    by_cases h0 : nw = 0
    · subst h0
      by_cases m2 : mayB (e + 1) (zs ++ [n]) n = false
      · have M2 := Lib.hid m2
        clear m2
        go_wp2_with (first
          | (go_at_call 29; (with_reducible refine (mayRoster_any e _ _ _ zs _ (by omega) hzc).mono ?_); rw [M1.out]; rintro e w' ⟨rfl, hb⟩; have hb1 := Lib.hid hb; obtain ⟨hc, hf⟩ := bcell hb; have hsz := size_lt hb; have hz3 := Lib.hid (hz2.keep hb); clear hb)
          | (go_at_call 29; (with_reducible refine (mayRoster_any' (e + 1) _ _ _ _ (zs ++ [n]) _ (by simp; omega) hz3.out HM.out.symm).mono ?_); rw [M2.out]; rintro e w' ⟨rfl, hb2⟩; obtain ⟨hc2, hf2⟩ := bcell hb2))
        have x0 := cell_keep hb2 (cell_keep hb1.out d0)
        have x1 := cell_keep hb2 (cell_keep hb1.out d1)
        have x2 := cell_keep hb2 (cell_keep hb1.out d2)
        refine bodyPost_ret (v := .tuple #[ros0, .bool false]) (by simp [results, Tryz.results45, go_sem, x0, x1, x2]) rfl (HR.out _ _ ⟨fun h => ?_, fun _ => ⟨rfl, ?_⟩⟩)
        · rw [M2.out] at h; cases h.2.2
        · exact below_set3 (below_on (below_on hlow hb1.out) hb2) (by omega) _ _ _ _ _ _
      · have m2' : mayB (e + 1) (zs ++ [n]) n = true := by simpa using m2
        have M2 := Lib.hid m2'
        clear m2 m2'
        go_wp2_with (first
          | (go_at_call 29; (with_reducible refine (mayRoster_any e _ _ _ zs _ (by omega) hzc).mono ?_); rw [M1.out]; rintro e w' ⟨rfl, hb⟩; have hb1 := Lib.hid hb; obtain ⟨hc, hf⟩ := bcell hb; have hsz := size_lt hb; have hz3 := Lib.hid (hz2.keep hb); clear hb)
          | (go_at_call 29; (with_reducible refine (mayRoster_any' (e + 1) _ _ _ _ (zs ++ [n]) _ (by simp; omega) hz3.out HM.out.symm).mono ?_); rw [M2.out]; rintro e w' ⟨rfl, hb2⟩; obtain ⟨hc2, hf2⟩ := bcell hb2))
        have x0 := cell_keep hb2 (cell_keep hb1.out d0)
        have x1 := cell_keep hb2 (cell_keep hb1.out d1)
        have x2 := cell_keep hb2 (cell_keep hb1.out d2)
        refine bodyPost_ret (v := .tuple #[.agg #[.int .i64 (e + 1), .slice a2 (zs.length + 1) c2, .int .i64 n], .bool true]) (by simp [results, Tryz.results45, go_sem, x0, x1, x2]) rfl (HR.out _ _ ⟨fun _ => ⟨_, rfl, ?_, ?_⟩, fun h => absurd ⟨M1.out, by trivial, M2.out⟩ h⟩)
        · rw [OwnI, ← HM.out]
          exact ownsRow_base (own_set3 (b := w.heap.size + 1) (ownsRow_below (ownsRow_below hown hb1.out) hb2) (by omega) (.int .i64 (e + 1)) (.slice a2 (zs.length + 1) c2) (.int .i64 n)) (by omega)
        · exact below_set3 (below_on (below_on hlow hb1.out) hb2) (by omega) _ _ _ _ _ _
    · have h0' : (nw != 0) = true := by simpa using h0
      have H0 := Lib.hid h0
      clear h0
      go_wp2_with (go_at_call 29; refine (mayRoster_any _ _ _ _ zs _ (by omega) hzc).mono ?_; rw [M1.out]; rintro e w' ⟨rfl, hb⟩; obtain ⟨hc, hf⟩ := bcell hb)
      refine bodyPost_ret (v := .tuple #[ros0, .bool false]) (by simp [results, Tryz.results45, go_sem, hc, d0, d1, d2, z1]) rfl (HR.out _ _ ⟨fun h => absurd h.2.1 H0.out, fun _ => ⟨rfl, ?_⟩⟩)
      exact below_set3 (below_on hlow hb) (by omega) _ _ _ _ _ _

end Go.Proofs.YthiphdcbboapkaaGreatDoor

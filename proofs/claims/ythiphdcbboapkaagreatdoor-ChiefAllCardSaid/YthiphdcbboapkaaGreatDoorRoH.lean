/- Walks of the document's DropNode. -/
import Derived.Test.YthiphdcbboapkaaGreatDoorRoF
namespace Go.Proofs.YthiphdcbboapkaaGreatDoor
open Go.RowKit

theorem oneCell_ints' {l : List Value} (h : ∀ u ∈ l, ∃ x, u = .int .i64 x) : ∀ u ∈ l, u.oneCell' = true := fun u hu => by
  obtain ⟨x, rfl⟩ := h u hu; rfl
theorem IntsAt.setFar {w : World} {a : Option Addr} {zs : List Int} {m c H : Nat} (h : IntsAt w a zs) (hf : Far (.slice a m c) H) (i : Nat) (v : Value) : IntsAt (w.setCell ⟨H, i, none⟩ v) a zs := by
  cases a with
  | none => rcases h with h | ⟨b, off, e, _⟩
            · exact Or.inl h
            · cases e
  | some a =>
    rcases h with h | ⟨b, off, e, hs, hc⟩
    · exact Or.inl h
    · cases e
      exact IntsAt.set (Or.inr ⟨b, off, rfl, hs, hc⟩) (fun e => hf (by simpa [Value.ownBlock] using e)) v
theorem IntsAt.takeR {w : World} {b off : Nat} {zs : List Int} (h : IntsAt w (some ⟨b, off, none⟩) zs) (k : Nat) : RowAt w (some ⟨b, off, none⟩) ((zs.take k).map (.int .i64)) := by
  rcases h with rfl | ⟨b', o', e, hs, hc⟩
  · exact Or.inl (by simp)
  · cases e
    refine Or.inr ⟨b, off, rfl, hs, fun j u hu => ?_⟩
    have hj : j < (zs.take k).length := by have := (List.getElem?_eq_some_iff.1 hu).1; simpa using this
    have hjz : j < zs.length := by simp at hj; omega
    rw [hc j hjz, ← hu, List.getElem?_map, List.getElem?_take, if_pos (by simp at hj; omega), ← List.getElem?_map, map_getElem?_int zs j hjz]
theorem IntsAt.dropR {w : World} {b off : Nat} {zs : List Int} (h : IntsAt w (some ⟨b, off, none⟩) zs) (k : Nat) : RowAt w (some ⟨b, off + k, none⟩) ((zs.drop k).map (.int .i64)) := by
  rcases h with rfl | ⟨b', o', e, hs, hc⟩
  · exact Or.inl (by simp)
  · cases e
    refine Or.inr ⟨b, off + k, rfl, hs, fun j u hu => ?_⟩
    have hj : j < (zs.drop k).length := by have := (List.getElem?_eq_some_iff.1 hu).1; simpa using this
    have hjz : k + j < zs.length := by simp at hj; omega
    rw [show off + k + j = off + (k + j) from by omega, hc (k + j) hjz, ← hu, List.getElem?_map, List.getElem?_drop, ← List.getElem?_map, map_getElem?_int zs (k + j) hjz]

set_option maxRecDepth 100000 in
set_option maxHeartbeats 3200000 in
theorem dropNode_x (e nw n : Int) (k : Nat) (a : Option Addr) (c : Nat) (zs : List Int) (w : World) (hz : IntsAt w a zs) (he : -9223372036854775808 ≤ e ∧ e < 9223372036854775807) (hl : zs.length ≤ 100) (hcap : zs.length ≤ c) (hk : k < zs.length) (hi : Hid (idx zs n = k)) (hm : mayB e zs nw = true) (R : Ending → World → Prop)
    (hR : ∀ e' w', ((mayB (e + 1) (zs.eraseIdx k) (newD nw n) = true → AddR w (e + 1) (newD nw n) (zs.eraseIdx k) e' w') ∧ (mayB (e + 1) (zs.eraseIdx k) (newD nw n) = false → e' = .returned (.tuple #[ros0, .bool false]) ∧ Below w.heap.size w w')) → R e' w') :
    Calls Tryz.prog 64 #[rosV e a zs c nw, .int .i64 n] w R := by
  have hw : IntKind.i64.wrap (e + 1) = e + 1 := IntWalk.i64_in _ (by omega)
  have HR := Lib.hid hR
  clear hR
  go_enter Tryz.func64, Tryz.ntmps64
  go_wp2_with (first
    | (go_at_call 28; refine (spot_any _ _ _ _ _ _ _ (by omega) ((hz.alloc _).alloc _)).mono ?_; rw [hi.out]; rintro e w' ⟨rfl, hb⟩; have hb1 := Lib.hid hb; obtain ⟨hc, hf⟩ := bcell hb; have hsz := size_lt hb; have hz3 := Lib.hid (((hz.alloc _).alloc _).keep hb); clear hb)
    | (go_at_call 29; refine (mayRoster_any _ _ _ _ _ _ (by omega) hz3.out).mono ?_; rw [hm]; rintro e w' ⟨rfl, hb2⟩))
  have hz5 := hz
  rcases hz5 with h | ⟨b, off, rfl, hbs, hzc⟩
  · rw [h] at hk; simp at hk
  have hS := Lib.hid (((RosS.start w (.int .i64 e) (.slice (some ⟨b, off, none⟩) zs.length c) (.int .i64 nw) (.int .i64 0) (.slice none 0 0) (.int .i64 0) 24 24).keep hb1.out).keep hb2)
  have hsz2 := hS.out.size
  clear hb2 hc hf hsz hzc
  have hfn := far_nil
  have hw2 : IntKind.i64.wrap ((k : Int) + 1) = (k : Int) + 1 := IntWalk.i64_in _ (by omega)
  have hk0 : (0 : Int) ≤ (k : Int) := by omega
  have hk1 : (k : Int) ≤ (zs.length : Int) := by omega
  have hk2 : (k : Int) + 1 ≤ (zs.length : Int) := by omega
  have hk3 : k ≤ c := by omega
  have hk4 : (k : Int) ≤ (c : Int) := by omega
  have hk5 : ((k : Int) + 1).toNat = k + 1 := by omega
  have hk6 : (0 : Int) ≤ (k : Int) + 1 := by omega
  have hcp : (zs.length : Int) ≤ (c : Int) := by omega
  go_cut [7] (fun s wx => ∃ H m c2 : Nat, ∃ a2 : Option Addr, s = .pointer (some ⟨H, 0, none⟩) ∧ MadeC w e (e + 1) nw nw (.slice (some ⟨b, off, none⟩) zs.length c) (zs.eraseIdx k) H a2 m c2 wx)
  case first =>
    have hzH := Lib.hid hz
    clear hz
    by_cases hcc : c = k + 1
    · replace hcc := hcc.symm
      have hk7 : (k : Int) ≤ (k : Int) + 1 := by omega
      have hk8 : (zs.length : Int) ≤ (k : Int) + 1 := by omega
      go_region_held3 (fun w' => w'.cell? ⟨w.heap.size, 0, none⟩ = some (.int .i64 e) ∧ w'.cell? ⟨w.heap.size, 1, none⟩ = some (.slice (some ⟨b, off, none⟩) zs.length c) ∧ w'.cell? ⟨w.heap.size, 2, none⟩ = some (.int .i64 nw) ∧
        w'.cell? ⟨w.heap.size + 1, 0, none⟩ = some (cellD w' ⟨w.heap.size + 1, 0, none⟩) ∧ w'.cell? ⟨w.heap.size + 1, 1, none⟩ = some (cellD w' ⟨w.heap.size + 1, 1, none⟩) ∧ w'.cell? ⟨w.heap.size + 1, 2, none⟩ = some (cellD w' ⟨w.heap.size + 1, 2, none⟩) ∧
        w'.frozen? ⟨w.heap.size + 1, 0, none⟩ = false ∧ w'.frozen? ⟨w.heap.size + 1, 1, none⟩ = false ∧ w'.frozen? ⟨w.heap.size + 1, 2, none⟩ = false ∧ Below w.heap.size w w')
        (first | exact hS.out.keep (Below.refl _ _).drew | exact RosS.keepB (show RosS w _ _ _ _ from ‹_›) hG.1 | exact RosS.keep (show RosS w _ _ _ _ from ‹_›) (below_alloc (Below.refl _ _) _) | exact RosS.keepB (show RosS w _ _ _ _ from ‹_›) (below_realloc (by (try simp only [World.size_drew, World.size_alloc]); omega) _ _) | exact RosS.keepB (show RosS w _ _ _ _ from ‹_›) (below_set3 (Below.refl _ _) (by (try simp only [World.size_drew, World.size_alloc]); omega) _ _ _ _ _ _))
        (first
          | (refine step_append_far (by rfl) _ _ 22 (by rfl) (w.heap.size + 2) 3 _ 1 8 tyInts (.slice none 0 0) 0 [] (by rfl) (World.ownsRow_nil _ _ _ _) (some ⟨b, off, none⟩) k _ ((zs.take k).map (.int .i64)) (by rfl) (by simp; omega) ?c2 (oneCell_ints' (by intro u hu; obtain ⟨x, _, rfl⟩ := List.mem_map.1 hu; exact ⟨x, rfl⟩)) (by unfold maxLen; omega) (by omega) ?c3 ?_
             case c2 => exact (hzH.out.below (show RosS w _ _ _ _ from ‹_›).low (Nat.le_refl _)).takeR k
             case c3 => first | exact (show RosS w _ _ _ _ from ‹_›).size | (have := (show RosS w _ _ _ _ from ‹_›).size; simp at this ⊢; omega)
             intro v2 w2 hown2' hG
             have hs1 := Nat.le_trans (show RosS w _ _ _ _ from ‹_›).size hG.1.size
             have hz1 := hG.1.size
             try simp only [World.size_drew, World.size_alloc] at hz1
             simp only [Nat.zero_add, List.nil_append] at hown2'
             obtain ⟨a2, c2, rfl, _⟩ := ownsRow_row hown2'
             obtain ⟨_, g1, g2, g3, g4, g5, g6⟩ := id hG
             have hown2 := Lib.hid hown2'
             clear hown2')
          | (refine step_append_far (by rfl) _ _ 22 (by rfl) (w.heap.size + 2) 3 _ 1 8 tyInts _ k ((zs.take k).map (.int .i64)) (by rfl) ?c1 _ 0 _ [] (by rfl) (by simp) ?c2 (by simp) (by unfold maxLen; omega) (by omega) ?c3 ?_
             case c1 => first | exact hown2.out | exact hown2.out.alloc _ | exact (hown2.out.alloc _).alloc _
             case c2 => exact Or.inl rfl
             case c3 => first | exact (show RosS w _ _ _ _ from ‹_›).size | (have := (show RosS w _ _ _ _ from ‹_›).size; simp at this ⊢; omega)
             intro v3 w3 hown3' hG
             simp only [Nat.add_zero, List.append_nil] at hown3'
             have hs2 := Nat.le_trans (show RosS w _ _ _ _ from ‹_›).size hG.1.size
             have hz2 := hG.1.size
             try simp only [World.size_alloc] at hz2
             obtain ⟨a3, c3, rfl, _⟩ := ownsRow_row hown3'
             obtain ⟨_, k1, k2, k3, k4, k5, k6⟩ := id hG
             have hown3 := Lib.hid hown3'
             clear hown3'))
      all_goals
        have hR := show RosS w _ _ _ _ from ‹_›
        go_wp2_with fail
        go_meet
        refine ⟨_, k, c3, a3, rfl, hR, ?_, ?_, ?_, ?_, ?_, ?_, by rw [List.length_eraseIdx, if_pos hk]; omega, ?_⟩
        · clear hR; go_simp; all_goals (refine set_same ?_; go_simp)
        · clear hR; go_simp; all_goals (refine set_same ?_; go_simp)
        · clear hR; go_simp; all_goals (refine set_same ?_; go_simp)
        · clear hR; go_simp
        · omega
        · first | exact k4 _ (by (try simp only [World.size_drew, World.size_alloc]); omega) | exact k3 _ (by (try simp only [World.size_alloc]); omega) (g4 _ (by (try simp only [World.size_drew, World.size_alloc]); omega)) | exact k3 _ (by (try simp only [World.size_drew, World.size_alloc]); omega) (g3 _ (by (try simp only [World.size_drew, World.size_alloc]); omega) (hfn _))
        · rw [List.eraseIdx_eq_take_drop_succ, List.drop_eq_nil_of_le (by omega), List.append_nil]; first | exact hown3.out.alloc _ | (refine own_set3_far hown3.out ?_ _ _ _ _ _ _; first | exact k4 _ (by (try simp only [World.size_drew, World.size_alloc]); omega) | exact k3 _ (by (try simp only [World.size_alloc]); omega) (g4 _ (by (try simp only [World.size_drew, World.size_alloc]); omega)) | exact k3 _ (by (try simp only [World.size_drew, World.size_alloc]); omega) (g3 _ (by (try simp only [World.size_drew, World.size_alloc]); omega) (hfn _)))
    · go_region_held3 (fun w' => w'.cell? ⟨w.heap.size, 0, none⟩ = some (.int .i64 e) ∧ w'.cell? ⟨w.heap.size, 1, none⟩ = some (.slice (some ⟨b, off, none⟩) zs.length c) ∧ w'.cell? ⟨w.heap.size, 2, none⟩ = some (.int .i64 nw) ∧
        w'.cell? ⟨w.heap.size + 1, 0, none⟩ = some (cellD w' ⟨w.heap.size + 1, 0, none⟩) ∧ w'.cell? ⟨w.heap.size + 1, 1, none⟩ = some (cellD w' ⟨w.heap.size + 1, 1, none⟩) ∧ w'.cell? ⟨w.heap.size + 1, 2, none⟩ = some (cellD w' ⟨w.heap.size + 1, 2, none⟩) ∧
        w'.frozen? ⟨w.heap.size + 1, 0, none⟩ = false ∧ w'.frozen? ⟨w.heap.size + 1, 1, none⟩ = false ∧ w'.frozen? ⟨w.heap.size + 1, 2, none⟩ = false ∧ Below w.heap.size w w')
        (first | exact hS.out.keep (Below.refl _ _).drew | exact RosS.keepB (show RosS w _ _ _ _ from ‹_›) hG.1 | exact RosS.keep (show RosS w _ _ _ _ from ‹_›) (below_alloc (Below.refl _ _) _) | exact RosS.keepB (show RosS w _ _ _ _ from ‹_›) (below_realloc (by (try simp only [World.size_drew, World.size_alloc]); omega) _ _) | exact RosS.keepB (show RosS w _ _ _ _ from ‹_›) (below_set3 (Below.refl _ _) (by (try simp only [World.size_drew, World.size_alloc]); omega) _ _ _ _ _ _))
        (first
          | (refine step_append_far (by rfl) _ _ 22 (by rfl) (w.heap.size + 2) 3 _ 1 8 tyInts (.slice none 0 0) 0 [] (by rfl) (World.ownsRow_nil _ _ _ _) (some ⟨b, off, none⟩) k _ ((zs.take k).map (.int .i64)) (by rfl) (by simp; omega) ?c2 (oneCell_ints' (by intro u hu; obtain ⟨x, _, rfl⟩ := List.mem_map.1 hu; exact ⟨x, rfl⟩)) (by unfold maxLen; omega) (by omega) ?c3 ?_
             case c2 => exact (hzH.out.below (show RosS w _ _ _ _ from ‹_›).low (Nat.le_refl _)).takeR k
             case c3 => first | exact (show RosS w _ _ _ _ from ‹_›).size | (have := (show RosS w _ _ _ _ from ‹_›).size; simp at this ⊢; omega)
             intro v2 w2 hown2' hG
             have hs1 := Nat.le_trans (show RosS w _ _ _ _ from ‹_›).size hG.1.size
             have hz1 := hG.1.size
             try simp only [World.size_drew, World.size_alloc] at hz1
             simp only [Nat.zero_add, List.nil_append] at hown2'
             obtain ⟨a2, c2, rfl, _⟩ := ownsRow_row hown2'
             obtain ⟨_, g1, g2, g3, g4, g5, g6⟩ := id hG
             have hown2 := Lib.hid hown2'
             clear hown2')
          | (refine step_append_far (by rfl) _ _ 22 (by rfl) (w.heap.size + 2) 3 _ 1 8 tyInts _ k ((zs.take k).map (.int .i64)) (by rfl) ?c1 _ (zs.length - (k + 1)) _ ((zs.drop (k + 1)).map (.int .i64)) (by rfl) (by simp) ?c2 (oneCell_ints' (by intro u hu; obtain ⟨x, _, rfl⟩ := List.mem_map.1 hu; exact ⟨x, rfl⟩)) (by unfold maxLen; omega) (by omega) ?c3 ?_
             case c1 => first | exact hown2.out | exact hown2.out.alloc _ | exact (hown2.out.alloc _).alloc _
             case c2 => first | exact (hzH.out.below (show RosS w _ _ _ _ from ‹_›).low (Nat.le_refl _)).dropR (k + 1) | exact Or.inl (by rw [List.drop_eq_nil_of_le (by omega)]; rfl)
             case c3 => first | exact (show RosS w _ _ _ _ from ‹_›).size | (have := (show RosS w _ _ _ _ from ‹_›).size; simp at this ⊢; omega)
             intro v3 w3 hown3' hG
             have hs2 := Nat.le_trans (show RosS w _ _ _ _ from ‹_›).size hG.1.size
             have hz2 := hG.1.size
             try simp only [World.size_alloc] at hz2
             obtain ⟨a3, c3, rfl, _⟩ := ownsRow_row hown3'
             obtain ⟨_, k1, k2, k3, k4, k5, k6⟩ := id hG
             have hown3 := Lib.hid hown3'
             clear hown3'))
      all_goals
        have hR := show RosS w _ _ _ _ from ‹_›
        go_wp2_with fail
        go_meet
        refine ⟨_, k + (zs.length - (k + 1)), c3, a3, rfl, hR, ?_, ?_, ?_, ?_, ?_, ?_, by rw [List.length_eraseIdx, if_pos hk]; omega, ?_⟩
        · clear hR; go_simp; all_goals (refine set_same ?_; go_simp)
        · clear hR; go_simp; all_goals (refine set_same ?_; go_simp)
        · clear hR; go_simp; all_goals (refine set_same ?_; go_simp)
        · clear hR; go_simp
        · omega
        · first | exact k4 _ (by (try simp only [World.size_drew, World.size_alloc]); omega) | exact k3 _ (by (try simp only [World.size_alloc]); omega) (g4 _ (by (try simp only [World.size_drew, World.size_alloc]); omega)) | exact k3 _ (by (try simp only [World.size_drew, World.size_alloc]); omega) (g3 _ (by (try simp only [World.size_drew, World.size_alloc]); omega) (hfn _))
        · rw [List.eraseIdx_eq_take_drop_succ, List.map_append]; first | exact hown3.out.alloc _ | (refine own_set3_far hown3.out ?_ _ _ _ _ _ _; first | exact k4 _ (by (try simp only [World.size_drew, World.size_alloc]); omega) | exact k3 _ (by (try simp only [World.size_alloc]); omega) (g4 _ (by (try simp only [World.size_drew, World.size_alloc]); omega)) | exact k3 _ (by (try simp only [World.size_drew, World.size_alloc]); omega) (g3 _ (by (try simp only [World.size_drew, World.size_alloc]); omega) (hfn _)))
  case rest =>
    obtain ⟨H, m, c2, a2, rfl, hR, q0, q1, q2, qf, hHl, hHf, hm', hown⟩ := hcut
    have hz2 : IntsAt wc a2 (zs.eraseIdx k) := own_ints (n := m) (c := c2) (base := w.heap.size + 2) (by rw [OwnI, ← hm']; exact hown)
    have HM := Lib.hid hm'
    clear hm'
    obtain ⟨r0, r1, r2, d0, d1, d2, f0, f1, f2, hlow⟩ := hR
    have z1 : w.heap.size + 1 < wc.heap.size := cell_old d0
    have z2 : w.heap.size < wc.heap.size := by omega
    have z3 : H < wc.heap.size := cell_old q0
    have z4 : ¬ (H = w.heap.size) := by omega
    have z5 : ¬ (H = w.heap.size + 1) := by omega
    have hzl : (zs.eraseIdx k).length ≤ 100 := by rw [List.length_eraseIdx]; split <;> omega
    by_cases hn : nw = n
    · subst hn
      have e2 : newD nw nw = 0 := by simp [newD]
      have E2 := Lib.hid e2
      clear e2
      have HZ := Lib.hid (show IntsAt (wc.setCell ⟨H, 2, none⟩ (.int .i64 0)) a2 (zs.eraseIdx k) from hz2.setFar hHf 2 (.int .i64 0))
      by_cases m2 : mayB (e + 1) (zs.eraseIdx k) 0 = false
      · have M2 := Lib.hid m2
        clear m2
        go_wp2_with (go_at_call 29; refine (mayRoster_any' (e + 1) _ _ _ _ (zs.eraseIdx k) _ (by omega) HZ.out HM.out.symm).mono ?_; rw [M2.out]; rintro e w' ⟨rfl, hb2⟩; obtain ⟨hc2, hf2⟩ := bcell hb2)
        have x0 : w'.cell? ⟨w.heap.size + 1, 0, none⟩ = some (cellD wc ⟨w.heap.size + 1, 0, none⟩) := cell_keep hb2 (by rw [World.cell?_setCell_other _ _ _ _ (by simp only [ne_eq, Addr.mk.injEq]; omega)]; exact d0)
        have x1 : w'.cell? ⟨w.heap.size + 1, 1, none⟩ = some (cellD wc ⟨w.heap.size + 1, 1, none⟩) := cell_keep hb2 (by rw [World.cell?_setCell_other _ _ _ _ (by simp only [ne_eq, Addr.mk.injEq]; omega)]; exact d1)
        have x2 : w'.cell? ⟨w.heap.size + 1, 2, none⟩ = some (cellD wc ⟨w.heap.size + 1, 2, none⟩) := cell_keep hb2 (by rw [World.cell?_setCell_other _ _ _ _ (by simp only [ne_eq, Addr.mk.injEq]; omega)]; exact d2)
        refine bodyPost_ret (v := .tuple #[ros0, .bool false]) (by simp [results, Tryz.results64, go_sem, x0, x1, x2]) rfl (HR.out _ _ ⟨fun h => ?_, fun _ => ⟨rfl, ?_⟩⟩)
        · rw [E2.out, M2.out] at h; cases h
        · exact below_set3 (below_on (hlow.setCell (p := ⟨H, 2, none⟩) (by simp; omega) (.int .i64 0)) hb2) (by omega) _ _ _ _ _ _
      · have m2' : mayB (e + 1) (zs.eraseIdx k) 0 = true := by simpa using m2
        have M2 := Lib.hid m2'
        clear m2 m2'
        go_wp2_with (go_at_call 29; refine (mayRoster_any' (e + 1) _ _ _ _ (zs.eraseIdx k) _ (by omega) HZ.out HM.out.symm).mono ?_; rw [M2.out]; rintro e w' ⟨rfl, hb2⟩; obtain ⟨hc2, hf2⟩ := bcell hb2)
        have x0 : w'.cell? ⟨w.heap.size + 1, 0, none⟩ = some (cellD wc ⟨w.heap.size + 1, 0, none⟩) := cell_keep hb2 (by rw [World.cell?_setCell_other _ _ _ _ (by simp only [ne_eq, Addr.mk.injEq]; omega)]; exact d0)
        have x1 : w'.cell? ⟨w.heap.size + 1, 1, none⟩ = some (cellD wc ⟨w.heap.size + 1, 1, none⟩) := cell_keep hb2 (by rw [World.cell?_setCell_other _ _ _ _ (by simp only [ne_eq, Addr.mk.injEq]; omega)]; exact d1)
        have x2 : w'.cell? ⟨w.heap.size + 1, 2, none⟩ = some (cellD wc ⟨w.heap.size + 1, 2, none⟩) := cell_keep hb2 (by rw [World.cell?_setCell_other _ _ _ _ (by simp only [ne_eq, Addr.mk.injEq]; omega)]; exact d2)
        refine bodyPost_ret (v := .tuple #[.agg #[.int .i64 (e + 1), .slice a2 m c2, .int .i64 0], .bool true]) (by simp [results, Tryz.results64, go_sem, x0, x1, x2]) rfl (HR.out _ _ ⟨fun _ => ⟨_, by rw [E2.out], ?_, ?_⟩, fun h => ?_⟩)
        · rw [OwnI, ← HM.out]
          exact ownsRow_base (own_set3 (b := w.heap.size + 1) (ownsRow_below (own_set_far hown hHf 2 (.int .i64 0)) hb2) (by omega) (.int .i64 (e + 1)) (.slice a2 m c2) (.int .i64 0)) (by omega)
        · exact below_set3 (below_on (hlow.setCell (p := ⟨H, 2, none⟩) (by simp; omega) (.int .i64 0)) hb2) (by omega) _ _ _ _ _ _
        · rw [E2.out, M2.out] at h; cases h
    · have e2 : newD nw n = nw := by simp [newD, hn]
      have E2 := Lib.hid e2
      have hn2 : (nw == n) = false := by simpa using hn
      clear e2 hn
      have HZ := Lib.hid hz2
      by_cases m2 : mayB (e + 1) (zs.eraseIdx k) nw = false
      · have M2 := Lib.hid m2
        clear m2
        go_wp2_with (go_at_call 29; refine (mayRoster_any' (e + 1) _ _ _ _ (zs.eraseIdx k) _ (by omega) HZ.out HM.out.symm).mono ?_; rw [M2.out]; rintro e w' ⟨rfl, hb2⟩; obtain ⟨hc2, hf2⟩ := bcell hb2)
        have x0 := cell_keep hb2 d0
        have x1 := cell_keep hb2 d1
        have x2 := cell_keep hb2 d2
        refine bodyPost_ret (v := .tuple #[ros0, .bool false]) (by simp [results, Tryz.results64, go_sem, x0, x1, x2]) rfl (HR.out _ _ ⟨fun h => ?_, fun _ => ⟨rfl, ?_⟩⟩)
        · rw [E2.out, M2.out] at h; cases h
        · exact below_set3 (below_on hlow hb2) (by omega) _ _ _ _ _ _
      · have m2' : mayB (e + 1) (zs.eraseIdx k) nw = true := by simpa using m2
        have M2 := Lib.hid m2'
        clear m2 m2'
        go_wp2_with (go_at_call 29; refine (mayRoster_any' (e + 1) _ _ _ _ (zs.eraseIdx k) _ (by omega) HZ.out HM.out.symm).mono ?_; rw [M2.out]; rintro e w' ⟨rfl, hb2⟩; obtain ⟨hc2, hf2⟩ := bcell hb2)
        have x0 := cell_keep hb2 d0
        have x1 := cell_keep hb2 d1
        have x2 := cell_keep hb2 d2
        refine bodyPost_ret (v := .tuple #[.agg #[.int .i64 (e + 1), .slice a2 m c2, .int .i64 nw], .bool true]) (by simp [results, Tryz.results64, go_sem, x0, x1, x2]) rfl (HR.out _ _ ⟨fun _ => ⟨_, by rw [E2.out], ?_, ?_⟩, fun h => ?_⟩)
        · rw [OwnI, ← HM.out]
          exact ownsRow_base (own_set3 (b := w.heap.size + 1) (ownsRow_below hown hb2) (by omega) (.int .i64 (e + 1)) (.slice a2 m c2) (.int .i64 nw)) (by omega)
        · exact below_set3 (below_on hlow hb2) (by omega) _ _ _ _ _ _
        · rw [E2.out, M2.out] at h; cases h

end Go.Proofs.YthiphdcbboapkaaGreatDoor

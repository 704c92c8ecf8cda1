/- A chest of the document's: a roll struck. -/
import Derived.Test.YtjblbjamceloaaaGreatDoorVd
namespace Go.Proofs.YtjblbjamceloaaaGreatDoor
open Go.RowKit

set_option maxRecDepth 100000
set_option maxHeartbeats 12800000 in
theorem rout_any {w : World} {d : Nat} {v : Value} {z : Int} {L : List Rl} (H : DocAt w d v z L) (hL : L.length < 900000) (hs : Rising L) (n : Nm) (hn : (lookL n L).isSome = true) :
    Calls Tryz.prog 66 #[.pointer (some ⟨d, 0, none⟩), .int .i64 (placeL n L : Nat)] w fun e w' => e = .returned (.tuple #[]) ∧ ∃ v', DocAt w' d v' z (delL n L) ∧ Only [d] w w' ∧ ∀ q ∈ ownB v', w.heap.size ≤ q := by
  have HP : Hid (delL n L = [] ++ L.take (placeL n L) ++ L.drop (placeL n L + 1)) := Lib.hid (by rw [del_there hs hn]; simp)
  have hkl : placeL n L < L.length := by
    obtain ⟨c, hc⟩ := Option.isSome_iff_exists.1 hn
    exact (List.getElem?_eq_some_iff.1 ((look_place hs c).1 hc)).1
  generalize placeL n L = k at HP hkl
  have HD := Lib.hid H
  clear H hs hn
  obtain ⟨a, c, rfl⟩ := HD.out.rw.slice
  have c1 := HD.out.c1
  have f1 := HD.out.f1
  have hs1 := fun w' => (run_head HD.out.rw (Nat.le_of_lt hkl) w').1
  have HS1 := Lib.hid (run_head HD.out.rw (Nat.le_of_lt hkl) w).2
  obtain ⟨a2, c2, hs2, hsr2, -⟩ := run_tail HD.out.rw (k := k + 1) hkl
  rw [Int.natCast_add] at hs2
  have hs3 : ∀ w', (Instr.slice 85 (.slice a L.length c) (some (.int .i64 ((k : Int) + 1))) none none).run Tryz.prog w' = .ok (.slice a2 (L.length - (k + 1)) c2) w' := hs2
  have HS2 := Lib.hid hsr2
  have hk1 : Hid ((L.take k).length = k) := Lib.hid (by rw [List.length_take]; omega)
  have hk2 : Hid ((L.drop (k + 1)).length = L.length - (k + 1)) := Lib.hid (by rw [List.length_drop])
  have R0 := Lib.hid (RSt.nil (below_drewN (Below.refl w.heap.size w) 1))
  have hwk : IntKind.i64.wrap ((k : Int) + 1) = (k : Int) + 1 := IntWalk.i64_in _ (by omega)
  clear hsr2 hs2
  go_enter Tryz.func66, Tryz.ntmps66
  go_wp2_with fail
  go_region_law (first
    | (refine step_rows rfl _ _ rfl (.slice none 0 0) [] rfl R0.out.rows a k c (L.take k) rfl hk1.out (HS1.out.low R0.out.bl) (by simp; omega) ?_; intro v1 w1 r1 o1 q1; have R1 := Lib.hid (R0.out.step r1 o1 q1); have c1 := cell_keep R1.out.bl HD.out.c1; clear r1 q1 o1)
    | (refine step_rows rfl _ _ rfl v1 ([] ++ L.take k) rfl R1.out.rows a2 (L.length - (k + 1)) c2 (L.drop (k + 1)) rfl hk2.out (HS2.out.low R1.out.bl) (by rw [List.nil_append, hk1.out]; omega) ?_; intro v3 w3 r3 o3 q3; obtain ⟨a3, m3, c3, rfl⟩ := r3.any; have R3 := Lib.hid (R1.out.step r3 o3 q3); have c1 := cell_keep R3.out.bl HD.out.c1; have f1 : w3.frozen? ⟨d, 1, none⟩ = false := (by rw [R3.out.bl.frozen (p := ⟨d, 1, none⟩) HD.out.lt]; exact HD.out.f1); clear r3 q3 o3))
  all_goals
    obtain ⟨g1, g2⟩ := HD.out.store R3.out
    have G1 := Lib.hid g1
    have G2 := Lib.hid g2
    have GL := Lib.hid R3.out.lo
    clear g1 g2
    go_wp2_with fail
    refine bodyPost_end (results_none rfl _ _ _) rfl ?_
    exact ⟨rfl, _, by rw [HP.out]; exact G1.out, G2.out, GL.out⟩
end Go.Proofs.YtjblbjamceloaaaGreatDoor

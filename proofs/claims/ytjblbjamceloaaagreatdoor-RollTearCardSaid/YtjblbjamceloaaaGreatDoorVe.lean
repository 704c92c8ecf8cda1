/- A chest of the document's: a roll put in. -/
import Derived.Test.YtjblbjamceloaaaGreatDoorVd
namespace Go.Proofs.YtjblbjamceloaaaGreatDoor
open Go.RowKit

set_option maxRecDepth 100000
set_option maxHeartbeats 12800000 in
theorem rin_any {w : World} {d : Nat} {v : Value} {z : Int} {L : List Rl} (H : DocAt w d v z L) (hL : L.length < 900000) (hs : Rising L) (n : Nm) (x : Scr) (hn : lookL n L = none) :
    Calls Tryz.prog 65 #[.pointer (some ⟨d, 0, none⟩), .agg #[.string (nmB n), .string x.s, .int .i64 x.p, .bool x.k]] w fun e w' => e = .returned (.tuple #[]) ∧ ∃ v', DocAt w' d v' z (putL n x L) ∧ Only [d] w w' ∧ ∀ q ∈ ownB v', w.heap.size ≤ q := by
  have HP : Hid (putL n x L = [] ++ L.take (placeL n L) ++ [(n, x)] ++ L.drop (placeL n L)) := Lib.hid (by rw [put_new (c := x) hs hn]; simp)
  have hkl := placeL_le n L
  have HA := Lib.hid (fun W (h : DocAt W d v z L) => rat_any h (by omega) hs (nmB n))
  rw [nmB_list, hn, Option.isSome_none] at HA
  generalize placeL n L = k at HP hkl HA
  have HH := Lib.hid H
  clear H hs hn
  go_enter Tryz.func65, Tryz.ntmps65
  go_wp2_with fail
  refine (HA.out _ (HH.out.low (below_alloc (Below.refl _ _) _))).mono ?_
  rintro e W ⟨rfl, hb⟩
  have HW := Lib.hid (below_on (below_alloc (Below.refl w.heap.size w) (.cells #[.string (nmB n), .string x.s, .int .i64 x.p, .bool x.k] 89)) hb)
  have HBx : Hid (BoxR W w.heap.size (nmB n) x) := Lib.hid ⟨cell_keep hb (by simp), cell_keep hb (by simp), cell_keep hb (by simp), cell_keep hb (by simp)⟩
  obtain ⟨b0, b1, b2, b3⟩ := HBx.out
  clear hb
  have HD := Lib.hid (HH.out.low HW.out)
  obtain ⟨a, c, rfl⟩ := HH.out.rw.slice
  have c1 := HD.out.c1
  have f1 := HD.out.f1
  have hs1 := fun w' => (run_head HD.out.rw hkl w').1
  have HS1 := Lib.hid (run_head HD.out.rw hkl W).2
  obtain ⟨a2, c2, hs2, hsr2, -⟩ := run_tail HD.out.rw hkl
  have HS2 := Lib.hid hsr2
  have hk1 : Hid ((L.take k).length = k) := Lib.hid (by rw [List.length_take]; omega)
  have hk2 : Hid ((L.drop k).length = L.length - k) := Lib.hid (by rw [List.length_drop])
  have R0 := Lib.hid (RSt.nil (below_drewN (Below.refl W.heap.size W) 1))
  have ca0 := fun o => cell_keep (below_alloc (Below.refl W.heap.size W) o) HD.out.c1
  clear hsr2 HA
  go_wp2_with fail
  go_region_law (first
    | (refine step_rows rfl _ _ rfl (.slice none 0 0) [] rfl (by first | exact R0.out.rows | exact (R0.out.alloc _).rows) a k c (L.take k) rfl hk1.out (by first | exact HS1.out.low (R0.out.bl) | exact HS1.out.low (R0.out.alloc _).bl) (by simp; omega) ?_; intro v1 w1 r1 o1 q1; have R1 := Lib.hid ((by first | exact R0.out | exact R0.out.alloc _ : RSt W _ _ _).step r1 o1 q1); obtain ⟨b0, b1, b2, b3⟩ := HBx.out.low R1.out.bl; have c1 := cell_keep R1.out.bl HD.out.c1; have ca := (fun o => cell_keep (R1.out.alloc o).bl HD.out.c1); have O1 := Lib.hid o1; clear r1 q1 o1)
    | (refine step_rows rfl _ _ rfl v1 ([] ++ L.take k) rfl (by first | exact R1.out.rows | exact (R1.out.alloc _).rows) _ 1 1 [(n, x)] rfl rfl (by first | exact src_built (n, x) _ | exact (src_built (n, x) _).low (Only.low O1.out)) (by rw [List.nil_append, hk1.out]; omega) ?_; intro v2 w2 r2 o2 q2; have R2 := Lib.hid ((by first | exact R1.out | exact R1.out.alloc _ : RSt W _ _ _).step r2 o2 q2); have c1 := cell_keep R2.out.bl HD.out.c1; clear r2 q2 o2)
    | (refine step_rows rfl _ _ rfl v2 ([] ++ L.take k ++ [(n, x)]) rfl R2.out.rows a2 (L.length - k) c2 (L.drop k) rfl hk2.out (HS2.out.low R2.out.bl) (by rw [List.nil_append, List.length_append, hk1.out]; simp; omega) ?_; intro v3 w3 r3 o3 q3; obtain ⟨a3, m3, c3, rfl⟩ := r3.any; have R3 := Lib.hid (R2.out.step r3 o3 q3); have c1 := cell_keep R3.out.bl HD.out.c1; have f1 : w3.frozen? ⟨d, 1, none⟩ = false := (by rw [R3.out.bl.frozen (p := ⟨d, 1, none⟩) HD.out.lt]; exact HD.out.f1); clear r3 q3 o3))
  all_goals
    obtain ⟨g1, g2⟩ := HD.out.store R3.out
    have G1 := Lib.hid g1
    have G2 := Lib.hid g2
    have GL := Lib.hid R3.out.lo
    clear g1 g2
    go_wp2_with fail
    refine bodyPost_end (results_none rfl _ _ _) rfl ?_
    exact ⟨rfl, _, by rw [HP.out]; exact G1.out, only_far HW.out G2.out, fun q hq => Nat.le_trans HW.out.size (GL.out q hq)⟩
end Go.Proofs.YtjblbjamceloaaaGreatDoor

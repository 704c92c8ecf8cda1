/- A chest of the document's: a roll cut, where it may be. -/
import Derived.Test.YtjblbjamceloaaaGreatDoorVh
namespace Go.Proofs.YtjblbjamceloaaaGreatDoor
open Go.RowKit

set_option maxRecDepth 100000
set_option maxHeartbeats 6400000 in
theorem rcut_good {w : World} {d : Nat} {v : Value} {z : Int} {L : List Rl} (HD : Hid (DocAt w d v z L)) (n : ByteArray) {k : Nat} (HAt : Hid (∀ W, DocAt W d v z L → Calls Tryz.prog 64 #[.pointer (some ⟨d, 0, none⟩), .string n] W fun e w' => e = .returned (.tuple #[.int .i64 (k : Int), .bool true]) ∧ Below W.heap.size W w'))
    (hkl : k < L.length) {nm : Nm} {c : Scr} (HKC : Hid (L[k]? = some (nm, c))) (tn : Nat) (h1 : decide ((tn : Int) < 0) = false) (_h2 : decide ((c.s.size : Int) < (tn : Int)) = false) (h3 : decide (c.s.size < tn) = false) (P : ByteArray)
    (hslc : ∀ w, (Instr.slice 9 (.string c.s) none (some (.int .i64 (tn : Int))) none).run Tryz.prog w = .ok (.string P) w) (mn : Int) (hmn : min c.p (tn : Int) = mn) {L' : List Rl} (HL' : Hid (L.set k (nm, ⟨P, mn, true⟩) = L')) :
    Calls Tryz.prog 48 #[.pointer (some ⟨d, 0, none⟩), .string n, .int .i64 (tn : Int)] w (DocR w d v 0 z L') := by
  go_enter Tryz.func48, Tryz.ntmps48
  go_wp2_with fail
  refine (HAt.out _ HD.out).mono ?_
  rintro e w2 ⟨rfl, hb⟩
  have HD2 := Lib.hid (HD.out.low hb)
  have HB := Lib.hid hb
  obtain ⟨q, cap, rfl, g0, g1, g2, g3, gf⟩ := HD2.out.rw.get HKC.out
  have c1 := HD2.out.c1
  have gf1 := gf (k * 4 + 1)
  have gf2 := gf (k * 4 + 2)
  have gf3 := gf (k * 4 + 3)
  have HF1 := HD2.out.field HKC.out (j := 1) (by omega) (u := .string P) (y := (nm, ⟨P, c.p, c.k⟩)) rfl
  have HF2 := HF1.field (set_get HKC.out) (j := 2) (by omega) (u := .int .i64 mn) (y := (nm, ⟨P, mn, c.k⟩)) rfl
  have HF3 := Lib.hid (HF2.field (set_get (set_get HKC.out)) (j := 3) (by omega) (u := .bool true) (y := (nm, ⟨P, mn, true⟩)) rfl)
  have HE3 : Hid (((L.set k (nm, (⟨P, c.p, c.k⟩ : Scr))).set k (nm, ⟨P, mn, c.k⟩)).set k (nm, ⟨P, mn, true⟩) = L') := Lib.hid (by rw [List.set_set, List.set_set]; exact HL'.out)
  clear hb HF1 HF2 gf HAt HD2
  go_wp2_with fail
  clear g0
  go_region
  all_goals
    go_wp2_with fail
    go_ret
    exact ⟨rfl, _, by rw [← HE3.out]; exact HF3.out.low (below_drewN (Below.refl _ _) 1), (((((Only.of_below HB.out).setCell (Or.inl (by rw [ownB_some]; simp)) _).setCell (Or.inl (by rw [ownB_some]; simp)) _).setCell (Or.inl (by rw [ownB_some]; simp)) _).join (Only.of_below (S := []) (below_drewN (Below.refl _ _) 1)) (fun i hi => by simp at hi)), fun q hq => Or.inl hq⟩
end Go.Proofs.YtjblbjamceloaaaGreatDoor

/- The closed call: begun. -/
import Derived.Test.YtehplflhaegkbaaGreatDoorRoI
namespace Go.Proofs.YtehplflhaegkbaaGreatDoor
open Go.RowKit

def z24 : List Int := [2, 4]
def z241 : List Int := [2, 4, 1]
def z41 : List Int := [4, 1]
theorem may_z24 : mayB 1 z24 0 = true := by decide
theorem may_z24n : mayB 1 z24 4 = true := by decide
theorem may_z241 : mayB 2 z241 1 = true := by decide
theorem may_z41 : mayB 3 z41 1 = true := by decide
theorem may9_no : mayB 2 (z24.eraseIdx 0) (newD 4 2) = false := by decide
theorem idx_a : idx z241 2 = 0 := by decide
theorem idx_b : idx z24 2 = 0 := by decide
theorem b_may (a : Option Addr) (c : Nat) (w : World) (hz : IntsAt w a z24) :
    Calls Tryz.prog 36 #[.agg #[.int .i64 1, .slice a 2 c, .int .i64 0]] w fun e w' => e = .returned (.bool true) ∧ Below w.heap.size w w' :=
  (may_any 1 0 a c z24 w (by decide) hz).mono fun e w' h => ⟨h.1.trans (by rw [show mayB 1 z24 0 = true from by decide]), h.2⟩
theorem b_has4 (a : Option Addr) (c : Nat) (w : World) (hz : IntsAt w a z24) :
    Calls Tryz.prog 37 #[.agg #[.int .i64 1, .slice a 2 c, .int .i64 0], .int .i64 4] w fun e w' => e = .returned (.bool true) ∧ Below w.heap.size w w' :=
  (has_any 1 0 4 a c z24 w (by decide) hz).mono fun e w' h => ⟨h.1.trans (by rw [show decide (0 ≤ idx z24 4) = true from by decide]), h.2⟩
theorem b_has1 (a : Option Addr) (c : Nat) (w : World) (hz : IntsAt w a z24) :
    Calls Tryz.prog 37 #[.agg #[.int .i64 1, .slice a 2 c, .int .i64 0], .int .i64 1] w fun e w' => e = .returned (.bool false) ∧ Below w.heap.size w w' :=
  (has_any 1 0 1 a c z24 w (by decide) hz).mono fun e w' h => ⟨h.1.trans (by rw [show decide (0 ≤ idx z24 1) = false from by decide]), h.2⟩
theorem b_head (a : Option Addr) (c : Nat) (w : World) (hz : IntsAt w a z24) :
    Calls Tryz.prog 38 #[.agg #[.int .i64 1, .slice a 2 c, .int .i64 0]] w fun e w' => e = .returned (.int .i64 2) ∧ Below w.heap.size w w' :=
  (head_any 1 0 a c z24 w (by decide) hz).mono fun e w' h => ⟨h.1.trans (by rw [show atI z24 0 = 2 from by decide]), h.2⟩
theorem b_tail (a : Option Addr) (c : Nat) (w : World) (hz : IntsAt w a z24) :
    Calls Tryz.prog 39 #[.agg #[.int .i64 1, .slice a 2 c, .int .i64 0]] w fun e w' => e = .returned (.int .i64 4) ∧ Below w.heap.size w w' :=
  (tail_any 1 0 a c z24 w (by decide) hz).mono fun e w' h => ⟨h.1.trans (by rw [show atI z24 (z24.length - 1) = 4 from by decide]), h.2⟩
theorem b_next (a : Option Addr) (c : Nat) (w : World) (hz : IntsAt w a z24) :
    Calls Tryz.prog 40 #[.agg #[.int .i64 1, .slice a 2 c, .int .i64 0], .int .i64 2] w fun e w' => e = .returned (.int .i64 4) ∧ Below w.heap.size w w' :=
  (next_any 1 0 2 a c z24 w (by decide) hz).mono fun e w' h => ⟨h.1.trans (by rw [show nextI z24 2 = 4 from by decide]), h.2⟩
theorem b_ahead (a : Option Addr) (c : Nat) (w : World) (hz : IntsAt w a z24) :
    Calls Tryz.prog 41 #[.agg #[.int .i64 1, .slice a 2 c, .int .i64 0], .int .i64 2] w fun e w' => e = .returned (.int .i64 0) ∧ Below w.heap.size w w' :=
  (ahead_any 1 0 2 a c z24 w (by decide) hz).mono fun e w' h => ⟨h.1.trans (by rw [show atI z24 (idx z24 2 - 1) = 0 from by decide]), h.2⟩
theorem b_may0 (w : World) :
    Calls Tryz.prog 36 #[.agg #[.int .i64 0, .slice none 0 0, .int .i64 0]] w fun e w' => e = .returned (.bool false) ∧ Below w.heap.size w w' :=
  (may_any 0 0 none 0 [] w (by decide) (Or.inl rfl)).mono fun e w' h => ⟨h.1.trans (by rw [show mayB 0 [] 0 = false from by decide]), h.2⟩
/-- A roster comes back. -/
def BegR (w : World) (e nw : Int) (zs : List Int) (m : Nat) (e' : Ending) (w' : World) : Prop := ∃ a c, e' = .returned (.tuple #[.agg #[.int .i64 e, .slice a m c, .int .i64 nw], .bool true]) ∧ IntsAt w' a zs ∧ Below w.heap.size w w'
theorem b_add (a : Option Addr) (c : Nat) (w : World) (hz : IntsAt w a z24) :
    Calls Tryz.prog 34 #[.agg #[.int .i64 1, .slice a 2 c, .int .i64 0], .int .i64 1] w (BegR w 2 1 z241 3) :=
  (add_yes 1 1 a c z24 w hz may_z24 (by decide) (by decide) may_z241).mono fun e w' h => by
    obtain ⟨v, h1, h2, h3⟩ := h
    obtain ⟨a2, c2, rfl, h4⟩ := ownI_ros h2
    exact ⟨a2, c2, h1, h4, h3⟩
theorem b_drop (a : Option Addr) (c : Nat) (w : World) (hz : IntsAt w a z241) :
    Calls Tryz.prog 35 #[.agg #[.int .i64 2, .slice a 3 c, .int .i64 1], .int .i64 2] w (BegR w 3 1 z41 2) :=
  (drop_yes 2 1 2 0 a c z241 w hz may_z241 (by decide) (by decide) (by decide) idx_a may_z41).mono fun e w' h => by
    obtain ⟨v, h1, h2, h3⟩ := h
    obtain ⟨a2, c2, rfl, h4⟩ := ownI_ros h2
    exact ⟨a2, c2, h1, h4, h3⟩
theorem b_addno (a : Option Addr) (c : Nat) (w : World) (hz : IntsAt w a z241) :
    Calls Tryz.prog 34 #[.agg #[.int .i64 2, .slice a 3 c, .int .i64 1], .int .i64 5] w fun e w' => e = .returned (.tuple #[ros0, .bool false]) ∧ Below w.heap.size w w' :=
  add9_no 2 1 5 a c z241 w (by decide) hz (Or.inr (by decide))
theorem b_dropno (a : Option Addr) (c : Nat) (w : World) (hz : IntsAt w a z24) :
    Calls Tryz.prog 35 #[.agg #[.int .i64 1, .slice a 2 c, .int .i64 4], .int .i64 2] w fun e w' => e = .returned (.tuple #[ros0, .bool false]) ∧ Below w.heap.size w w' :=
  drop_no2 1 4 2 0 a c z24 w hz may_z24n (by decide) (by decide) (by decide) idx_b may9_no

theorem ints_lit (w : World) (t : TypeId) : IntsAt (w.alloc (.cells #[.int .i64 2, .int .i64 4] t)) (some ⟨w.heap.size, 0, none⟩) z24 := by
  refine Or.inr ⟨_, 0, rfl, by simp, fun j hj => ?_⟩
  have hj2 : j < 2 := hj
  have : j = 0 ∨ j = 1 := by omega
  rcases this with rfl | rfl <;> simp [z24, nthI]
theorem ints_lit' (w : World) (t : TypeId) (B : Nat) (h : w.heap.size = B) : IntsAt (w.alloc (.cells #[.int .i64 2, .int .i64 4] t)) (some ⟨B, 0, none⟩) z24 := by
  subst h; exact ints_lit w t

set_option maxRecDepth 100000 in
set_option maxHeartbeats 3200000 in
theorem begun9_any (w : World) : Calls Tryz.prog 23 #[] w fun e w' => e = .returned (.bool true) ∧ Below w.heap.size w w' := by
  have hi0 := Lib.hid (ints_lit w 3)
  go_enter Tryz.func23, Tryz.ntmps23
  go_wp2_with fail
  refine (b_add _ _ _ (hi0.out.alloc _)).mono ?_
  rintro e w1 ⟨a1, c1, rfl, hy, hb⟩
  have r0 := cell_keep hb (a := ⟨w.heap.size + 1, 0, none⟩) (v := .int .i64 1) (by simp [go_sem, ])
  have r1 := cell_keep hb (a := ⟨w.heap.size + 1, 1, none⟩) (v := .slice (some ⟨w.heap.size, 0, none⟩) 2 2) (by simp [go_sem, ])
  have r2 := cell_keep hb (a := ⟨w.heap.size + 1, 2, none⟩) (v := .int .i64 0) (by simp [go_sem, ])
  have z1 : w.heap.size + 1 < w1.heap.size := cell_old r0
  have Hx := Lib.hid ((hi0.out.alloc _).keep hb)
  have Hy := Lib.hid hy
  have HL : Hid (Below w.heap.size w w1) := below_on (below_alloc (below_alloc (Below.refl _ _) _) _) hb
  clear hy hb hi0
  go_wp2_with fail
  refine (b_drop _ _ _ (Hy.out.alloc _)).mono ?_
  rintro e w2 ⟨a2, c2, rfl, hy2, hb⟩
  have r0 := cell_keep hb (a := ⟨w.heap.size + 1, 0, none⟩) (v := .int .i64 1) (by simp [go_sem, r0, z1])
  have r1 := cell_keep hb (a := ⟨w.heap.size + 1, 1, none⟩) (v := .slice (some ⟨w.heap.size, 0, none⟩) 2 2) (by simp [go_sem, r1, z1])
  have r2 := cell_keep hb (a := ⟨w.heap.size + 1, 2, none⟩) (v := .int .i64 0) (by simp [go_sem, r2, z1])
  have s0 := cell_keep hb (a := ⟨w1.heap.size, 0, none⟩) (v := .int .i64 2) (by simp [go_sem])
  have s1 := cell_keep hb (a := ⟨w1.heap.size, 1, none⟩) (v := .slice a1 3 c1) (by simp [go_sem])
  have s2 := cell_keep hb (a := ⟨w1.heap.size, 2, none⟩) (v := .int .i64 1) (by simp [go_sem])
  have z2 : w.heap.size + 1 < w2.heap.size := cell_old r0
  have y2 : w1.heap.size < w2.heap.size := cell_old s0
  replace Hx := Lib.hid ((Hx.out.alloc _).keep hb)
  replace Hy := Lib.hid ((Hy.out.alloc _).keep hb)
  replace HL : Hid (Below w.heap.size w w2) := below_on (below_alloc HL.out _) hb
  clear hy2 hb z1
  go_wp2_with fail
  refine (b_addno _ _ _ (Hy.out.alloc _)).mono ?_
  rintro e w3 ⟨rfl, hb⟩
  have r0 := cell_keep hb (a := ⟨w.heap.size + 1, 0, none⟩) (v := .int .i64 1) (by simp [go_sem, r0, z2])
  have r1 := cell_keep hb (a := ⟨w.heap.size + 1, 1, none⟩) (v := .slice (some ⟨w.heap.size, 0, none⟩) 2 2) (by simp [go_sem, r1, z2])
  have r2 := cell_keep hb (a := ⟨w.heap.size + 1, 2, none⟩) (v := .int .i64 0) (by simp [go_sem, r2, z2])
  have s0 := cell_keep hb (a := ⟨w1.heap.size, 0, none⟩) (v := .int .i64 2) (by simp [go_sem, s0, y2])
  have s1 := cell_keep hb (a := ⟨w1.heap.size, 1, none⟩) (v := .slice a1 3 c1) (by simp [go_sem, s1, y2])
  have s2 := cell_keep hb (a := ⟨w1.heap.size, 2, none⟩) (v := .int .i64 1) (by simp [go_sem, s2, y2])
  have t0 := cell_keep hb (a := ⟨w2.heap.size, 0, none⟩) (v := .int .i64 3) (by simp [go_sem])
  have t1 := cell_keep hb (a := ⟨w2.heap.size, 1, none⟩) (v := .slice a2 2 c2) (by simp [go_sem])
  have t2 := cell_keep hb (a := ⟨w2.heap.size, 2, none⟩) (v := .int .i64 1) (by simp [go_sem])
  have z3 : w.heap.size + 1 < w3.heap.size := cell_old r0
  have y3 : w1.heap.size < w3.heap.size := cell_old s0
  have x3 : w2.heap.size < w3.heap.size := cell_old t0
  replace Hx := Lib.hid ((Hx.out.alloc _).keep hb)
  replace HL : Hid (Below w.heap.size w w3) := below_on (below_alloc HL.out _) hb
  clear Hy hb z2 y2
  go_wp2_with fail
  have z3' : w.heap.size + 1 < w3.heap.size + 1 := by omega
  have y3' : w1.heap.size < w3.heap.size + 1 := by omega
  have x3' : w2.heap.size < w3.heap.size + 1 := by omega
  refine (b_dropno _ _ _ ?_).mono ?_
  · exact ints_lit' _ _ _ (by simp)
  rintro e w4 ⟨rfl, hb⟩
  have r0 := cell_keep hb (a := ⟨w.heap.size + 1, 0, none⟩) (v := .int .i64 1) (by simp [go_sem, r0, z3, z3'])
  have r1 := cell_keep hb (a := ⟨w.heap.size + 1, 1, none⟩) (v := .slice (some ⟨w.heap.size, 0, none⟩) 2 2) (by simp [go_sem, r1, z3, z3'])
  have r2 := cell_keep hb (a := ⟨w.heap.size + 1, 2, none⟩) (v := .int .i64 0) (by simp [go_sem, r2, z3, z3'])
  have s0 := cell_keep hb (a := ⟨w1.heap.size, 0, none⟩) (v := .int .i64 2) (by simp [go_sem, s0, y3, y3'])
  have s1 := cell_keep hb (a := ⟨w1.heap.size, 1, none⟩) (v := .slice a1 3 c1) (by simp [go_sem, s1, y3, y3'])
  have s2 := cell_keep hb (a := ⟨w1.heap.size, 2, none⟩) (v := .int .i64 1) (by simp [go_sem, s2, y3, y3'])
  have t0 := cell_keep hb (a := ⟨w2.heap.size, 0, none⟩) (v := .int .i64 3) (by simp [go_sem, t0, x3, x3'])
  have t1 := cell_keep hb (a := ⟨w2.heap.size, 1, none⟩) (v := .slice a2 2 c2) (by simp [go_sem, t1, x3, x3'])
  have t2 := cell_keep hb (a := ⟨w2.heap.size, 2, none⟩) (v := .int .i64 1) (by simp [go_sem, t2, x3, x3'])
  have z4 : w.heap.size + 1 < w4.heap.size := cell_old r0
  have y4 : w1.heap.size < w4.heap.size := cell_old s0
  have x4 : w2.heap.size < w4.heap.size := cell_old t0
  replace Hx := Lib.hid (((Hx.out.alloc _).alloc _).keep hb)
  replace HL : Hid (Below w.heap.size w w4) := below_on (below_alloc (below_alloc HL.out _) _) hb
  clear hb z3 y3 x3 z3' y3' x3'
  go_wp2_with fail
  refine (b_may _ _ _ (Hx.out.alloc _)).mono ?_
  rintro e w5 ⟨rfl, hb⟩
  have r0 := cell_keep hb (a := ⟨w.heap.size + 1, 0, none⟩) (v := .int .i64 1) (by simp [go_sem, r0, z4])
  have r1 := cell_keep hb (a := ⟨w.heap.size + 1, 1, none⟩) (v := .slice (some ⟨w.heap.size, 0, none⟩) 2 2) (by simp [go_sem, r1, z4])
  have r2 := cell_keep hb (a := ⟨w.heap.size + 1, 2, none⟩) (v := .int .i64 0) (by simp [go_sem, r2, z4])
  have s0 := cell_keep hb (a := ⟨w1.heap.size, 0, none⟩) (v := .int .i64 2) (by simp [go_sem, s0, y4])
  have s1 := cell_keep hb (a := ⟨w1.heap.size, 1, none⟩) (v := .slice a1 3 c1) (by simp [go_sem, s1, y4])
  have s2 := cell_keep hb (a := ⟨w1.heap.size, 2, none⟩) (v := .int .i64 1) (by simp [go_sem, s2, y4])
  have t0 := cell_keep hb (a := ⟨w2.heap.size, 0, none⟩) (v := .int .i64 3) (by simp [go_sem, t0, x4])
  have t1 := cell_keep hb (a := ⟨w2.heap.size, 1, none⟩) (v := .slice a2 2 c2) (by simp [go_sem, t1, x4])
  have t2 := cell_keep hb (a := ⟨w2.heap.size, 2, none⟩) (v := .int .i64 1) (by simp [go_sem, t2, x4])
  replace Hx := Lib.hid ((Hx.out.alloc _).keep hb)
  replace HL : Hid (Below w.heap.size w w5) := below_on (below_alloc HL.out _) hb
  clear z4 y4 x4
  clear hb
  go_wp2_with fail
  refine (b_may0 _).mono ?_
  rintro e w6 ⟨rfl, hb⟩
  have r0 := cell_keep hb (a := ⟨w.heap.size + 1, 0, none⟩) (v := .int .i64 1) r0
  have r1 := cell_keep hb (a := ⟨w.heap.size + 1, 1, none⟩) (v := .slice (some ⟨w.heap.size, 0, none⟩) 2 2) r1
  have r2 := cell_keep hb (a := ⟨w.heap.size + 1, 2, none⟩) (v := .int .i64 0) r2
  have s0 := cell_keep hb (a := ⟨w1.heap.size, 0, none⟩) (v := .int .i64 2) s0
  have s1 := cell_keep hb (a := ⟨w1.heap.size, 1, none⟩) (v := .slice a1 3 c1) s1
  have s2 := cell_keep hb (a := ⟨w1.heap.size, 2, none⟩) (v := .int .i64 1) s2
  have t0 := cell_keep hb (a := ⟨w2.heap.size, 0, none⟩) (v := .int .i64 3) t0
  have t1 := cell_keep hb (a := ⟨w2.heap.size, 1, none⟩) (v := .slice a2 2 c2) t1
  have t2 := cell_keep hb (a := ⟨w2.heap.size, 2, none⟩) (v := .int .i64 1) t2
  replace Hx := Lib.hid (Hx.out.keep hb)
  replace HL : Hid (Below w.heap.size w w6) := below_on HL.out hb
  clear hb
  go_wp2_with fail
  refine (b_has4 _ _ _ Hx.out).mono ?_
  rintro e w7 ⟨rfl, hb⟩
  have r0 := cell_keep hb (a := ⟨w.heap.size + 1, 0, none⟩) (v := .int .i64 1) r0
  have r1 := cell_keep hb (a := ⟨w.heap.size + 1, 1, none⟩) (v := .slice (some ⟨w.heap.size, 0, none⟩) 2 2) r1
  have r2 := cell_keep hb (a := ⟨w.heap.size + 1, 2, none⟩) (v := .int .i64 0) r2
  have s0 := cell_keep hb (a := ⟨w1.heap.size, 0, none⟩) (v := .int .i64 2) s0
  have s1 := cell_keep hb (a := ⟨w1.heap.size, 1, none⟩) (v := .slice a1 3 c1) s1
  have s2 := cell_keep hb (a := ⟨w1.heap.size, 2, none⟩) (v := .int .i64 1) s2
  have t0 := cell_keep hb (a := ⟨w2.heap.size, 0, none⟩) (v := .int .i64 3) t0
  have t1 := cell_keep hb (a := ⟨w2.heap.size, 1, none⟩) (v := .slice a2 2 c2) t1
  have t2 := cell_keep hb (a := ⟨w2.heap.size, 2, none⟩) (v := .int .i64 1) t2
  replace Hx := Lib.hid (Hx.out.keep hb)
  replace HL : Hid (Below w.heap.size w w7) := below_on HL.out hb
  clear hb
  go_wp2_with fail
  refine (b_has1 _ _ _ Hx.out).mono ?_
  rintro e w8 ⟨rfl, hb⟩
  have r0 := cell_keep hb (a := ⟨w.heap.size + 1, 0, none⟩) (v := .int .i64 1) r0
  have r1 := cell_keep hb (a := ⟨w.heap.size + 1, 1, none⟩) (v := .slice (some ⟨w.heap.size, 0, none⟩) 2 2) r1
  have r2 := cell_keep hb (a := ⟨w.heap.size + 1, 2, none⟩) (v := .int .i64 0) r2
  have s0 := cell_keep hb (a := ⟨w1.heap.size, 0, none⟩) (v := .int .i64 2) s0
  have s1 := cell_keep hb (a := ⟨w1.heap.size, 1, none⟩) (v := .slice a1 3 c1) s1
  have s2 := cell_keep hb (a := ⟨w1.heap.size, 2, none⟩) (v := .int .i64 1) s2
  have t0 := cell_keep hb (a := ⟨w2.heap.size, 0, none⟩) (v := .int .i64 3) t0
  have t1 := cell_keep hb (a := ⟨w2.heap.size, 1, none⟩) (v := .slice a2 2 c2) t1
  have t2 := cell_keep hb (a := ⟨w2.heap.size, 2, none⟩) (v := .int .i64 1) t2
  replace Hx := Lib.hid (Hx.out.keep hb)
  replace HL : Hid (Below w.heap.size w w8) := below_on HL.out hb
  clear hb
  go_wp2_with fail
  refine (b_head _ _ _ Hx.out).mono ?_
  rintro e w9 ⟨rfl, hb⟩
  have r0 := cell_keep hb (a := ⟨w.heap.size + 1, 0, none⟩) (v := .int .i64 1) r0
  have r1 := cell_keep hb (a := ⟨w.heap.size + 1, 1, none⟩) (v := .slice (some ⟨w.heap.size, 0, none⟩) 2 2) r1
  have r2 := cell_keep hb (a := ⟨w.heap.size + 1, 2, none⟩) (v := .int .i64 0) r2
  have s0 := cell_keep hb (a := ⟨w1.heap.size, 0, none⟩) (v := .int .i64 2) s0
  have s1 := cell_keep hb (a := ⟨w1.heap.size, 1, none⟩) (v := .slice a1 3 c1) s1
  have s2 := cell_keep hb (a := ⟨w1.heap.size, 2, none⟩) (v := .int .i64 1) s2
  have t0 := cell_keep hb (a := ⟨w2.heap.size, 0, none⟩) (v := .int .i64 3) t0
  have t1 := cell_keep hb (a := ⟨w2.heap.size, 1, none⟩) (v := .slice a2 2 c2) t1
  have t2 := cell_keep hb (a := ⟨w2.heap.size, 2, none⟩) (v := .int .i64 1) t2
  replace Hx := Lib.hid (Hx.out.keep hb)
  replace HL : Hid (Below w.heap.size w w9) := below_on HL.out hb
  clear hb
  go_wp2_with fail
  refine (b_tail _ _ _ Hx.out).mono ?_
  rintro e w10 ⟨rfl, hb⟩
  have r0 := cell_keep hb (a := ⟨w.heap.size + 1, 0, none⟩) (v := .int .i64 1) r0
  have r1 := cell_keep hb (a := ⟨w.heap.size + 1, 1, none⟩) (v := .slice (some ⟨w.heap.size, 0, none⟩) 2 2) r1
  have r2 := cell_keep hb (a := ⟨w.heap.size + 1, 2, none⟩) (v := .int .i64 0) r2
  have s0 := cell_keep hb (a := ⟨w1.heap.size, 0, none⟩) (v := .int .i64 2) s0
  have s1 := cell_keep hb (a := ⟨w1.heap.size, 1, none⟩) (v := .slice a1 3 c1) s1
  have s2 := cell_keep hb (a := ⟨w1.heap.size, 2, none⟩) (v := .int .i64 1) s2
  have t0 := cell_keep hb (a := ⟨w2.heap.size, 0, none⟩) (v := .int .i64 3) t0
  have t1 := cell_keep hb (a := ⟨w2.heap.size, 1, none⟩) (v := .slice a2 2 c2) t1
  have t2 := cell_keep hb (a := ⟨w2.heap.size, 2, none⟩) (v := .int .i64 1) t2
  replace Hx := Lib.hid (Hx.out.keep hb)
  replace HL : Hid (Below w.heap.size w w10) := below_on HL.out hb
  clear hb
  go_wp2_with fail
  refine (b_next _ _ _ Hx.out).mono ?_
  rintro e w11 ⟨rfl, hb⟩
  have r0 := cell_keep hb (a := ⟨w.heap.size + 1, 0, none⟩) (v := .int .i64 1) r0
  have r1 := cell_keep hb (a := ⟨w.heap.size + 1, 1, none⟩) (v := .slice (some ⟨w.heap.size, 0, none⟩) 2 2) r1
  have r2 := cell_keep hb (a := ⟨w.heap.size + 1, 2, none⟩) (v := .int .i64 0) r2
  have s0 := cell_keep hb (a := ⟨w1.heap.size, 0, none⟩) (v := .int .i64 2) s0
  have s1 := cell_keep hb (a := ⟨w1.heap.size, 1, none⟩) (v := .slice a1 3 c1) s1
  have s2 := cell_keep hb (a := ⟨w1.heap.size, 2, none⟩) (v := .int .i64 1) s2
  have t0 := cell_keep hb (a := ⟨w2.heap.size, 0, none⟩) (v := .int .i64 3) t0
  have t1 := cell_keep hb (a := ⟨w2.heap.size, 1, none⟩) (v := .slice a2 2 c2) t1
  have t2 := cell_keep hb (a := ⟨w2.heap.size, 2, none⟩) (v := .int .i64 1) t2
  replace Hx := Lib.hid (Hx.out.keep hb)
  replace HL : Hid (Below w.heap.size w w11) := below_on HL.out hb
  clear hb
  go_wp2_with fail
  refine (b_ahead _ _ _ Hx.out).mono ?_
  rintro e w12 ⟨rfl, hb⟩
  have r0 := cell_keep hb (a := ⟨w.heap.size + 1, 0, none⟩) (v := .int .i64 1) r0
  have r1 := cell_keep hb (a := ⟨w.heap.size + 1, 1, none⟩) (v := .slice (some ⟨w.heap.size, 0, none⟩) 2 2) r1
  have r2 := cell_keep hb (a := ⟨w.heap.size + 1, 2, none⟩) (v := .int .i64 0) r2
  have s0 := cell_keep hb (a := ⟨w1.heap.size, 0, none⟩) (v := .int .i64 2) s0
  have s1 := cell_keep hb (a := ⟨w1.heap.size, 1, none⟩) (v := .slice a1 3 c1) s1
  have s2 := cell_keep hb (a := ⟨w1.heap.size, 2, none⟩) (v := .int .i64 1) s2
  have t0 := cell_keep hb (a := ⟨w2.heap.size, 0, none⟩) (v := .int .i64 3) t0
  have t1 := cell_keep hb (a := ⟨w2.heap.size, 1, none⟩) (v := .slice a2 2 c2) t1
  have t2 := cell_keep hb (a := ⟨w2.heap.size, 2, none⟩) (v := .int .i64 1) t2
  replace Hx := Lib.hid (Hx.out.keep hb)
  replace HL : Hid (Below w.heap.size w w12) := below_on HL.out hb
  clear hb
  go_wp2_with fail
  go_ret
  exact ⟨rfl, HL.out⟩

end Go.Proofs.YtehplflhaegkbaaGreatDoor

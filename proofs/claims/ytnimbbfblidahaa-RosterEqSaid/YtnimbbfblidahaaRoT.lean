/- RosterEq: the walk. -/
import Derived.Test.YtnimbbfblidahaaRoM
import Derived.Deep.CutBlock
namespace Go.Proofs.Ytnimbbfblidahaa
open Go.RowKit

/-- Two rosters in two boxes, as they came in. -/
def TwoIn (B : Nat) (w : World) (e0 n0 e1 n1 : Int) (a0 a1 : Option Addr) (c0 c1 : Nat) (z0 z1 : List Int) (W : World) : Prop :=
  W.cell? ⟨B, 0, none⟩ = some (.int .i64 e0) ∧ W.cell? ⟨B, 1, none⟩ = some (.slice a0 z0.length c0) ∧ W.cell? ⟨B, 2, none⟩ = some (.int .i64 n0) ∧
  W.cell? ⟨B + 1, 0, none⟩ = some (.int .i64 e1) ∧ W.cell? ⟨B + 1, 1, none⟩ = some (.slice a1 z1.length c1) ∧ W.cell? ⟨B + 1, 2, none⟩ = some (.int .i64 n1) ∧
  W.frozen? ⟨B, 0, none⟩ = false ∧ W.frozen? ⟨B, 1, none⟩ = false ∧ W.frozen? ⟨B, 2, none⟩ = false ∧
  W.frozen? ⟨B + 1, 0, none⟩ = false ∧ W.frozen? ⟨B + 1, 1, none⟩ = false ∧ W.frozen? ⟨B + 1, 2, none⟩ = false ∧
  IntsAt W a0 z0 ∧ IntsAt W a1 z1 ∧ Below w.heap.size w W
theorem TwoIn.keep {B : Nat} {w : World} {e0 n0 e1 n1 : Int} {a0 a1 : Option Addr} {c0 c1 : Nat} {z0 z1 : List Int} {W W' : World} (h : TwoIn B w e0 n0 e1 n1 a0 a1 c0 c1 z0 z1 W) (hb : Below W.heap.size W W') : TwoIn B w e0 n0 e1 n1 a0 a1 c0 c1 z0 z1 W' := by
  obtain ⟨x0, x1, x2, y0, y1, y2, f0, f1, f2, g0, g1, g2, i0, i1, hl⟩ := h
  exact ⟨cell_keep hb x0, cell_keep hb x1, cell_keep hb x2, cell_keep hb y0, cell_keep hb y1, cell_keep hb y2, frozen_keep hb x0 f0, frozen_keep hb x1 f1, frozen_keep hb x2 f2, frozen_keep hb y0 g0, frozen_keep hb y1 g1, frozen_keep hb y2 g2, i0.keep hb, i1.keep hb, below_on hl hb⟩
theorem TwoIn.start (w : World) (e0 n0 e1 n1 : Int) (a0 a1 : Option Addr) (c0 c1 : Nat) (z0 z1 : List Int) (t : TypeId) (h0 : IntsAt w a0 z0) (h1 : IntsAt w a1 z1) :
    TwoIn w.heap.size w e0 n0 e1 n1 a0 a1 c0 c1 z0 z1 ((w.alloc (.cells #[.int .i64 e0, .slice a0 z0.length c0, .int .i64 n0] t)).alloc (.cells #[.int .i64 e1, .slice a1 z1.length c1, .int .i64 n1] t)) := by
  refine ⟨?_, ?_, ?_, ?_, ?_, ?_, ?_, ?_, ?_, ?_, ?_, ?_, (h0.alloc _).alloc _, (h1.alloc _).alloc _, below_alloc (below_alloc (Below.refl _ _) _) _⟩ <;> simp [go_sem]
theorem TwoIn.i0 {B : Nat} {w : World} {e0 n0 e1 n1 : Int} {a0 a1 : Option Addr} {c0 c1 : Nat} {z0 z1 : List Int} {W : World} (h : TwoIn B w e0 n0 e1 n1 a0 a1 c0 c1 z0 z1 W) : IntsAt W a0 z0 := h.2.2.2.2.2.2.2.2.2.2.2.2.1
theorem TwoIn.i1 {B : Nat} {w : World} {e0 n0 e1 n1 : Int} {a0 a1 : Option Addr} {c0 c1 : Nat} {z0 z1 : List Int} {W : World} (h : TwoIn B w e0 n0 e1 n1 a0 a1 c0 c1 z0 z1 W) : IntsAt W a1 z1 := h.2.2.2.2.2.2.2.2.2.2.2.2.2.1
/-- Two rosters in two boxes, to be read. -/
def TwoR (B : Nat) (w : World) (e0 n0 e1 n1 : Int) (a0 a1 : Option Addr) (c0 c1 : Nat) (z0 z1 : List Int) (W : World) : Prop :=
  CellR B e0 a0 z0 c0 n0 W ∧ CellR (B + 1) e1 a1 z1 c1 n1 W ∧ Below w.heap.size w W ∧ z0.length ≤ c0 ∧ z1.length ≤ c1
theorem TwoR.keep {B : Nat} {w : World} {e0 n0 e1 n1 : Int} {a0 a1 : Option Addr} {c0 c1 : Nat} {z0 z1 : List Int} {W W' : World} (h : TwoR B w e0 n0 e1 n1 a0 a1 c0 c1 z0 z1 W) (hb : Below W.heap.size W W') : TwoR B w e0 n0 e1 n1 a0 a1 c0 c1 z0 z1 W' :=
  ⟨h.1.keep hb, h.2.1.keep hb, below_on h.2.2.1 hb, h.2.2.2⟩
theorem TwoIn.set {w : World} {e0 n0 e1 n1 : Int} {a0 a1 a2 a3 : Option Addr} {c0 c1 c2 c3 base base' : Nat} {z0 z1 y0 y1 : List Int} {W : World} (h : TwoIn w.heap.size w e0 n0 e1 n1 a0 a1 c0 c1 z0 z1 W)
    (o0 : OwnI W base (.slice a2 y0.length c2) y0) (o1 : OwnI W base' (.slice a3 y1.length c3) y1) (hb : w.heap.size + 1 < base) (hb' : w.heap.size + 1 < base') (l0 : y0.length ≤ c2) (l1 : y1.length ≤ c3) :
    TwoR w.heap.size w e0 n0 e1 n1 a2 a3 c2 c3 y0 y1 ((((((W.setCell ⟨w.heap.size, 0, none⟩ (.int .i64 e0)).setCell ⟨w.heap.size, 1, none⟩ (.slice a2 y0.length c2)).setCell ⟨w.heap.size, 2, none⟩ (.int .i64 n0)).setCell ⟨w.heap.size + 1, 0, none⟩ (.int .i64 e1)).setCell ⟨w.heap.size + 1, 1, none⟩ (.slice a3 y1.length c3)).setCell ⟨w.heap.size + 1, 2, none⟩ (.int .i64 n1)) := by
  obtain ⟨x0, x1, x2, q0, q1, q2, f0, f1, f2, g0, g1, g2, i0, i1, hl⟩ := h
  have A : BoxR w.heap.size w e0 n0 a2 c2 y0 _ := BoxR.make (e := e0) (nw := n0) (w := w) (w2 := W) _ _ _ (Nat.le_refl w.heap.size) x0 x1 x2 f0 f1 f2 o0 (by omega) hl l0
  have B : BoxR (w.heap.size + 1) w e1 n1 a3 c3 y1 _ := BoxR.make (e := e1) (nw := n1) (w := w) (w2 := ((W.setCell ⟨w.heap.size, 0, none⟩ (.int .i64 e0)).setCell ⟨w.heap.size, 1, none⟩ (.slice a2 y0.length c2)).setCell ⟨w.heap.size, 2, none⟩ (.int .i64 n0)) (.int .i64 e1) (.slice a1 z1.length c1) (.int .i64 n1) (by omega)
    (by rw [World.cell?_setCell_other _ _ _ _ (by simp), World.cell?_setCell_other _ _ _ _ (by simp), World.cell?_setCell_other _ _ _ _ (by simp)]; exact q0) (by rw [World.cell?_setCell_other _ _ _ _ (by simp), World.cell?_setCell_other _ _ _ _ (by simp), World.cell?_setCell_other _ _ _ _ (by simp)]; exact q1) (by rw [World.cell?_setCell_other _ _ _ _ (by simp), World.cell?_setCell_other _ _ _ _ (by simp), World.cell?_setCell_other _ _ _ _ (by simp)]; exact q2) (by simp [g0]) (by simp [g1]) (by simp [g2]) (own_set3 o1 (by omega) _ _ _) (by omega) A.2.2.2.2.2.2.2.1 l1
  refine ⟨⟨?_, ?_, ?_, own_ints (own_set3 (own_set3 o0 (by omega) _ _ _) (by omega) _ _ _)⟩, ⟨B.1, B.2.1, B.2.2.1, B.ints⟩, B.2.2.2.2.2.2.2.1, l0, l1⟩
  · rw [World.cell?_setCell_other _ _ _ _ (by simp), World.cell?_setCell_other _ _ _ _ (by simp), World.cell?_setCell_other _ _ _ _ (by simp)]; exact A.1
  · rw [World.cell?_setCell_other _ _ _ _ (by simp), World.cell?_setCell_other _ _ _ _ (by simp), World.cell?_setCell_other _ _ _ _ (by simp)]; exact A.2.1
  · rw [World.cell?_setCell_other _ _ _ _ (by simp), World.cell?_setCell_other _ _ _ _ (by simp), World.cell?_setCell_other _ _ _ _ (by simp)]; exact A.2.2.1
/-- All three. -/
def EqG (B BC : Nat) (w : World) (e0 n0 e1 n1 e2 n2 : Int) (a0 a1 a2 : Option Addr) (c0 c1 c2 : Nat) (z0 z1 z2 : List Int) (W : World) : Prop :=
  TwoR B w e0 n0 e1 n1 a0 a1 c0 c1 z0 z1 W ∧ CellR BC e2 a2 z2 c2 n2 W
theorem EqG.keep {B BC : Nat} {w : World} {e0 n0 e1 n1 e2 n2 : Int} {a0 a1 a2 : Option Addr} {c0 c1 c2 : Nat} {z0 z1 z2 : List Int} {W W' : World} (h : EqG B BC w e0 n0 e1 n1 e2 n2 a0 a1 a2 c0 c1 c2 z0 z1 z2 W) (hb : Below W.heap.size W W') : EqG B BC w e0 n0 e1 n1 e2 n2 a0 a1 a2 c0 c1 c2 z0 z1 z2 W' :=
  ⟨h.1.keep hb, h.2.keep hb⟩
theorem EqG.i0 {B BC : Nat} {w : World} {e0 n0 e1 n1 e2 n2 : Int} {a0 a1 a2 : Option Addr} {c0 c1 c2 : Nat} {z0 z1 z2 : List Int} {W : World} (h : EqG B BC w e0 n0 e1 n1 e2 n2 a0 a1 a2 c0 c1 c2 z0 z1 z2 W) : IntsAt W a0 z0 := h.1.1.2.2.2
theorem EqG.i1 {B BC : Nat} {w : World} {e0 n0 e1 n1 e2 n2 : Int} {a0 a1 a2 : Option Addr} {c0 c1 c2 : Nat} {z0 z1 z2 : List Int} {W : World} (h : EqG B BC w e0 n0 e1 n1 e2 n2 a0 a1 a2 c0 c1 c2 z0 z1 z2 W) : IntsAt W a1 z1 := h.1.2.1.2.2.2
theorem EqG.i2 {B BC : Nat} {w : World} {e0 n0 e1 n1 e2 n2 : Int} {a0 a1 a2 : Option Addr} {c0 c1 c2 : Nat} {z0 z1 z2 : List Int} {W : World} (h : EqG B BC w e0 n0 e1 n1 e2 n2 a0 a1 a2 c0 c1 c2 z0 z1 z2 W) : IntsAt W a2 z2 := h.2.2.2.2
theorem EqG.all {B BC : Nat} {w : World} {e0 n0 e1 n1 e2 n2 : Int} {a0 a1 a2 : Option Addr} {c0 c1 c2 : Nat} {z0 z1 z2 : List Int} {W : World} (h : EqG B BC w e0 n0 e1 n1 e2 n2 a0 a1 a2 c0 c1 c2 z0 z1 z2 W) :
    W.cell? ⟨B, 0, none⟩ = some (.int .i64 e0) ∧ W.cell? ⟨B, 1, none⟩ = some (.slice a0 z0.length c0) ∧ W.cell? ⟨B, 2, none⟩ = some (.int .i64 n0) ∧
    W.cell? ⟨B + 1, 0, none⟩ = some (.int .i64 e1) ∧ W.cell? ⟨B + 1, 1, none⟩ = some (.slice a1 z1.length c1) ∧ W.cell? ⟨B + 1, 2, none⟩ = some (.int .i64 n1) ∧
    W.cell? ⟨BC, 0, none⟩ = some (.int .i64 e2) ∧ W.cell? ⟨BC, 1, none⟩ = some (.slice a2 z2.length c2) ∧ W.cell? ⟨BC, 2, none⟩ = some (.int .i64 n2) ∧ EqG B BC w e0 n0 e1 n1 e2 n2 a0 a1 a2 c0 c1 c2 z0 z1 z2 W :=
  ⟨h.1.1.1, h.1.1.2.1, h.1.1.2.2.1, h.1.2.1.1, h.1.2.1.2.1, h.1.2.1.2.2.1, h.2.1, h.2.2.1, h.2.2.2.1, h⟩

theorem roster_ag (e nw : Int) (a : Option Addr) (c : Nat) (zs ys : List Int) (w : World) (hz : IntsAt w a zs) (hl : zs.length ≤ 9223372036854775807) (hcap : zs.length ≤ c) (h : zs.take 7 = ys) :
    Calls Try.prog 10 #[.agg #[.int .i64 e, .slice a zs.length c, .int .i64 nw]] w (RosR w e nw ys) := roster_ys e nw a c zs ys w hz hl hcap h

theorem eq_ag (e1 e2 nw1 nw2 : Int) (a1 a2 : Option Addr) (c1 c2 : Nat) (xs ys : List Int) (w : World) (hl : xs.length ≤ 9223372036854775807) (hx : IntsAt w a1 xs) (hy : IntsAt w a2 ys) :
    Calls Try.prog 24 #[.agg #[.int .i64 e1, .slice a1 xs.length c1, .int .i64 nw1], .agg #[.int .i64 e2, .slice a2 ys.length c2, .int .i64 nw2]] w fun e w' => e = .returned (.bool (eqB e1 e2 nw1 nw2 xs ys)) ∧ Below w.heap.size w w' := eq_any e1 e2 nw1 nw2 a1 a2 c1 c2 xs ys w hl hx hy
theorem eqRoster_ag (e1 e2 nw1 nw2 : Int) (a1 a2 : Option Addr) (c1 c2 : Nat) (xs ys : List Int) (w : World) (hl : xs.length ≤ 9223372036854775807) (hx : IntsAt w a1 xs) (hy : IntsAt w a2 ys) :
    Calls Try.prog 20 #[.agg #[.int .i64 e1, .slice a1 xs.length c1, .int .i64 nw1], .agg #[.int .i64 e2, .slice a2 ys.length c2, .int .i64 nw2]] w fun e w' => e = .returned (.bool (eqB e1 e2 nw1 nw2 xs ys)) ∧ Below w.heap.size w w' := eqRoster_any e1 e2 nw1 nw2 a1 a2 c1 c2 xs ys w hl hx hy

set_option maxHeartbeats 6400000 in
theorem eq_walk (e0 n0 e1 n1 which x : Int) (a0 a1 : Option Addr) (c0 c1 : Nat) (z0 z1 : List Int) (w : World) (h0 : IntsAt w a0 z0) (h1 : IntsAt w a1 z1) (l0 : z0.length ≤ 9223372036854775807) (l1 : z1.length ≤ 9223372036854775807) (k0 : z0.length ≤ c0) (k1 : z1.length ≤ c1) :
    Calls Try.prog 8 #[rosV e0 a0 z0 c0 n0, rosV e1 a1 z1 c1 n1, .int .i64 which, .int .i64 x] w fun e' w' => e' = .returned (.bool true) ∧ Below w.heap.size w w' := by
  obtain ⟨y0, hy0'⟩ : ∃ ys, z0.take 7 = ys := ⟨_, rfl⟩
  obtain ⟨y1, hy1'⟩ : ∃ ys, z1.take 7 = ys := ⟨_, rfl⟩
  have hl0 : y0.length ≤ 7 := by rw [← hy0']; simp; omega
  have hl1 : y1.length ≤ 7 := by rw [← hy1']; simp; omega
  have hy0 := Lib.hid hy0'
  have hy1 := Lib.hid hy1'
  clear hy0' hy1'
  have hT := Lib.hid (TwoIn.start w e0 n0 e1 n1 a0 a1 c0 c1 z0 z1 24 h0 h1)
  clear h0 h1
  go_enter Try.func8, Try.ntmps8
  go_wp2_with fail
  refine (begun_any _).mono ?_
  rintro e' w1 ⟨rfl, hb⟩
  replace hT := Lib.hid (hT.out.keep hb)
  clear hb
  go_upto_region 4 with fail
  obtain ⟨t0, t1, t2, s0, s1, s2, f0, f1, f2, g0, g1, g2, -⟩ := hT.out
  go_cut [] (fun wx => ∃ a2 a3 c2 c3, TwoR w.heap.size w e0 n0 e1 n1 a2 a3 c2 c3 y0 y1 wx)
  case first =>
    clear t0 t1 t2 s0 s1 s2 f0 f1 f2 g0 g1 g2
    have hT1 := Lib.hid (hT.out.keep (Below.refl w1.heap.size w1).drew)
    obtain ⟨t0, t1, t2, s0, s1, s2, f0, f1, f2, g0, g1, g2, -⟩ := hT1.out
    have z1' : w.heap.size + 1 < w1.drew.heap.size := cell_old s0
    go_region_with (first | (go_at_call 10; (with_reducible refine (roster_ag e0 n0 a0 c0 z0 y0 _ hT1.out.i0 l0 k0 hy0.out).mono ?_); rintro e' wa ⟨va, rfl, oa, ba⟩; obtain ⟨a2, c2, rfl, -, hc2⟩ := own_cap oa; have hTa := Lib.hid (hT1.out.keep ba); have OA := Lib.hid oa; obtain ⟨q0, q1, q2, r0, r1, r2, -⟩ := hTa.out; clear oa ba) | (go_at_call 10; (with_reducible refine (roster_ag e1 n1 a1 c1 z1 y1 _ hTa.out.i1 l1 k1 hy1.out).mono ?_); rintro e' wb ⟨vb, rfl, ob, bb⟩; obtain ⟨a3, c3, rfl, -, hc3⟩ := own_cap ob; have zb := cell_old r0; have hTb := Lib.hid (hTa.out.keep bb); have OB := Lib.hid ob; replace OA := Lib.hid (ownsRow_below OA.out bb); obtain ⟨q0, q1, q2, r0, r1, r2, f0, f1, f2, g0, g1, g2, -⟩ := hTb.out; clear ob bb))
    all_goals (go_wp2_with fail; go_meet)
    all_goals exact ⟨_, _, _, _, hTb.out.set OA.out OB.out z1' zb hc2 hc3⟩
  case rest =>
    obtain ⟨a2, a3, c2, c3, hR'⟩ := hcut
    have hR := Lib.hid hR'
    obtain ⟨t0, t1, t2, -⟩ := hR'.1
    clear hR' hT hy0 hy1
    go_wp2_with fail
    refine (roster_ag _ _ _ _ _ y0 _ hR.out.1.2.2.2 (by omega) hR.out.2.2.2.1 (List.take_of_length_le hl0)).mono ?_
    rintro e' w3 ⟨v3, rfl, hown, hb⟩
    obtain ⟨a4, c4, rfl, hi4, hc4⟩ := own_cap hown
    have HB := Lib.hid hb
    have HO := Lib.hid hown
    have HI := Lib.hid hi4
    clear t0 t1 t2 hb hown hi4
    have m1 : -3 < which.tmod 3 := by have := Int.tmod_lt_of_pos (-which) (show (0:Int) < 3 by decide); rw [Int.neg_tmod] at this; omega
    have m2 : which.tmod 3 < 3 := Int.tmod_lt_of_pos _ (by decide)
    obtain ⟨r, hr⟩ : ∃ r, which.tmod 3 = r := ⟨_, rfl⟩
    rw [hr] at m1 m2
    go_upto_block 0 with fail
    have q0 : 0 ≤ (r + 3) % 3 := Int.emod_nonneg _ (by decide)
    have q3 : (r + 3) % 3 < 3 := Int.emod_lt_of_pos _ (by decide)
    generalize (r + 3) % 3 = q at q0 q3 ⊢
    go_cut [] (fun wx => ∃ ec nc ac cc zc, zc.length ≤ 8 ∧ EqG w.heap.size w3.heap.size w e0 n0 e1 n1 ec nc a2 a3 ac c2 c3 cc y0 y1 zc wx)
    case first =>
      by_cases c0 : q = 0
      · have c0' : (q == 0) = true := by simpa using c0
        clear c0 hr
        go_wp2_with fail
        go_meet
        exact ⟨x, n0, a4, c4, y0, by omega, (hR.out.keep HB.out).keep (below_alloc (Below.refl _ _) _), CellR.new HI.out _⟩
      have c0' : (q == 0) = false := by simpa using c0
      by_cases c1 : q = 1
      · have c1' : (q == 1) = true := by simpa using c1
        clear c0 c1 hr
        go_wp2_with fail
        go_meet
        exact ⟨e0, x, a4, c4, y0, by omega, (hR.out.keep HB.out).keep (below_alloc (Below.refl _ _) _), CellR.new HI.out _⟩
      have c1' : (q == 1) = false := by simpa using c1
      clear c0 c1 hr
      have F1 := (far_own HO.out).1 w3.heap.size (Nat.le_refl _)
      have HW : Hid (Below wc.heap.size wc ((w3.alloc (.cells #[.int .i64 e0, .slice a4 y0.length c4, .int .i64 n0] 24)).alloc (.cells #[.int .i64 x] 3))) := Lib.hid (below_alloc (below_alloc HB.out _) _)
      have b0 : ((w3.alloc (.cells #[.int .i64 e0, .slice a4 y0.length c4, .int .i64 n0] 24)).alloc (.cells #[.int .i64 x] 3)).cell? ⟨w3.heap.size, 0, none⟩ = some (.int .i64 e0) := by simp [go_sem]
      have b1 : ((w3.alloc (.cells #[.int .i64 e0, .slice a4 y0.length c4, .int .i64 n0] 24)).alloc (.cells #[.int .i64 x] 3)).cell? ⟨w3.heap.size, 1, none⟩ = some (.slice a4 y0.length c4) := by simp [go_sem]
      have b2 : ((w3.alloc (.cells #[.int .i64 e0, .slice a4 y0.length c4, .int .i64 n0] 24)).alloc (.cells #[.int .i64 x] 3)).cell? ⟨w3.heap.size, 2, none⟩ = some (.int .i64 n0) := by simp [go_sem]
      have bf : ((w3.alloc (.cells #[.int .i64 e0, .slice a4 y0.length c4, .int .i64 n0] 24)).alloc (.cells #[.int .i64 x] 3)).frozen? ⟨w3.heap.size, 1, none⟩ = false := by simp [go_sem]
      have hsz : w3.heap.size < ((w3.alloc (.cells #[.int .i64 e0, .slice a4 y0.length c4, .int .i64 n0] 24)).alloc (.cells #[.int .i64 x] 3)).heap.size := by simp; omega
      have B0 := Lib.hid b0
      have B1 := Lib.hid b1
      have B2 := Lib.hid b2
      have BF := Lib.hid bf
      clear b0 b1 b2 bf
      go_wp2_with (at_builtin; go_loud (refine wpList_append_far rfl _ _ 22 rfl wc.heap.size 3 _ 1 8 tyInts _ y0.length (y0.map (.int .i64)) rfl (ownsRow_below (ownsRow_below HO.out (below_alloc (Below.refl _ _) _)) (below_alloc (Below.refl _ _) _)) _ 1 1 [.int .i64 x] rfl rfl ?c2 (by simp [Value.oneCell']) (by unfold maxLen; omega) (by omega) ?c3 ?_; (case c2 => exact RowAt.new' _ _ _ _ (by simp)); (case c3 => exact HW.out.size); intro v' w' own' G; obtain ⟨a5, c5, rfl, hz5⟩ := ownsRow_row own'; have d1 := (G.2.1 _ 1 hsz F1).trans B1.out; have fz := (G.2.2.1 _ 1 hsz F1).trans BF.out; have D0 := Lib.hid ((G.2.1 _ 0 hsz F1).trans B0.out); have D2 := Lib.hid ((G.2.1 _ 2 hsz F1).trans B2.out); have F2 := G.2.2.2.1 _ hsz F1; have OWN := Lib.hid own'; have GB := Lib.hid (HW.out.trans G.1); clear own' hz5 G))
      go_meet
      have o6 := own_set_far OWN.out F2 1 (.slice a5 (y0.length + 1) c5)
      refine ⟨e0, n0, a5, c5, y0 ++ [x], by simp; omega, hR.out.keep (GB.out.setCell (by have := HB.out.size; simpa using this) _), ?_, ?_, ?_, ?_⟩
      · rw [World.cell?_setCell_other _ _ _ _ (by simp)]; exact D0.out
      · rw [List.length_append]; exact World.cell?_setCell_same _ _ _ d1
      · rw [World.cell?_setCell_other _ _ _ _ (by simp)]; exact D2.out
      · refine own_ints (base := wc.heap.size) (n := y0.length + 1) (c := c5) ?_
        simpa [OwnI] using o6
    case rest =>
      obtain ⟨ec, nc, ac, cc, zc, lc, hG'⟩ := hcut
      have hG := Lib.hid hG'
      have g0 := hG'.all
      clear hG' hr m1 m2
      obtain ⟨m, hm⟩ : ∃ m, eqB e0 e1 n0 n1 y0 y1 = m := ⟨_, rfl⟩
      obtain ⟨m', hm'⟩ : ∃ m, eqB e0 ec n0 nc y0 zc = m := ⟨_, rfl⟩
      have Hm := Lib.hid hm
      have Hm' := Lib.hid hm'
      clear hm hm' HB HO HI hR
      go_wp2_with fail
      go_region_held3 (fun V => V.cell? ⟨w.heap.size, 0, none⟩ = some (.int .i64 e0) ∧ V.cell? ⟨w.heap.size, 1, none⟩ = some (.slice a2 y0.length c2) ∧ V.cell? ⟨w.heap.size, 2, none⟩ = some (.int .i64 n0) ∧ V.cell? ⟨w.heap.size + 1, 0, none⟩ = some (.int .i64 e1) ∧ V.cell? ⟨w.heap.size + 1, 1, none⟩ = some (.slice a3 y1.length c3) ∧ V.cell? ⟨w.heap.size + 1, 2, none⟩ = some (.int .i64 n1) ∧ V.cell? ⟨w3.heap.size, 0, none⟩ = some (.int .i64 ec) ∧ V.cell? ⟨w3.heap.size, 1, none⟩ = some (.slice ac zc.length cc) ∧ V.cell? ⟨w3.heap.size, 2, none⟩ = some (.int .i64 nc) ∧ EqG w.heap.size w3.heap.size w e0 n0 e1 n1 ec nc a2 a3 ac c2 c3 cc y0 y1 zc V)
        (first | exact EqG.all (hG.out.keep (Below.refl _ _).drew) | exact ((by with_reducible assumption : _ ∧ _ ∧ _ ∧ _ ∧ _ ∧ _ ∧ _ ∧ _ ∧ _ ∧ EqG _ _ _ _ _ _ _ _ _ _ _ _ _ _ _ _ _ _ _).2.2.2.2.2.2.2.2.2.keep hb).all)
        ((have s6 := (by with_reducible assumption : _ ∧ _ ∧ _ ∧ _ ∧ _ ∧ _ ∧ _ ∧ _ ∧ _ ∧ EqG _ _ _ _ _ _ _ _ _ _ _ _ _ _ _ _ _ _ _).2.2.2.2.2.2.2.2.2; (first | (go_at_call 20; first | ((with_reducible refine (eqRoster_ag e0 e1 n0 n1 _ _ _ _ y0 y1 _ (by omega) s6.i0 s6.i1).mono ?_); rw [Hm.out]) | ((with_reducible refine (eqRoster_ag e0 ec n0 nc _ _ _ _ y0 zc _ (by omega) s6.i0 s6.i2).mono ?_); rw [Hm'.out])) | (go_at_call 24; first | ((with_reducible refine (eq_ag e0 e1 n0 n1 _ _ _ _ y0 y1 _ (by omega) s6.i0 s6.i1).mono ?_); rw [Hm.out]) | ((with_reducible refine (eq_ag e0 ec n0 nc _ _ _ _ y0 zc _ (by omega) s6.i0 s6.i2).mono ?_); rw [Hm'.out]))); clear s6; rintro e' w' ⟨rfl, hb⟩))
      have s6 := (by with_reducible assumption : _ ∧ _ ∧ _ ∧ _ ∧ _ ∧ _ ∧ _ ∧ _ ∧ _ ∧ EqG _ _ _ _ _ _ _ _ _ _ _ _ _ _ _ _ _ _ _).2.2.2.2.2.2.2.2.2
      go_wp2_with fail
      go_ret
      exact ⟨rfl, s6.1.2.2.1⟩

end Go.Proofs.Ytnimbbfblidahaa

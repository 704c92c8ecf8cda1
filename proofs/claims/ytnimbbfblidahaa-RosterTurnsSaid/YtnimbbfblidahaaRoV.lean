/- RosterTurns: the walk. -/
import Derived.Test.YtnimbbfblidahaaRoR
import Derived.Test.YtnimbbfblidahaaRoU
import Derived.Deep.CutBlock
namespace Go.Proofs.Ytnimbbfblidahaa
open Go.RowKit

/-- A chain in a block that may be written. -/
def TurnR (B : Nat) (w : World) (e nw : Int) (a : Option Addr) (c : Nat) (zs : List Int) (W : World) : Prop :=
  CellR B e a zs c nw W ∧ W.frozen? ⟨B, 0, none⟩ = false ∧ W.frozen? ⟨B, 1, none⟩ = false ∧ W.frozen? ⟨B, 2, none⟩ = false ∧ (zs.length ≠ 0 → ∀ b, a = some b → b.block ≠ B) ∧ Below w.heap.size w W ∧ w.heap.size ≤ B
theorem TurnR.keep {B : Nat} {w : World} {e nw : Int} {a : Option Addr} {c : Nat} {zs : List Int} {W W' : World} (h : TurnR B w e nw a c zs W) (hb : Below W.heap.size W W') : TurnR B w e nw a c zs W' := by
  obtain ⟨h1, f0, f1, f2, hne, hl, hB⟩ := h
  exact ⟨h1.keep hb, frozen_keep hb h1.1 f0, frozen_keep hb h1.2.1 f1, frozen_keep hb h1.2.2.1 f2, hne, below_on hl hb, hB⟩
theorem TurnR.lt {B : Nat} {w : World} {e nw : Int} {a : Option Addr} {c : Nat} {zs : List Int} {W : World} (h : TurnR B w e nw a c zs W) : B < W.heap.size := cell_old h.1.1
theorem TurnR.set {B : Nat} {w : World} {e nw e' nw' : Int} {a a' : Option Addr} {c c' : Nat} {zs zs' : List Int} {W : World} (h : TurnR B w e nw a c zs W) (hi : IntsAt W a' zs') (hne : zs'.length ≠ 0 → ∀ b, a' = some b → b.block ≠ B) :
    TurnR B w e' nw' a' c' zs' (((W.setCell ⟨B, 0, none⟩ (.int .i64 e')).setCell ⟨B, 1, none⟩ (.slice a' zs'.length c')).setCell ⟨B, 2, none⟩ (.int .i64 nw')) := by
  obtain ⟨⟨x0, x1, x2, _⟩, f0, f1, f2, _, hl, hB⟩ := h
  refine ⟨⟨?_, ?_, ?_, ((((Off.refl B W).set 0 _).set 1 _).set 2 _).ints hi hne⟩, by simp [f0], by simp [f1], by simp [f2], hne, below_set3 hl hB _ _ _ _ _ _, hB⟩
  · rw [World.cell?_setCell_other _ _ _ _ (by simp), World.cell?_setCell_other _ _ _ _ (by simp)]
    exact World.cell?_setCell_same _ _ _ x0
  · rw [World.cell?_setCell_other _ _ _ _ (by simp)]
    exact World.cell?_setCell_same _ _ _ (u := .slice a zs.length c) (by rw [World.cell?_setCell_other _ _ _ _ (by simp)]; exact x1)
  · exact World.cell?_setCell_same _ _ _ (u := .int .i64 nw) (by rw [World.cell?_setCell_other _ _ _ _ (by simp), World.cell?_setCell_other _ _ _ _ (by simp)]; exact x2)
theorem TurnR.set2 {B : Nat} {w : World} {e nw nw' : Int} {a : Option Addr} {c : Nat} {zs : List Int} {W : World} (h : TurnR B w e nw a c zs W) : TurnR B w e nw' a c zs (W.setCell ⟨B, 2, none⟩ (.int .i64 nw')) := by
  obtain ⟨⟨x0, x1, x2, hi⟩, f0, f1, f2, hne, hl, hB⟩ := h
  refine ⟨⟨?_, ?_, World.cell?_setCell_same _ _ _ x2, ((Off.refl B W).set 2 _).ints hi hne⟩, by simp [f0], by simp [f1], by simp [f2], hne, hl.setCell (p := ⟨B, 2, none⟩) hB _, hB⟩
  · rw [World.cell?_setCell_other _ _ _ _ (by simp)]; exact x0
  · rw [World.cell?_setCell_other _ _ _ _ (by simp)]; exact x1
/-- A round's head. -/
def TurnI (B k : Nat) (w : World) (W : World) : Prop := ∃ (e nw : Int) (a : Option Addr) (c : Nat) (zs : List Int), e ≤ 1 + (k : Int) ∧ mayB e zs nw = true ∧ TurnR B w e nw a c zs W
/-- Behind the turn. -/
def TurnX (B BX k : Nat) (w : World) (ok : Bool) (W : World) : Prop := ∃ (e nw : Int) (a : Option Addr) (c : Nat) (zs : List Int) (ex nx : Int) (ax : Option Addr) (cx : Nat) (zx : List Int), e ≤ 1 + (k : Int) ∧ mayB e zs nw = true ∧ TurnR B w e nw a c zs W ∧ TurnR BX w ex nx ax cx zx W ∧ (zx.length ≠ 0 → ∀ b, ax = some b → b.block ≠ B) ∧ B < BX ∧
  (ok = true → ex = e + 1 ∧ mayB (e + 1) zx nx = true)

theorem own_blk {W : World} {base : Nat} {a : Option Addr} {c : Nat} {zs : List Int} (h : OwnI W base (.slice a zs.length c) zs) (hl : zs.length ≠ 0) : ∀ b, a = some b → base ≤ b.block := by
  rintro b rfl
  obtain ⟨_, h2⟩ := h
  rcases h2 with ⟨_, h3⟩ | ⟨g, cap, cur, h3, h4, _⟩
  · omega
  · simp only [Value.slice.injEq, Option.some.injEq] at h3
    rw [h3.1]; exact h4
theorem TurnX.new {B k : Nat} {w W0 w4 : World} {e nw ed nd : Int} {a a4 : Option Addr} {c c4 : Nat} {zs zd : List Int} {okd : Bool} {t : TypeId} (hT : TurnR B w e nw a c zs W0) (he : e ≤ 1 + (k : Int)) (hm : mayB e zs nw = true)
    (ho : OwnI w4 W0.heap.size (.slice a4 zd.length c4) zd) (hb : Below W0.heap.size W0 w4) (hok : okd = true → ed = e + 1 ∧ mayB (e + 1) zd nd = true) :
    TurnX B w4.heap.size k w okd (w4.alloc (.cells #[.int .i64 ed, .slice a4 zd.length c4, .int .i64 nd] t)) := by
  have hlt := hT.lt
  have hs := hb.size
  have bal : Below w4.heap.size w4 (w4.alloc (.cells #[.int .i64 ed, .slice a4 zd.length c4, .int .i64 nd] t)) := below_alloc (Below.refl _ _) _
  have h4 := hT.keep hb
  refine ⟨e, nw, a, c, zs, ed, nd, a4, c4, zd, he, hm, h4.keep bal, ⟨CellR.new (own_ints ho) t, by simp [go_sem], by simp [go_sem], by simp [go_sem], fun h b hb' => ?_, (h4.keep bal).2.2.2.2.2.1, ?_⟩, fun h b hb' => ?_, by omega, hok⟩
  · have := (own_ints ho).old h b hb'; omega
  · have := h4.2.2.2.2.2.1.size; exact this
  · have := own_blk ho h b hb'; omega
theorem TurnX.keep {B BX k : Nat} {w : World} {ok : Bool} {W W' : World} (h : TurnX B BX k w ok W) (hb : Below W.heap.size W W') : TurnX B BX k w ok W' := by
  obtain ⟨e, nw, a, c, zs, ex, nx, ax, cx, zx, h1, h2, h3, h4, h5⟩ := h
  exact ⟨e, nw, a, c, zs, ex, nx, ax, cx, zx, h1, h2, h3.keep hb, h4.keep hb, h5⟩
/-- As TurnX, of known numbers. -/
def TurnY (B BX : Nat) (w : World) (e nw : Int) (a : Option Addr) (c : Nat) (zs : List Int) (ex nx : Int) (ax : Option Addr) (cx : Nat) (zx : List Int) (W : World) : Prop :=
  TurnR B w e nw a c zs W ∧ TurnR BX w ex nx ax cx zx W ∧ (zx.length ≠ 0 → ∀ b, ax = some b → b.block ≠ B) ∧ B < BX
theorem TurnY.keep {B BX : Nat} {w : World} {e nw : Int} {a : Option Addr} {c : Nat} {zs : List Int} {ex nx : Int} {ax : Option Addr} {cx : Nat} {zx : List Int} {W W' : World} (h : TurnY B BX w e nw a c zs ex nx ax cx zx W) (hb : Below W.heap.size W W') : TurnY B BX w e nw a c zs ex nx ax cx zx W' :=
  ⟨h.1.keep hb, h.2.1.keep hb, h.2.2⟩
/-- Another one into the second block. -/
theorem TurnY.set {B BX : Nat} {w : World} {e nw : Int} {a : Option Addr} {c : Nat} {zs : List Int} {ex nx ey ny : Int} {ax ay : Option Addr} {cx cy : Nat} {zx zy : List Int} {W W5 : World} (h : TurnY B BX w e nw a c zs ex nx ax cx zx W) (hs : BX < W.heap.size) (hne : zs.length ≠ 0 → ∀ b, a = some b → b.block ≠ BX)
    (ho : OwnI W5 W.heap.size (.slice ay zy.length cy) zy) (hb : Below W.heap.size W W5) :
    TurnY B BX w e nw a c zs ey ny ay cy zy (((W5.setCell ⟨BX, 0, none⟩ (.int .i64 ey)).setCell ⟨BX, 1, none⟩ (.slice ay zy.length cy)).setCell ⟨BX, 2, none⟩ (.int .i64 ny)) := by
  obtain ⟨h1, h2, h3, h4⟩ := h.keep hb
  refine ⟨?_, h2.set (own_ints ho) (fun q b hb' => by have := own_blk ho q b hb'; omega), fun q b hb' => by have := own_blk ho q b hb'; have := h.1.lt; omega, h4⟩
  obtain ⟨⟨x0, x1, x2, hi⟩, f0, f1, f2, hn, hl, hB⟩ := h1
  refine ⟨⟨?_, ?_, ?_, ((((Off.refl BX W5).set 0 _).set 1 _).set 2 _).ints hi hne⟩, by simp [f0], by simp [f1], by simp [f2], hn, below_set3 hl (by omega) _ _ _ _ _ _, hB⟩
  all_goals rw [World.cell?_setCell_other _ _ _ _ (by intro q; simp only [Addr.mk.injEq] at q; omega), World.cell?_setCell_other _ _ _ _ (by intro q; simp only [Addr.mk.injEq] at q; omega), World.cell?_setCell_other _ _ _ _ (by intro q; simp only [Addr.mk.injEq] at q; omega)]; assumption

set_option maxRecDepth 100000 in
set_option maxHeartbeats 6400000 in
theorem turns_walk (a0 a1 a2 : Option Addr) (c0 c1 c2 : Nat) (ns : List Int) (ads ls : List Bool) (w : World) (h0 : IntsAt w a0 ns) (h1 : RowAt w a1 (ads.map .bool)) (h2 : RowAt w a2 (ls.map .bool))
    (l0 : ns.length ≤ 9223372036854775807) (l1 : ads.length ≤ 9223372036854775807) (l2 : ls.length ≤ 9223372036854775807) :
    Calls Try.prog 4 #[.slice a0 ns.length c0, .slice a1 ads.length c1, .slice a2 ls.length c2] w fun e' w' => e' = .returned (.bool true) ∧ Below w.heap.size w w' := by
  have H0 := Lib.hid h0
  have H1 := Lib.hid h1
  have H2 := Lib.hid h2
  clear h0 h1 h2
  go_enter Try.func4, Try.ntmps4
  go_wp2_with fail
  refine (begun_any _).mono ?_
  rintro e' w1 ⟨rfl, hb⟩
  have HB := Lib.hid hb
  clear hb
  go_wp2_with fail
  have S : TurnI (w1.heap.size + 1) 0 w ((w1.alloc (.cells #[.int .i64 1] 3)).alloc (.cells #[.int .i64 1, .slice (some ⟨w1.heap.size, 0, none⟩) 1 1, .int .i64 0] 24)) := by
    refine ⟨1, 0, some ⟨w1.heap.size, 0, none⟩, 1, [1], by omega, by decide, ⟨?_, ?_, ?_, ?_⟩, ?_, ?_, ?_, ?_, below_alloc (below_alloc HB.out _) _, ?_⟩
    · simp [go_sem]
    · simp [go_sem]
    · simp [go_sem]
    · refine (IntsAt.alloc ?_ _)
      exact RowAt.ints (zs := [1]) (RowAt.new _ _ _)
    · simp [go_sem]
    · simp [go_sem]
    · simp [go_sem]
    · rintro - b hb; simp only [Option.some.injEq] at hb; subst hb; simp
    · have := HB.out.size; omega
  have hBR : w.heap.size ≤ w1.heap.size + 1 := by have := HB.out.size; omega
  generalize ((w1.alloc (.cells #[.int .i64 1] 3)).alloc (.cells #[.int .i64 1, .slice (some ⟨w1.heap.size, 0, none⟩) 1 1, .int .i64 0] 24)) = V at S ⊢
  generalize w1.heap.size + 1 = B at S hBR ⊢
  clear HB
  have HS := Lib.hid S
  clear S
  go_loopw [9] (fun i wr => ∃ k : Nat, k ≤ ns.length ∧ k ≤ 30 ∧ i = .int .i64 k ∧ TurnI B k w wr) (fun i _ => 30 - (intOf i).toNat)
  case atStart => exact ⟨0, Nat.zero_le _, by omega, rfl, HS.out⟩
  case round =>
    obtain ⟨k, hk, hk30, rfl, hI⟩ := hrel
    clear HS
    obtain ⟨wo, rfl⟩ : ∃ wo : World, wo = wr := ⟨_, rfl⟩
    obtain ⟨e, nw, a, c, zs, he, hm, hT⟩ := hI
    have HM := Lib.hid hm
    have HT := Lib.hid hT
    obtain ⟨x0, x1, x2, -⟩ := hT.1
    have hz5 : zs.length ≤ 5 := (mayB_mayL hm).2.2
    have hz1 : 1 ≤ zs.length := (mayB_mayL hm).2.1
    have he1 : 1 ≤ e := (mayB_ep hm).1
    clear hT hm
    have hlow : Below w.heap.size w wo := HT.out.2.2.2.2.2.1
    have HL := Lib.hid hlow
    clear hlow
    by_cases hlt : k < ns.length ∧ k < 30
    · obtain ⟨hlt1, hlt2⟩ := hlt
      obtain ⟨bn, on, rfl, -, hcn⟩ := (H0.out.below HL.out (Nat.le_refl _)).form (by omega)
      have d0 := hcn k hlt1
      clear hcn
      have p1 : (k : Int) < (ns.length : Int) := by omega
      have p2 : (k : Int) < 30 := by omega
      obtain ⟨m, hm⟩ : ∃ m, (nthI ns k).tmod 5 = m := ⟨_, rfl⟩
      have m1 : -5 < m := by rw [← hm]; have := Int.tmod_lt_of_pos (-(nthI ns k)) (show (0:Int) < 5 by decide); rw [Int.neg_tmod] at this; omega
      have m2 : m < 5 := by rw [← hm]; exact Int.tmod_lt_of_pos _ (by decide)
      go_upto_region 9 with fail
      have n1 : 1 ≤ 1 + m % 5 := by omega
      have n2 : 1 + m % 5 ≤ 5 := by omega
      clear m1 m2 hm d0
      generalize 1 + m % 5 = n at n1 n2 ⊢
      obtain ⟨⟨ed, zd, nd, okd⟩, hrd'⟩ : ∃ r, dropF e zs nw n = r := ⟨_, rfl⟩
      have hrd := Lib.hid hrd'
      have htd := Lib.hid (drop_turn HM.out (show e < 1099511627776 by omega) n1)
      clear hrd'
      have hne0 := Lib.hid (fun (h : zs.length ≠ 0) b (hb : a = some b) => HT.out.1.2.2.2.old h b hb)
      go_upto_region 10 with (go_at_call 17; refine (drop_F _ _ _ _ _ _ _ HT.out.1.2.2.2 (by omega)).mono ?_; rw [hrd.out]; rintro e' w4 ⟨a4, c4, rfl, ho, hb⟩; dsimp only at ho ⊢; have HO4 := Lib.hid ho; have HB4 := Lib.hid hb; clear hb ho)
      have hY : TurnY B w4.heap.size w e nw a c zs ed nd a4 c4 zd (w4.alloc (.cells #[.int .i64 ed, .slice a4 zd.length c4, .int .i64 nd] 24)) := by
        have hlt := HT.out.lt
        have hs := HB4.out.size
        have bal : Below w4.heap.size w4 (w4.alloc (.cells #[.int .i64 ed, .slice a4 zd.length c4, .int .i64 nd] 24)) := below_alloc (Below.refl _ _) _
        have h4 := HT.out.keep HB4.out
        refine ⟨h4.keep bal, ⟨CellR.new (own_ints HO4.out) _, by simp [go_sem], by simp [go_sem], by simp [go_sem], fun h b hb' => ?_, (h4.keep bal).2.2.2.2.2.1, by omega⟩, fun h b hb' => ?_, by omega⟩
        · have := (own_ints HO4.out).old h b hb'; omega
        · have := own_blk HO4.out h b hb'; omega
      have hnx : zs.length ≠ 0 → ∀ b, a = some b → b.block ≠ w4.heap.size := fun h b hb' => by have := hne0.out h b hb'; have := HB4.out.size; omega
      have HNX := Lib.hid hnx
      have HY := Lib.hid hY
      clear hY hnx hne0 HO4 HB4 x0 x1 x2 HT
      have hsz : w4.heap.size < (w4.alloc (.cells #[.int .i64 ed, .slice a4 zd.length c4, .int .i64 nd] 24)).heap.size := by simp
      generalize (w4.alloc (.cells #[.int .i64 ed, .slice a4 zd.length c4, .int .i64 nd] 24)) = V at HY hsz ⊢
      generalize w4.heap.size = BX at HY HNX hsz ⊢
      have hlowV : Below w.heap.size w V := HY.out.1.2.2.2.2.2.1
      have HLV := Lib.hid hlowV
      clear hlowV
      go_cut [51] from 18 to 121 (fun v wx => ∃ b : Bool, v = .bool b ∧ wx = V)
      case first =>
        by_cases hA : k < ads.length
        · have q1 : (k : Int) < (ads.length : Int) := by omega
          rcases H1.out.below HLV.out (Nat.le_refl _) with h | ⟨b1, o1, rfl, -, hc1⟩
          · simp at h; subst h; simp at hA
          · have d1 := hc1 k (.bool (ads[k]'hA)) (by simp [hA])
            clear hc1
            go_wp2_with fail
            all_goals (go_meet; exact ⟨_, rfl, rfl⟩)
        · go_wp2_with fail
          all_goals (go_meet; exact ⟨_, rfl, rfl⟩)
      case rest =>
        obtain ⟨b, rfl, rfl⟩ := hcut
        go_upto_if 51 with fail
        obtain ⟨ix, hix'⟩ : ∃ ix, idx zs n = ix := ⟨_, rfl⟩
        have hix := Lib.hid hix'
        clear hix'
        obtain ⟨⟨x0, x1, x2, -⟩, -⟩ := HY.out.1
        go_cut [12] from 18 to 121 (fun v wx => ∃ (ok : Bool) (ex nx : Int) (ax : Option Addr) (cx : Nat) (zx : List Int), v = .bool ok ∧ TurnY B BX w e nw a c zs ex nx ax cx zx wx ∧ Hid (ok = true → ex = e + 1 ∧ mayB (e + 1) zx nx = true))
        case first =>
          cases b
          · have hok := htd.out
            rw [hrd.out] at hok
            dsimp only at hok
            unfold goesB at hok
            rw [hix.out] at hok
            have HOK := Lib.hid hok
            clear hok
            go_upto_region 14 with fail
            go_cut [97] from 18 to 121 (fun v wx => v = .bool false ∧ TurnY B BX w e nw a c zs ed nd a4 c4 zd wx)
            case first =>
              by_cases g0 : 0 ≤ ix
              · have g0' : decide (0 ≤ ix) = true := by simpa using g0
                by_cases g1 : n = nw
                · obtain rfl : okd = true := by have := HOK.out.1; rw [this]; exact decide_eq_true ⟨g0, Or.inl g1⟩
                  have g1' : (n == nw) = true := by simpa using g1
                  have G := Lib.hid g1
                  clear g0 g1
                  go_wp2_with (go_at_call 19; refine (spot_any _ _ _ _ _ _ _ (by omega) HY.out.1.1.2.2.2).mono ?_; rw [hix.out]; rintro e' w5 ⟨rfl, hb⟩; have HY3 := Lib.hid (HY.out.keep hb); obtain ⟨⟨s0, s1, s2, -⟩, -⟩ := HY3.out.1; clear hb)
                  go_meet
                  exact ⟨rfl, HY3.out⟩
                have g1' : (n == nw) = false := by simpa using g1
                by_cases g2 : 2 < zs.length
                · obtain rfl : okd = true := by have := HOK.out.1; rw [this]; exact decide_eq_true ⟨g0, Or.inr (Or.inl g2)⟩
                  clear g0 g1
                  go_wp2_with (go_at_call 19; refine (spot_any _ _ _ _ _ _ _ (by omega) HY.out.1.1.2.2.2).mono ?_; rw [hix.out]; rintro e' w5 ⟨rfl, hb⟩; have HY3 := Lib.hid (HY.out.keep hb); obtain ⟨⟨s0, s1, s2, -⟩, -⟩ := HY3.out.1; clear hb)
                  go_meet
                  exact ⟨rfl, HY3.out⟩
                have g2' : decide ((2 : Int) < (zs.length : Int)) = false := by rw [decide_eq_false_iff_not]; omega
                by_cases g3 : zs.length = 2
                · have g3' : ((zs.length : Int) == 2) = true := by simp; omega
                  by_cases g4 : nw = 0
                  · obtain rfl : okd = true := by have := HOK.out.1; rw [this]; exact decide_eq_true ⟨g0, Or.inr (Or.inr ⟨g3, g4⟩)⟩
                    have g4' : (nw == 0) = true := by simpa using g4
                    clear g0 g1 g2 g3 g4
                    go_wp2_with (go_at_call 19; refine (spot_any _ _ _ _ _ _ _ (by omega) HY.out.1.1.2.2.2).mono ?_; rw [hix.out]; rintro e' w5 ⟨rfl, hb⟩; have HY3 := Lib.hid (HY.out.keep hb); obtain ⟨⟨s0, s1, s2, -⟩, -⟩ := HY3.out.1; clear hb)
                    go_meet
                    exact ⟨rfl, HY3.out⟩
                  · obtain rfl : okd = false := by have := HOK.out.1; rw [this]; exact decide_eq_false (by omega)
                    have g4' : (nw == 0) = false := by simpa using g4
                    clear g0 g1 g2 g3 g4
                    go_wp2_with (go_at_call 19; refine (spot_any _ _ _ _ _ _ _ (by omega) HY.out.1.1.2.2.2).mono ?_; rw [hix.out]; rintro e' w5 ⟨rfl, hb⟩; have HY3 := Lib.hid (HY.out.keep hb); obtain ⟨⟨s0, s1, s2, -⟩, -⟩ := HY3.out.1; clear hb)
                    go_meet
                    exact ⟨rfl, HY3.out⟩
                · obtain rfl : okd = false := by have := HOK.out.1; rw [this]; exact decide_eq_false (by omega)
                  have g3' : ((zs.length : Int) == 2) = false := by simp; omega
                  clear g0 g1 g2 g3
                  go_wp2_with (go_at_call 19; refine (spot_any _ _ _ _ _ _ _ (by omega) HY.out.1.1.2.2.2).mono ?_; rw [hix.out]; rintro e' w5 ⟨rfl, hb⟩; have HY3 := Lib.hid (HY.out.keep hb); obtain ⟨⟨s0, s1, s2, -⟩, -⟩ := HY3.out.1; clear hb)
                  go_meet
                  exact ⟨rfl, HY3.out⟩
              · obtain rfl : okd = false := by have := HOK.out.1; rw [this]; exact decide_eq_false (by omega)
                have g0' : decide (0 ≤ ix) = false := by simpa using g0
                clear g0
                go_wp2_with (go_at_call 19; refine (spot_any _ _ _ _ _ _ _ (by omega) HY.out.1.1.2.2.2).mono ?_; rw [hix.out]; rintro e' w5 ⟨rfl, hb⟩; have HY3 := Lib.hid (HY.out.keep hb); obtain ⟨⟨s0, s1, s2, -⟩, -⟩ := HY3.out.1; clear hb)
                go_meet
                exact ⟨rfl, HY3.out⟩
            case rest =>
              obtain ⟨rfl, hY2⟩ := hcut
              have HY2 := Lib.hid hY2
              clear hY2
              go_wp2_with fail
              go_meet
              refine ⟨okd, ed, nd, a4, c4, zd, rfl, HY2.out, Lib.hid fun h => ?_⟩
              have := HOK.out
              exact this.2 (this.1 ▸ h)
          · obtain ⟨⟨ea, za, na, oka⟩, hra'⟩ : ∃ r, addF e zs nw n = r := ⟨_, rfl⟩
            have hok := add_turn HM.out (show e < 1099511627776 by omega) n1 n2
            rw [hra'] at hok
            dsimp only at hok
            unfold comesB at hok
            rw [hix.out] at hok
            have HOK := Lib.hid hok
            have hra := Lib.hid hra'
            clear hok hra'
            go_upto_region 12 with (go_at_call 18; refine (add_F _ _ _ _ _ _ _ HY.out.1.1.2.2.2 (by omega)).mono ?_; rw [hra.out]; rintro e' w5 ⟨a5, c5, rfl, ho, hb⟩; dsimp only at ho ⊢; have HY3 := Lib.hid (HY.out.keep hb); obtain ⟨⟨s0, s1, s2, -⟩, f0, f1, f2, -⟩ := HY3.out.2.1; have HY4 := Lib.hid (HY.out.set (ey := ea) (ny := na) hsz HNX.out ho hb); clear hb ho)
            clear x0 x1 x2 s0 s1 s2 f0 f1 f2 HY3
            generalize (((w5.setCell ⟨BX, 0, none⟩ (.int .i64 ea)).setCell ⟨BX, 1, none⟩ (.slice a5 za.length c5)).setCell ⟨BX, 2, none⟩ (.int .i64 na)) = V2 at HY4 ⊢
            obtain ⟨⟨x0, x1, x2, -⟩, -⟩ := HY4.out.1
            go_cut [68] from 18 to 121 (fun v wx => v = .bool false ∧ TurnY B BX w e nw a c zs ea na a5 c5 za wx)
            case first =>
              by_cases g0 : ix < 0
              · have g0' : decide (ix < 0) = true := by simpa using g0
                by_cases g4 : nw = 0
                · obtain rfl : oka = true := by have := HOK.out.1; rw [this]; exact decide_eq_true ⟨g0, g4⟩
                  have g4' : (nw == 0) = true := by simpa using g4
                  clear g0 g4
                  go_wp2_with (go_at_call 19; refine (spot_any _ _ _ _ _ _ _ (by omega) HY4.out.1.1.2.2.2).mono ?_; rw [hix.out]; rintro e' w6 ⟨rfl, hb⟩; have HY5 := Lib.hid (HY4.out.keep hb); obtain ⟨⟨s0, s1, s2, -⟩, -⟩ := HY5.out.1; clear hb)
                  go_meet
                  exact ⟨rfl, HY5.out⟩
                · obtain rfl : oka = false := by have := HOK.out.1; rw [this]; exact decide_eq_false (by omega)
                  have g4' : (nw == 0) = false := by simpa using g4
                  clear g0 g4
                  go_wp2_with (go_at_call 19; refine (spot_any _ _ _ _ _ _ _ (by omega) HY4.out.1.1.2.2.2).mono ?_; rw [hix.out]; rintro e' w6 ⟨rfl, hb⟩; have HY5 := Lib.hid (HY4.out.keep hb); obtain ⟨⟨s0, s1, s2, -⟩, -⟩ := HY5.out.1; clear hb)
                  go_meet
                  exact ⟨rfl, HY5.out⟩
              · obtain rfl : oka = false := by have := HOK.out.1; rw [this]; exact decide_eq_false (by omega)
                have g0' : decide (ix < 0) = false := by simpa using g0
                clear g0
                go_wp2_with (go_at_call 19; refine (spot_any _ _ _ _ _ _ _ (by omega) HY4.out.1.1.2.2.2).mono ?_; rw [hix.out]; rintro e' w6 ⟨rfl, hb⟩; have HY5 := Lib.hid (HY4.out.keep hb); obtain ⟨⟨s0, s1, s2, -⟩, -⟩ := HY5.out.1; clear hb)
                go_meet
                exact ⟨rfl, HY5.out⟩
            case rest =>
              obtain ⟨rfl, hY2⟩ := hcut
              have HY2 := Lib.hid hY2
              clear hY2
              go_wp2_with fail
              go_meet
              refine ⟨oka, ea, na, a5, c5, za, rfl, HY2.out, Lib.hid fun h => ?_⟩
              have := HOK.out
              exact this.2 (this.1 ▸ h)
        case rest =>
          obtain ⟨ok, ex, nx, ax, cx, zx, rfl, hY2, HOK⟩ := hcut
          have HY2 := Lib.hid hY2
          clear hY2 HY hsz x0 x1 x2 HLV
          obtain ⟨⟨x0, x1, x2, -⟩, f0, f1, f2, -⟩ := HY2.out.1
          obtain ⟨⟨s0, s1, s2, -⟩, -⟩ := HY2.out.2.1
          go_upto_if 98 with fail
          go_cut [] from 18 to 121 (fun wx => TurnI B (k + 1) w wx)
          case first =>
            cases ok
            · go_wp2_with fail
              go_meet
              exact ⟨e, nw, a, c, zs, by omega, HM.out, HY2.out.1⟩
            · obtain ⟨rfl, hmx⟩ := HOK.out rfl
              have HMX := Lib.hid hmx
              clear hmx
              have hzx : zx.length ≤ 5 := (mayB_mayL HMX.out).2.2
              go_wp2_with (go_at_call 12; refine (may_any _ _ _ _ _ _ (by omega) HY2.out.2.1.1.2.2.2).mono ?_; rw [HMX.out]; rintro e' w6 ⟨rfl, hb⟩; have HY5 := Lib.hid (HY2.out.keep hb); clear x0 x1 x2 f0 f1 f2 s0 s1 s2; obtain ⟨⟨x0, x1, x2, -⟩, f0, f1, f2, -⟩ := HY5.out.1; obtain ⟨⟨s0, s1, s2, -⟩, -⟩ := HY5.out.2.1; clear hb)
              go_meet
              exact ⟨e + 1, nx, ax, cx, zx, by omega, HMX.out, HY5.out.1.set HY5.out.2.1.1.2.2.2 HY5.out.2.2.1⟩
          case rest =>
            have HI := Lib.hid hcut
            clear hcut x0 x1 x2 f0 f1 f2 s0 s1 s2 HY2
            go_upto_region 20 with fail
            obtain ⟨e6, nw6, a6, c6, zs6, he6, hm6, hT6⟩ := HI.out
            have HM6 := Lib.hid hm6
            have HT6 := Lib.hid hT6
            obtain ⟨⟨x0, x1, x2, -⟩, f0, f1, f2, -⟩ := hT6
            have HL6 := Lib.hid HT6.out.2.2.2.2.2.1
            clear hm6 HI
            go_cut [120] from 18 to 121 (fun v wx => ∃ b : Bool, v = .bool b ∧ wx = _)
            case first =>
              by_cases hA : k < ls.length
              · have q1 : (k : Int) < (ls.length : Int) := by omega
                rcases H2.out.below HL6.out (Nat.le_refl _) with h | ⟨b1, o1, rfl, -, hc1⟩
                · simp at h; subst h; simp at hA
                · have d1 := hc1 k (.bool (ls[k]'hA)) (by simp [hA])
                  clear hc1
                  go_wp2_with fail
                  all_goals (go_meet; exact ⟨_, rfl, rfl⟩)
              · go_wp2_with fail
                all_goals (go_meet; exact ⟨_, rfl, rfl⟩)
            case rest =>
              obtain ⟨b2, rfl, rfl⟩ := hcut
              cases b2
              · go_wp2_with fail
                go_roundw
                case rel => exact ⟨k + 1, by omega, by omega, by go_num, e6, nw6, a6, c6, zs6, he6, HM6.out, HT6.out⟩
                case measure => simp [intOf]; omega
              · go_wp2_with fail
                go_roundw
                case rel => exact ⟨k + 1, by omega, by omega, by go_num, e6, 0, a6, c6, zs6, he6, learn_turn HM6.out, HT6.out.set2⟩
                case measure => simp [intOf]; omega
    · by_cases h1 : k < ns.length
      · have h2 : decide ((k : Int) < 30) = false := by rw [decide_eq_false_iff_not]; omega
        have p1 : (k : Int) < (ns.length : Int) := by omega
        clear hlt
        go_wp2_with (go_at_call 12; refine (may_any _ _ _ _ _ _ (by omega) HT.out.1.2.2.2).mono ?_; rw [HM.out]; rintro e' w6 ⟨rfl, hb⟩; have HB := Lib.hid (below_on HL.out hb); clear hb)
        go_ret
        exact ⟨rfl, HB.out⟩
      · clear hlt
        go_wp2_with (go_at_call 12; refine (may_any _ _ _ _ _ _ (by omega) HT.out.1.2.2.2).mono ?_; rw [HM.out]; rintro e' w6 ⟨rfl, hb⟩; have HB := Lib.hid (below_on HL.out hb); clear hb)
        go_ret
        exact ⟨rfl, HB.out⟩

end Go.Proofs.Ytnimbbfblidahaa

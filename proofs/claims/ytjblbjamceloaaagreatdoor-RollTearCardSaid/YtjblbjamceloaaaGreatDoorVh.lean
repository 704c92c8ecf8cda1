/- A chest of the document's: a roll pressed, a roll cut. -/
import Derived.Test.YtjblbjamceloaaaGreatDoorVg
import Derived.BigRegion
namespace Go.Proofs.YtjblbjamceloaaaGreatDoor
open Go.RowKit

set_option maxRecDepth 100000
theorem set_get {L : List Rl} {k : Nat} {x y : Rl} (h : L[k]? = some x) : (L.set k y)[k]? = some y := by
  rw [List.getElem?_set_self (List.getElem?_eq_some_iff.1 h).1]
set_option maxHeartbeats 6400000 in
theorem rpress_any {w : World} {d : Nat} {v : Value} {z : Int} {L : List Rl} (H : DocAt w d v z L) (hL : L.length < 800000) (hs : Rising L) (_hlen : sumL L ≤ 1048576) (n : ByteArray) {er : Int} {L' : List Rl} (he : pressS L n.data.toList = (er, L')) :
    Calls Tryz.prog 47 #[.pointer (some ⟨d, 0, none⟩), .string n] w (DocR w d v er z L') := by
  have HAt := Lib.hid (fun W (h : DocAt W d v z L) => rat_any h (by omega) hs n)
  have HD := Lib.hid H
  unfold pressS at he
  cases hl : lookL n.data.toList L with
  | none =>
    rw [hl] at he
    simp only [Prod.mk.injEq] at he
    obtain ⟨rfl, rfl⟩ := he
    rw [hl, Option.isSome_none] at HAt
    clear H hs hl
    go_enter Tryz.func47, Tryz.ntmps47
    go_wp2_with fail
    refine (HAt.out _ HD.out).mono ?_
    rintro e w2 ⟨rfl, hb⟩
    have HB := Lib.hid hb
    clear hb
    go_wp2_with fail
    go_ret
    exact DocR.same HD.out HB.out
  | some c =>
    rw [hl] at he
    simp only [Prod.mk.injEq] at he
    obtain ⟨rfl, hL'⟩ := he
    have hkc := (look_place hs c).1 hl
    rw [put_there hs (by rw [hl]; rfl)] at hL'
    rw [hl, Option.isSome_some] at HAt
    have hkl := (List.getElem?_eq_some_iff.1 hkc).1
    generalize placeL n.data.toList L = k at HAt hkc hL' hkl
    have HL' := Lib.hid hL'
    have HKC := Lib.hid hkc
    clear H hs hL' hl hkc
    go_enter Tryz.func47, Tryz.ntmps47
    go_wp2_with fail
    refine (HAt.out _ HD.out).mono ?_
    rintro e w2 ⟨rfl, hb⟩
    have HD2 := Lib.hid (HD.out.low hb)
    have HB := Lib.hid hb
    obtain ⟨q, cap, rfl, g0, g1, g2, g3, gf⟩ := HD2.out.rw.get HKC.out
    have c1 := HD2.out.c1
    have gf2 := gf (k * 4 + 2)
    have gf3 := gf (k * 4 + 3)
    have HF1 := HD2.out.field HKC.out (j := 2) (by omega) (u := .int .i64 (c.s.size : Int)) (y := (n.data.toList, ⟨c.s, c.s.size, c.k⟩)) rfl
    have HF2 := Lib.hid (HF1.field (set_get HKC.out) (j := 3) (by omega) (u := .bool true) (y := (n.data.toList, ⟨c.s, c.s.size, true⟩)) rfl)
    clear hb HF1 gf
    go_wp2_with fail
    go_region
    all_goals
      go_wp2_with fail
      go_ret
      exact ⟨rfl, _, by rw [← HL'.out, ← List.set_set (a := (n.data.toList, (⟨c.s, c.s.size, c.k⟩ : Scr)))]; exact HF2.out.low (below_drewN (Below.refl _ _) 1), ((((Only.of_below HB.out).setCell (Or.inl (by rw [ownB_some]; simp)) _).setCell (Or.inl (by rw [ownB_some]; simp)) _).join (Only.of_below (S := []) (below_drewN (Below.refl _ _) 1)) (fun i hi => by simp at hi)), fun q hq => Or.inl hq⟩
end Go.Proofs.YtjblbjamceloaaaGreatDoor

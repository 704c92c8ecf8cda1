/- A chest of the document's: a roll cut. -/
import Derived.Test.YtjblbjamceloaaaGreatDoorVj
namespace Go.Proofs.YtjblbjamceloaaaGreatDoor
open Go.RowKit

set_option maxRecDepth 100000
set_option maxHeartbeats 6400000 in
theorem rcut_doc {w : World} {d : Nat} {v : Value} {z r : Int} {L : List Rl} (H : DocAt w d v z L) (hL : L.length < 800000) (hs : Rising L) (hk0 : OkL r L) (n : ByteArray) (t : Int) (ht : -9223372036854775808 ≤ t ∧ t ≤ 9223372036854775807) {er r' : Int} {L' : List Rl} (he : cutSp r L n.data.toList t = (er, r', L')) :
    Calls Tryz.prog 48 #[.pointer (some ⟨d, 0, none⟩), .string n, .int .i64 t] w (DocR w d v er z L') := by
  have HAt := Lib.hid (fun W (h : DocAt W d v z L) => rat_any h (by omega) hs n)
  have HD := Lib.hid H
  unfold cutSp at he
  cases hl : lookL n.data.toList L with
  | none =>
    rw [hl] at he
    simp only [Prod.mk.injEq] at he
    obtain ⟨rfl, -, rfl⟩ := he
    rw [hl, Option.isSome_none] at HAt
    clear H hs hl
    go_enter Tryz.func48, Tryz.ntmps48
    go_wp2_with fail
    refine (HAt.out _ HD.out).mono ?_
    rintro e w2 ⟨rfl, hb⟩
    have HB := Lib.hid hb
    clear hb
    go_wp2_with fail
    go_ret
    exact DocR.same HD.out HB.out
  | some c =>
    rw [hl] at he
    dsimp only at he
    have hkc := (look_place hs c).1 hl
    obtain ⟨hc1, hc2, hc3⟩ := hk0.look hl
    rw [put_there hs (by rw [hl]; rfl)] at he
    rw [hl, Option.isSome_some] at HAt
    have hkl := (List.getElem?_eq_some_iff.1 hkc).1
    generalize placeL n.data.toList L = k at HAt hkc he hkl
    have HKC := Lib.hid hkc
    clear H hs hl hkc hk0
    by_cases hbad : t < 0 ∨ (c.s.size : Int) < t
    · rw [if_pos hbad] at he
      simp only [Prod.mk.injEq] at he
      obtain ⟨rfl, -, rfl⟩ := he
      have hex : decide (t < 0) = true ∨ (decide (t < 0) = false ∧ decide ((c.s.size : Int) < t) = true) := by
        by_cases h : t < 0
        · exact Or.inl (decide_eq_true h)
        · exact Or.inr ⟨decide_eq_false h, decide_eq_true (by omega)⟩
      clear hbad
      go_enter Tryz.func48, Tryz.ntmps48
      go_wp2_with fail
      refine (HAt.out _ HD.out).mono ?_
      rintro e w2 ⟨rfl, hb⟩
      have HD2 := Lib.hid (HD.out.low hb)
      have HB := Lib.hid hb
      obtain ⟨q, cap, rfl, g0, g1, g2, g3, gf⟩ := HD2.out.rw.get HKC.out
      have c1 := HD2.out.c1
      clear hb
      rcases hex with h1 | ⟨h1, h2⟩
      · go_wp2_with fail
        go_ret
        exact DocR.same HD.out HB.out
      · go_wp2_with fail
        go_ret
        exact DocR.same HD.out HB.out
    · rw [if_neg hbad] at he
      simp only [Prod.mk.injEq] at he
      obtain ⟨rfl, -, hL'⟩ := he
      obtain ⟨tn, rfl⟩ := Int.eq_ofNat_of_zero_le (by omega : 0 ≤ t)
      have h1 : decide ((tn : Int) < 0) = false := decide_eq_false (by omega)
      have h2 : decide ((c.s.size : Int) < (tn : Int)) = false := decide_eq_false (by omega)
      have h3 : decide (c.s.size < tn) = false := decide_eq_false (by omega)
      obtain ⟨P, hP⟩ : ∃ P, c.s.extract 0 tn = P := ⟨_, rfl⟩
      have hslc : ∀ w, (Instr.slice 9 (.string c.s) none (some (.int .i64 (tn : Int))) none).run Tryz.prog w = .ok (.string P) w := fun w => by
        rw [← hP]; exact run_cutS c.s tn (by omega) (by omega) w
      rw [Int.toNat_natCast, hP] at hL'
      obtain ⟨mn, hmn⟩ : ∃ mn, min c.p (tn : Int) = mn := ⟨_, rfl⟩
      rw [hmn] at hL'
      have HL' := Lib.hid hL'
      clear hL' hP hbad
      exact rcut_good HD n HAt hkl HKC tn h1 h2 h3 P hslc mn hmn HL'
end Go.Proofs.YtjblbjamceloaaaGreatDoor

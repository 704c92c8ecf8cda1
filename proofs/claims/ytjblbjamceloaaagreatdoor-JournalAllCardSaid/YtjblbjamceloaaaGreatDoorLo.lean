/- What law1's pouch laws share. -/
import Derived.Test.YtjblbjamceloaaaGreatDoorN1
import Derived.Test.YtjblbjamceloaaaGreatDoorN2
import Derived.Test.YtjblbjamceloaaaGreatDoorDg
import Derived.Test.YtjblbjamceloaaaGreatDoorN9
namespace Go.Proofs.YtjblbjamceloaaaGreatDoor
open Go.RowKit

theorem cut_flat {P : Nat → Prop} {w : World} {k n : Int} {s : ByteArray} {v : Value} (h : PAtO P w (.mk k n s []) v) : ∃ a c, v = .agg #[.int .i64 k, .int .i64 n, .string s, .slice a 0 c] := by
  cases h with
  | mk _ _ _ _ a c vs hk hn hs hl hr hv => exact ⟨a, c, rfl⟩
theorem digits_at (n : Int) (D : ByteArray) (hD : Lib.itoa n = D.data.toList) (h0 : -9223372036854775808 ≤ n) (h1 : n ≤ 9223372036854775807) (w : World) :
    Calls Tryz.prog 61 #[.int .i64 n] w fun e w' => e = .returned (.string D) ∧ Below w.heap.size w w' := by
  have := rdigits n w h0 h1
  rwa [hD, Lib.mk_data] at this
/-- The text that the law builds: length, colon, what is told, an end. -/
theorem law_text (B : ByteArray) (e : UInt8) (hB : B.size ≤ 10000000) : ∃ N N1 N2 U : ByteArray, (∀ w, Calls Tryz.prog 61 #[.int .i64 (B.size : Int)] w fun e w' => e = .returned (.string N) ∧ Below w.heap.size w w') ∧
    (∀ w, (Op.stringOp .add N ⟨#[58]⟩).run Tryz.prog w = .ok (.string N1) w) ∧ (∀ w, (Op.stringOp .add N1 B).run Tryz.prog w = .ok (.string N2) w) ∧ (∀ w, (Op.stringOp .add N2 ⟨#[e]⟩).run Tryz.prog w = .ok (.string U) w) ∧ U.data.toList = wrapT B.data.toList e ∧ U.size ≤ 140737488355328 := by
  have hl : B.data.toList.length = B.size := (size_list B).symm
  have hd := itoa_len (v := (B.size : Int)) (by omega)
  have hw := wrapT_len B.data.toList e
  rw [hl] at hw
  obtain ⟨h1, h2, h3⟩ := cat3 B.data.toList e (by omega)
  rw [hl, Lib.mk_data] at h2
  rw [hl] at h1 h3
  refine ⟨_, _, _, ⟨(wrapT B.data.toList e).toArray⟩, fun w => rdigits (B.size : Int) w (by omega) (by omega), h1, h2, h3, rfl, ?_⟩
  show (wrapT B.data.toList e).length ≤ _
  omega
end Go.Proofs.YtjblbjamceloaaaGreatDoor

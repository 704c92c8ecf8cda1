/- What law1's pouch laws share. -/
import Derived.Test.YtchfphhelafbbaaDoorBg
import Derived.Test.YtchfphhelafbbaaDoorCb
import Derived.Test.YtchfphhelafbbaaDoorDg
import Derived.Test.YtchfphhelafbbaaDoorQc
namespace Go.Proofs.YtchfphhelafbbaaDoor
open Go.RowKit

theorem cut_flat {P : Nat → Prop} {w : World} {k n : Int} {s : ByteArray} {v : Value} (h : PAtO P w (.mk k n s []) v) : ∃ a c, v = .agg #[.int .i64 k, .int .i64 n, .string s, .slice a 0 c] := by
  cases h with
  | mk _ _ _ _ a c vs hk hn hs hl hr hv => exact ⟨a, c, rfl⟩
theorem all_flat {k n : Int} {u s : ByteArray} (h : pAll s = (.mk k n u [], 0)) (hs : s.size ≤ 140737488355328) (W : World) (L : Laid W) :
    Calls Tryd.prog 43 #[.string s] W fun e w' => ∃ a c, e = .returned (.tuple #[.agg #[.int .i64 k, .int .i64 n, .string u, .slice a 0 c], .int .i64 0]) ∧ Below W.heap.size W w' := by
  refine (All_any s W L hs).mono ?_
  rintro e w' ⟨v, hp, rfl, hb⟩
  rw [h] at hp ⊢
  obtain ⟨a, c, rfl⟩ := cut_flat hp
  exact ⟨a, c, rfl, hb⟩
theorem all_none {s : ByteArray} (h : pAll s = (pz, 1)) (hs : s.size ≤ 140737488355328) (W : World) (L : Laid W) :
    Calls Tryd.prog 43 #[.string s] W fun e w' => ∃ k n u a m c, e = .returned (.tuple #[.agg #[.int .i64 k, .int .i64 n, .string u, .slice a m c], .int .i64 1]) ∧ Below W.heap.size W w' := by
  refine (All_any s W L hs).mono ?_
  rintro e w' ⟨v, hp, rfl, hb⟩
  obtain ⟨k, n, u, a, m, c, rfl⟩ := hp.form
  exact ⟨k, n, u, a, m, c, by rw [h]; rfl, hb⟩
theorem digits_at (n : Int) (D : ByteArray) (hD : Lib.itoa n = D.data.toList) (h0 : -9223372036854775808 ≤ n) (h1 : n ≤ 9223372036854775807) (w : World) :
    Calls Tryd.prog 42 #[.int .i64 n] w fun e w' => e = .returned (.string D) ∧ Below w.heap.size w w' := by
  have := rdigits n w h0 h1
  rwa [hD, Lib.mk_data] at this
/-- The text that the law builds: length, colon, what is told, an end. -/
theorem law_text (B : ByteArray) (e : UInt8) (hB : B.size ≤ 10000000) : ∃ N N1 N2 U : ByteArray, (∀ w, Calls Tryd.prog 42 #[.int .i64 (B.size : Int)] w fun e w' => e = .returned (.string N) ∧ Below w.heap.size w w') ∧
    (∀ w, (Op.stringOp .add N ⟨#[58]⟩).run Tryd.prog w = .ok (.string N1) w) ∧ (∀ w, (Op.stringOp .add N1 B).run Tryd.prog w = .ok (.string N2) w) ∧ (∀ w, (Op.stringOp .add N2 ⟨#[e]⟩).run Tryd.prog w = .ok (.string U) w) ∧ U.data.toList = wrapT B.data.toList e ∧ U.size ≤ 140737488355328 := by
  have hl : B.data.toList.length = B.size := (size_list B).symm
  have hd := itoa_len (v := (B.size : Int)) (by omega)
  have hw := wrapT_len B.data.toList e
  rw [hl] at hw
  obtain ⟨h1, h2, h3⟩ := cat3 B.data.toList e (by omega)
  rw [hl, Lib.mk_data] at h2
  rw [hl] at h1 h3
  refine ⟨_, _, _, ⟨(wrapT B.data.toList e).toArray⟩, fun w => rdigits (B.size : Int) w (by omega) (by omega), h1, h2, h3, rfl, ?_⟩
  show (wrapT B.data.toList e).length ≤ _
  omega
end Go.Proofs.YtchfphhelafbbaaDoor

/- Walks of the document's On, Mark. -/
import Derived.Test.YtdpkmcbpeloljaaDoorGh
import Derived.Deep.CutRange
namespace Go.Proofs.YtdpkmcbpeloljaaDoor
open Go.RowKit

theorem rmul35 (p : ZP) (w : World) : Calls Tryd.prog 22 #[.agg #[.int .i64 (norm p).1, .int .i64 (norm p).2], .agg #[.int .i64 3, .int .i64 5]] w fun e w' => e = .returned (zv (norm (cmul p (3, 5)))) ∧ Below w.heap.size w w' := rmul_norm p (3, 5) w
theorem raddb (p : ZP) (b : UInt8) (w : World) : Calls Tryd.prog 48 #[.agg #[.int .i64 (norm p).1, .int .i64 (norm p).2], .agg #[.int .i64 ((b.toNat : Int) + 1), .int .i64 0]] w fun e w' => e = .returned (zv (norm (cadd p ((b.toNat : Int) + 1, 0)))) ∧ Below w.heap.size w w' := by
  have hb := b.toNat_lt
  have h1 := norm_bd p
  refine (radd (norm p) ((b.toNat : Int) + 1, 0) w (by omega) (by dsimp only; omega)).mono ?_
  rintro e w' ⟨rfl, hb⟩
  exact ⟨by rw [norm_same ((same_norm p).add (Same.refl _))], hb⟩
def OnR (w : World) (p : ZP) (W : World) : Prop := bxZ w.heap.size p W ∧ Box2 (w.heap.size + 1) (.int .i64 0) (.int .i64 0) W ∧ Below w.heap.size w W
theorem OnR.keep {w W W' : World} {p : ZP} (h : OnR w p W) (hb : Below W.heap.size W W') : OnR w p W' := ⟨h.1.keep hb, h.2.1.keep hb, below_on h.2.2 hb⟩
theorem OnR.set {w W : World} {p : ZP} (h : OnR w p W) (u' : ZP) : OnR w u' ((W.setCell ⟨w.heap.size, 0, none⟩ (.int .i64 (norm u').1)).setCell ⟨w.heap.size, 1, none⟩ (.int .i64 (norm u').2)) :=
  ⟨h.1.set _ _, h.2.1.other (by omega) _ _, below_set2 h.2.2 (by omega) _ _⟩
theorem OnR.start (w : World) (p : ZP) (t : TypeId) : OnR w p ((w.alloc (.cells #[.int .i64 (norm p).1, .int .i64 (norm p).2] t)).alloc (.cells #[.int .i64 0, .int .i64 0] t)) := by
  refine ⟨⟨?_, ?_, ?_, ?_⟩, ⟨?_, ?_, ?_, ?_⟩, below_alloc (below_alloc (Below.refl _ _) _) _⟩ <;> simp [go_sem]
theorem str_next (s : ByteArray) (k : Nat) (h : k < s.size) : s.data.toList.take (k + 1) = s.data.toList.take k ++ [s[k]] := by
  rw [List.take_succ_eq_append_getElem (by simpa using h)]; rfl
set_option maxRecDepth 100000 in
set_option maxHeartbeats 1600000 in
theorem ron (p : ZP) (s : ByteArray) (w : World) (hs : s.size ≤ 9223372036854775807) :
    Calls Tryd.prog 31 #[zv (norm p), .string s] w fun e w' => e = .returned (zv (norm (con p s.data.toList))) ∧ Below w.heap.size w w' := by
  have H := Lib.hid (OnR.start w p 45)
  go_enter Tryd.func31, Tryd.ntmps31
  go_wp2_with fail
  generalize ((w.alloc (.cells #[.int .i64 (norm p).1, .int .i64 (norm p).2] 45)).alloc (.cells #[.int .i64 0, .int .i64 0] 45)) = V at H ⊢
  go_loopw [5] (fun i wr => ∃ k : Nat, k ≤ s.size ∧ i = .int .i64 k ∧ OnR w (con p (s.data.toList.take k)) wr) (fun i _ => s.size - (intOf i).toNat)
  case atStart => exact ⟨0, Nat.zero_le _, rfl, H.out⟩
  case round =>
    obtain ⟨k, hk, rfl, hS⟩ := hrel
    have HS := Lib.hid hS
    obtain ⟨⟨x0, x1, x2, x3⟩, ⟨y0, y1, y2, y3⟩, -⟩ := hS
    clear H
    by_cases hlt : k < s.size
    · have HN := Lib.hid (str_next s k hlt)
      have hb := (s[k]).toNat_lt
      have q0 : (k : Int) < (s.size : Int) := by omega
      have q2 : IntKind.i64.wrap ((s[k]).toNat : Int) = ((s[k]).toNat : Int) := IntWalk.i64_in _ (by omega)
      have q1 : IntKind.i64.wrap (((s[k]).toNat : Int) + 1) = ((s[k]).toNat : Int) + 1 := IntWalk.i64_in _ (by omega)
      go_wp2_with fail
      obtain ⟨wo, rfl⟩ : ∃ wo : World, wo = wr := ⟨_, rfl⟩
      have HD := Lib.hid (HS.out.keep (Below.refl _ _).drew)
      clear x0 x1 x2 x3 y0 y1 y2 y3
      obtain ⟨⟨x0, x1, x2, x3⟩, -⟩ := HD.out
      go_region_with (first | (go_at_call 22; (with_reducible refine (rmul35 _ _).mono ?_); rintro e' w1 ⟨rfl, hb1⟩; have HK := Lib.hid (HD.out.keep hb1); clear hb1) | (go_at_call 48; (with_reducible refine (raddb _ _ _).mono ?_); rintro e' w2 ⟨rfl, hb2⟩; have HK2 := Lib.hid (HK.out.keep hb2); clear x0 x1 x2 x3 hb2; obtain ⟨⟨x0, x1, x2, x3⟩, -⟩ := HK2.out))
      all_goals
        go_wp2_with fail
        go_roundw
        case rel => exact ⟨k + 1, by omega, by go_num, by rw [HN.out, con_snoc]; exact HK2.out.set (cstep (con p (s.data.toList.take k)) s[k])⟩
        case measure => simp [intOf]; omega
    · have hkn : k = s.size := by omega
      have HT := Lib.hid (show s.data.toList.take k = s.data.toList by rw [hkn]; exact List.take_of_length_le (by simp))
      rw [HT.out] at HS x0 x1
      clear hkn
      go_wp2_with fail
      obtain ⟨q0, q1⟩ := set_two (.int .i64 (norm (con p s.data.toList)).1) (.int .i64 (norm (con p s.data.toList)).2) y0 y1
      refine bodyPost_ret (v := zv (norm (con p s.data.toList))) (by simp [results, Tryd.results31, go_sem, q0, q1, zv]) rfl ⟨rfl, ?_⟩
      exact below_set2 HS.out.2.2 (by omega) _ _
theorem ron01 (s : ByteArray) (w : World) (hs : s.size ≤ 9223372036854775807) :
    Calls Tryd.prog 31 #[.agg #[.int .i64 0, .int .i64 1], .string s] w fun e w' => e = .returned (zv (norm (cmark s.data.toList))) ∧ Below w.heap.size w w' := ron (0, 1) s w hs
set_option maxRecDepth 100000 in
set_option maxHeartbeats 800000 in
theorem rmark (s : ByteArray) (w : World) (hs : s.size ≤ 9223372036854775807) :
    Calls Tryd.prog 23 #[.string s] w fun e w' => e = .returned (zv (norm (cmark s.data.toList))) ∧ Below w.heap.size w w' := by
  have hx : Box2 w.heap.size (.int .i64 0) (.int .i64 0) (w.alloc (.cells #[.int .i64 0, .int .i64 0] 45)) := by
    refine ⟨?_, ?_, ?_, ?_⟩ <;> simp [go_sem]
  have HX := Lib.hid hx
  have HL : Hid (Below w.heap.size w (w.alloc (.cells #[.int .i64 0, .int .i64 0] 45))) := Lib.hid (below_alloc (Below.refl _ _) _)
  clear hx
  go_enter Tryd.func23, Tryd.ntmps23
  go_wp2_with (go_at_call 31; refine (ron01 _ _ hs).mono ?_; rintro e' w1 ⟨rfl, hb⟩; obtain ⟨x0, x1, x2, x3⟩ := HX.out.keep hb; replace HL := Lib.hid (below_on HL.out hb); clear hb)
  obtain ⟨y0, y1⟩ := set_two (.int .i64 (norm (cmark s.data.toList)).1) (.int .i64 (norm (cmark s.data.toList)).2) x0 x1
  refine bodyPost_ret (v := zv (norm (cmark s.data.toList))) (by simp [results, Tryd.results23, go_sem, y0, y1, zv]) rfl ⟨rfl, ?_⟩
  exact below_set2 HL.out (Nat.le_refl _) _ _
end Go.Proofs.YtdpkmcbpeloljaaDoor

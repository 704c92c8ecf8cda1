/- Walks of pouch.Get, pouch.All. -/
import Derived.Test.YtdpkmcbpeloljaaDoorPk
namespace Go.Proofs.YtdpkmcbpeloljaaDoor
open Go.RowKit

/-- The value at a text's beginning, which may be. -/
def pGet (s : ByteArray) : PV × Nat × Nat := if (getP 6 s).2.2 = 0 ∧ pmay (getP 6 s).1 = false then (pz, 0, 1) else getP 6 s
/-- The value that is all of a text. -/
def pAll (s : ByteArray) : PV × Nat := if (pGet s).2.2 ≠ 0 ∨ (pGet s).2.1 ≠ s.size then (pz, 1) else ((pGet s).1, 0)
theorem pGet_bd (s : ByteArray) : (pGet s).2.2 ≤ 2 ∧ (pGet s).2.1 ≤ s.size := by
  have := getP_bd 6 s
  unfold pGet
  split
  · simp only; omega
  · omega
def AllR (w : World) (r : PV × Nat) (e : Ending) (w' : World) : Prop := ∃ v, PAtO (fun b => w.heap.size ≤ b) w' r.1 v ∧ e = .returned (.tuple #[v, .int .i64 r.2]) ∧ Below w.heap.size w w'
theorem atO_set4 {w : World} {V : Nat} {w2 : World} {x : PV} {v : Value} {t0 t1 t2 t3 : Value} (h : PAtO (fun b => V ≤ b) w2 x v) (hV : w.heap.size < V) :
    PAtO (fun b => w.heap.size ≤ b) ((((w2.setCell ⟨w.heap.size, 0, none⟩ t0).setCell ⟨w.heap.size, 1, none⟩ t1).setCell ⟨w.heap.size, 2, none⟩ t2).setCell ⟨w.heap.size, 3, none⟩ t3) x v :=
  h.move (by simp) fun b _ hP => ⟨by omega, fun i => by rw [set4_other (by omega)]⟩
set_option maxRecDepth 100000 in
set_option maxHeartbeats 6400000 in
theorem Get_any (s : ByteArray) (w : World) (L : Laid w) (hs : s.size ≤ 140737488355328) :
    Calls Tryd.prog 33 #[.string s] w (GetR w (pGet s)) := by
  have HX := Lib.hid (Box4.new w (.int .i64 0) (.int .i64 0) (.string ⟨#[]⟩) (.slice none 0 0) 59)
  have B1 : Hid (Below w.heap.size w (w.alloc (.cells #[.int .i64 0, .int .i64 0, .string ⟨#[]⟩, .slice none 0 0] 59))) := Lib.hid (below_alloc (Below.refl _ _) _)
  have HG := get_any 6 1 rfl s (w.alloc (.cells #[.int .i64 0, .int .i64 0, .string ⟨#[]⟩, .slice none 0 0] 59)) (L.keep B1.out) hs
  obtain ⟨⟨x, n, er⟩, hr⟩ : ∃ r, getP 6 s = r := ⟨_, rfl⟩
  rw [hr] at HG
  have HG := Lib.hid HG
  have HE := Lib.hid (show pGet s = if er = 0 ∧ pmay x = false then (pz, 0, 1) else (x, n, er) by unfold pGet; rw [hr])
  obtain ⟨R, hR⟩ : ∃ R, pGet s = R := ⟨_, rfl⟩
  rw [hR] at HE ⊢
  clear hr hR
  by_cases her : er = 0
  · have q1 : ((er : Int) == 0) = true := by simp; omega
    obtain ⟨m, hm⟩ : ∃ m, pmay x = m := ⟨_, rfl⟩
    cases m with
    | true =>
      have HR := Lib.hid (show R = (x, n, er) by rw [HE.out, if_neg (by rw [hm]; simp)])
      have HM := Lib.hid hm
      clear hm her
      go_enter Tryd.func33, Tryd.ntmps33
      go_wp2_with (first | (go_at_call 52; refine HG.out.mono ?_; rintro e' w1 ⟨v1, hp, rfl, hb⟩; obtain ⟨k1, n1, s1, a1, m1, c1, rfl⟩ := hp.form; have B2 := Lib.hid (below_on B1.out hb); have HP := Lib.hid hp; have X2 := Lib.hid ((HX.out.keep hb).keep (below_alloc (Below.refl _ _) (.cells #[.int .i64 k1, .int .i64 n1, .string s1, .slice a1 m1 c1] 59))); have Y2 := Lib.hid (Box4.new w1 (.int .i64 k1) (.int .i64 n1) (.string s1) (.slice a1 m1 c1) 59); clear hb hp) | (go_at_call 49; refine (may_pv (HP.out.pat.keep (below_alloc (Below.refl _ _) _))).mono ?_; rw [HM.out]; rintro e' w3 ⟨rfl, hb3⟩; have X3 := Lib.hid (X2.out.keep hb3); have Y3 := Lib.hid (Y2.out.keep hb3); have B3 := Lib.hid (below_on B2.out (below_on (below_alloc (Below.refl _ _) _) hb3)); have HP3 := Lib.hid ((HP.out.keep (below_alloc (Below.refl _ _) _)).keep hb3); obtain ⟨⟨z0, z1, z2, z3⟩, f0, f1, f2, f3⟩ := X3.out; obtain ⟨⟨p0, p1, p2, p3⟩, -⟩ := Y3.out; clear hb3))
      obtain ⟨y0, y1, y2, y3⟩ := set_four (.int .i64 k1) (.int .i64 n1) (.string s1) (.slice a1 m1 c1) X3.out
      refine bodyPost_ret (v := .tuple #[.agg #[.int .i64 k1, .int .i64 n1, .string s1, .slice a1 m1 c1], .int .i64 n, .int .i64 er]) (by simp [results, Tryd.results33, go_sem, y0, y1, y2, y3]) rfl ?_
      rw [HR.out]
      exact ⟨_, atO_set4 HP3.out (by simp), rfl, below_set4 B3.out (Nat.le_refl _) _ _ _ _⟩
    | false =>
      have HR := Lib.hid (show R = (pz, 0, 1) by rw [HE.out, if_pos ⟨her, hm⟩])
      have HM := Lib.hid hm
      clear hm her
      go_enter Tryd.func33, Tryd.ntmps33
      go_wp2_with (first | (go_at_call 52; refine HG.out.mono ?_; rintro e' w1 ⟨v1, hp, rfl, hb⟩; obtain ⟨k1, n1, s1, a1, m1, c1, rfl⟩ := hp.form; have B2 := Lib.hid (below_on B1.out hb); have HP := Lib.hid hp; have X2 := Lib.hid ((HX.out.keep hb).keep (below_alloc (Below.refl _ _) (.cells #[.int .i64 k1, .int .i64 n1, .string s1, .slice a1 m1 c1] 59))); have Y2 := Lib.hid (Box4.new w1 (.int .i64 k1) (.int .i64 n1) (.string s1) (.slice a1 m1 c1) 59); clear hb hp) | (go_at_call 49; refine (may_pv (HP.out.pat.keep (below_alloc (Below.refl _ _) _))).mono ?_; rw [HM.out]; rintro e' w3 ⟨rfl, hb3⟩; have X3 := Lib.hid (X2.out.keep hb3); have Y3 := Lib.hid (Y2.out.keep hb3); have B3 := Lib.hid (below_on B2.out (below_on (below_alloc (Below.refl _ _) _) hb3)); have HP3 := Lib.hid ((HP.out.keep (below_alloc (Below.refl _ _) _)).keep hb3); obtain ⟨⟨z0, z1, z2, z3⟩, f0, f1, f2, f3⟩ := X3.out; obtain ⟨⟨p0, p1, p2, p3⟩, -⟩ := Y3.out; clear hb3))
      obtain ⟨y0, y1, y2, y3⟩ := set_four (.int .i64 0) (.int .i64 0) (.string ⟨#[]⟩) (.slice none 0 0) X3.out
      refine bodyPost_ret (v := .tuple #[.agg #[.int .i64 0, .int .i64 0, .string ⟨#[]⟩, .slice none 0 0], .int .i64 0, .int .i64 1]) (by simp [results, Tryd.results33, go_sem, y0, y1, y2, y3]) rfl ?_
      rw [HR.out]
      exact ⟨_, pz_atO _ _, rfl, below_set4 B3.out (Nat.le_refl _) _ _ _ _⟩
  · have q1 : ((er : Int) == 0) = false := by simp; omega
    have HR := Lib.hid (show R = (x, n, er) by rw [HE.out, if_neg (fun h => her h.1)])
    clear her
    go_enter Tryd.func33, Tryd.ntmps33
    go_upto_region 2 with (go_at_call 52; refine HG.out.mono ?_; rintro e' w1 ⟨v1, hp, rfl, hb⟩; obtain ⟨k1, n1, s1, a1, m1, c1, rfl⟩ := hp.form; have B2 := Lib.hid (below_on (below_on B1.out hb) (below_alloc (Below.refl _ _) (.cells #[.int .i64 k1, .int .i64 n1, .string s1, .slice a1 m1 c1] 59))); have HP := Lib.hid (hp.keep (below_alloc (Below.refl _ _) (.cells #[.int .i64 k1, .int .i64 n1, .string s1, .slice a1 m1 c1] 59))); have X2 := Lib.hid ((HX.out.keep hb).keep (below_alloc (Below.refl _ _) (.cells #[.int .i64 k1, .int .i64 n1, .string s1, .slice a1 m1 c1] 59))); have Y2 := Lib.hid (Box4.new w1 (.int .i64 k1) (.int .i64 n1) (.string s1) (.slice a1 m1 c1) 59); clear hb hp)
    generalize (w1.alloc (.cells #[.int .i64 k1, .int .i64 n1, .string s1, .slice a1 m1 c1] 59)) = W2 at B2 HP X2 Y2 ⊢
    obtain ⟨⟨z0, z1, z2, z3⟩, f0, f1, f2, f3⟩ := X2.out
    obtain ⟨⟨p0, p1, p2, p3⟩, -⟩ := Y2.out
    go_wp2_with fail
    obtain ⟨y0, y1, y2, y3⟩ := set_four (.int .i64 k1) (.int .i64 n1) (.string s1) (.slice a1 m1 c1) X2.out
    refine bodyPost_ret (v := .tuple #[.agg #[.int .i64 k1, .int .i64 n1, .string s1, .slice a1 m1 c1], .int .i64 n, .int .i64 er]) (by simp [results, Tryd.results33, go_sem, y0, y1, y2, y3]) rfl ?_
    rw [HR.out]
    exact ⟨_, atO_set4 HP.out (by simp), rfl, below_set4 B2.out (Nat.le_refl _) _ _ _ _⟩
end Go.Proofs.YtdpkmcbpeloljaaDoor

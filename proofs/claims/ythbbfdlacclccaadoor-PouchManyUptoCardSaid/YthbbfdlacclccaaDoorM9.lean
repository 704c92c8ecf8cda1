/- Walk of pouch.get. Walks of pouch.Get, pouch.All. What law1's begun reckons, by the kernel. Equality of numbers. -/
import Derived.Test.YthbbfdlacclccaaDoorPj
import Derived.Test.YthbbfdlacclccaaDoorM5
namespace Go.Proofs.YthbbfdlacclccaaDoor
open Go.RowKit

theorem Box4.set {B : Nat} {c0 c1 c2 c3 : Value} {W : World} (u0 u1 u2 u3 : Value) (h : Box4 B c0 c1 c2 c3 W) : Box4 B u0 u1 u2 u3 ((((W.setCell ⟨B, 0, none⟩ u0).setCell ⟨B, 1, none⟩ u1).setCell ⟨B, 2, none⟩ u2).setCell ⟨B, 3, none⟩ u3) := by
  obtain ⟨h0, h1, h2, h3⟩ := set_four u0 u1 u2 u3 h
  obtain ⟨-, f0, f1, f2, f3⟩ := h
  refine ⟨⟨?_, ?_, ?_, h3⟩, by simp [f0], by simp [f1], by simp [f2], by simp [f3]⟩
  · rw [World.cell?_setCell_other _ _ _ _ (by simp), World.cell?_setCell_other _ _ _ _ (by simp), World.cell?_setCell_other _ _ _ _ (by simp)]; exact h0
  · rw [World.cell?_setCell_other _ _ _ _ (by simp), World.cell?_setCell_other _ _ _ _ (by simp)]; exact h1
  · rw [World.cell?_setCell_other _ _ _ _ (by simp)]; exact h2
theorem Box4.set' {B B' : Nat} {c0 c1 c2 c3 : Value} {W : World} (u0 u1 u2 u3 : Value) (h : Box4 B c0 c1 c2 c3 W) (hne : B ≠ B') : Box4 B c0 c1 c2 c3 ((((W.setCell ⟨B', 0, none⟩ u0).setCell ⟨B', 1, none⟩ u1).setCell ⟨B', 2, none⟩ u2).setCell ⟨B', 3, none⟩ u3) :=
  (((h.put hne _ _).put hne _ _).put hne _ _).put hne _ _
theorem getP_zero (f : Nat) {s : ByteArray} (h : (sizeP s.data.toList).2.2 ≠ 0) : getP f s = (pz, 0, (sizeP s.data.toList).2.2) := by
  cases f <;> (unfold getP; rw [if_pos h])
theorem index_at (s : ByteArray) (i : Nat) (h : i < s.size) (k : Int) (hk : k = (i : Int)) (w : World) : (Instr.index 9 (.string s) (.int .i64 k)).run Tryd.prog w = .ok (.int .u8 ((s.data.toList.getD i 0).toNat : Int)) w := by
  subst hk
  rw [run_index_string w _ _ _ _ Tryd.underlying9, dif_pos (by omega)]
  have h' : i < s.data.toList.length := by simpa using h
  have e : s.data.toList.getD i 0 = s[i] := by
    rw [List.getD, List.getElem?_eq_getElem h']; rfl
  rw [e]; simp
theorem slice_at (s : ByteArray) (i j : Nat) (hij : i ≤ j) (h : j ≤ s.size) (k : Int) (hk : k = (j : Int)) (w : World) : (Instr.slice 9 (.string s) (some (.int .i64 (i : Int))) (some (.int .i64 k)) none).run Tryd.prog w = .ok (.string (s.extract i j)) w := by
  subst hk
  rw [run_slice_string w _ _ _ _ _ _ Tryd.underlying9 (by omega) (by omega) (by omega)]
  simp
theorem getP_succ (f : Nat) {s : ByteArray} {n a : Nat} (h : sizeP s.data.toList = (n, a, 0)) (hl : a + n < s.size) : getP (f + 1) s =
    if (s.data.toList.getD (a + n) 0).toNat = 35 then
      match numP (s.extract a (a + n)).data.toList with
      | some v => (.mk 1 v ⟨#[]⟩ [], a + n + 1, 0)
      | none => (pz, 0, 1)
    else if (s.data.toList.getD (a + n) 0).toNat = 93 then
      match listP (getP f) 6000 (s.extract a (a + n)) [] with
      | some l => (.mk 3 0 ⟨#[]⟩ l, a + n + 1, 0)
      | none => (pz, 0, 1)
    else if (s.data.toList.getD (a + n) 0).toNat = 44 then (.mk 2 0 (s.extract a (a + n)) [], a + n + 1, 0)
    else (pz, 0, 1) := by
  rw [getP, h, if_neg (by simp), if_neg (by simp only; omega)]
  rfl
/-- The two boxes of get, all below as it was. -/
def GetS (w : World) (c0 c1 c2 c3 : Value) (W : World) : Prop := Box4 w.heap.size (.int .i64 0) (.int .i64 0) (.string ⟨#[]⟩) (.slice none 0 0) W ∧ Box4 (w.heap.size + 1) c0 c1 c2 c3 W ∧ Below w.heap.size w W
theorem GetS.keep {w W W' : World} {c0 c1 c2 c3 : Value} (h : GetS w c0 c1 c2 c3 W) (hb : Below W.heap.size W W') : GetS w c0 c1 c2 c3 W' := ⟨h.1.keep hb, h.2.1.keep hb, below_on h.2.2 hb⟩
theorem GetS.start (w : World) (c0 c1 c2 c3 : Value) (t : TypeId) : GetS w c0 c1 c2 c3 ((w.alloc (.cells #[.int .i64 0, .int .i64 0, .string ⟨#[]⟩, .slice none 0 0] t)).alloc (.cells #[c0, c1, c2, c3] t)) := by
  refine ⟨(Box4.new w _ _ _ _ t).keep (below_alloc (Below.refl _ _) _), ?_, below_alloc (below_alloc (Below.refl _ _) _) _⟩
  have := Box4.new (w.alloc (.cells #[.int .i64 0, .int .i64 0, .string ⟨#[]⟩, .slice none 0 0] t)) c0 c1 c2 c3 t
  simpa using this
theorem GetS.set {w W : World} {c0 c1 c2 c3 : Value} (u0 u1 u2 u3 : Value) (h : GetS w c0 c1 c2 c3 W) : GetS w u0 u1 u2 u3 ((((W.setCell ⟨w.heap.size + 1, 0, none⟩ u0).setCell ⟨w.heap.size + 1, 1, none⟩ u1).setCell ⟨w.heap.size + 1, 2, none⟩ u2).setCell ⟨w.heap.size + 1, 3, none⟩ u3) :=
  ⟨h.1.set' u0 u1 u2 u3 (by omega), h.2.1.set u0 u1 u2 u3, below_set4 h.2.2 (by omega) _ _ _ _⟩
theorem flat_atO (P : Nat → Prop) (w : World) (k n : Int) (s : ByteArray) (hk : -9223372036854775808 ≤ k ∧ k ≤ 9223372036854775807) (hn : -9223372036854775808 ≤ n ∧ n ≤ 9223372036854775807) (hs : s.size ≤ 9223372036854775807) :
    PAtO P w (.mk k n s []) (.agg #[.int .i64 k, .int .i64 n, .string s, .slice none 0 0]) :=
  .mk k n s [] none 0 (fun _ => undef) hk hn hs (by decide) (Or.inl rfl) (fun j x h => by simp at h) (Nat.le_refl _)
theorem numP_bd {l : List UInt8} {v : Int} (h : numP l = some v) : -9223372036854775808 ≤ v ∧ v ≤ 9223372036854775807 := by
  unfold numP at h
  split at h
  · rename_i u hu
    have := Lib.parseIntB_bounds hu
    split at h
    · simp only [Option.some.injEq] at h; subst h; omega
    · cases h
  · cases h
/-- Behind the two stores of four cells a tree in later blocks stands as it was. -/
theorem atO_set8 {w V w2 : World} {x : PV} {v : Value} {u0 u1 u2 u3 t0 t1 t2 t3 : Value} (h : PAtO (fun b => V.heap.size ≤ b) w2 x v) (hV : w.heap.size + 1 < V.heap.size) :
    PAtO (fun b => w.heap.size ≤ b) ((((((((w2.setCell ⟨w.heap.size + 1, 0, none⟩ u0).setCell ⟨w.heap.size + 1, 1, none⟩ u1).setCell ⟨w.heap.size + 1, 2, none⟩ u2).setCell ⟨w.heap.size + 1, 3, none⟩ u3).setCell ⟨w.heap.size, 0, none⟩ t0).setCell ⟨w.heap.size, 1, none⟩ t1).setCell ⟨w.heap.size, 2, none⟩ t2).setCell ⟨w.heap.size, 3, none⟩ t3) x v :=
  h.move (by simp) fun b _ hP => ⟨by omega, fun i => by rw [set4_other (by omega), set4_other (by omega)]⟩
set_option maxRecDepth 100000 in
set_option maxHeartbeats 6400000 in
theorem get_any : ∀ (f d : Nat), d + f = 7 → ∀ (s : ByteArray) (w : World), Laid w → s.size ≤ 140737488355328 →
    Calls Tryd.prog 21 #[.string s, .int .i64 d] w (GetR w (getP f s)) := by
  intro f
  induction f with
  | zero =>
    intro d hd s w L hs
    have HX := Lib.hid (Box4.new w (.int .i64 0) (.int .i64 0) (.string ⟨#[]⟩) (.slice none 0 0) 27)
    obtain ⟨⟨n, at', er⟩, hr⟩ : ∃ r, sizeP s.data.toList = r := ⟨_, rfl⟩
    have HZ := size_any s (w.alloc (.cells #[.int .i64 0, .int .i64 0, .string ⟨#[]⟩, .slice none 0 0] 27)) (by omega)
    rw [hr] at HZ
    have HZ := Lib.hid HZ
    have B1 : Hid (Below w.heap.size w (w.alloc (.cells #[.int .i64 0, .int .i64 0, .string ⟨#[]⟩, .slice none 0 0] 27))) := Lib.hid (below_alloc (Below.refl _ _) _)
    by_cases her : er = 0
    · have HF := Lib.hid (show getP 0 s = (pz, 0, 1) by unfold getP; rw [hr]; simp [her])
      rw [HF.out]
      subst her
      have e1 : decide ((6 : Int) < (d : Int)) = true := decide_eq_true (by omega)
      have e1n : decide (6 < d) = true := decide_eq_true (by omega)
      clear hr
      go_enter Tryd.func21, Tryd.ntmps21
      go_wp2_with (go_at_call 33; refine HZ.out.mono ?_; rintro e' w1 ⟨rfl, rfl⟩)
      refine bodyPost_ret (v := .tuple #[.agg #[.int .i64 0, .int .i64 0, .string ⟨#[]⟩, .slice none 0 0], .int .i64 0, .int .i64 1]) (by simp [results, Tryd.results21, go_sem]) rfl ?_
      exact ⟨_, pz_atO _ _, rfl, below_alloc (Below.refl _ _) _⟩
    · have HF := Lib.hid (show getP 0 s = (pz, 0, er) by rw [getP_zero 0 (by rw [hr]; exact her), hr])
      rw [HF.out]
      have en : ((er : Int) != 0) = true := by simp [her]
      clear hr
      go_enter Tryd.func21, Tryd.ntmps21
      go_wp2_with (go_at_call 33; refine HZ.out.mono ?_; rintro e' w1 ⟨rfl, rfl⟩)
      refine bodyPost_ret (v := .tuple #[.agg #[.int .i64 0, .int .i64 0, .string ⟨#[]⟩, .slice none 0 0], .int .i64 0, .int .i64 er]) (by simp [results, Tryd.results21, go_sem]) rfl ?_
      exact ⟨_, pz_atO _ _, rfl, below_alloc (Below.refl _ _) _⟩
  | succ f ih =>
    intro d hd s w L hs
    have HIH := Lib.hid ih
    clear ih
    have HX := Lib.hid (Box4.new w (.int .i64 0) (.int .i64 0) (.string ⟨#[]⟩) (.slice none 0 0) 27)
    obtain ⟨⟨n, at', er⟩, hr⟩ : ∃ r, sizeP s.data.toList = r := ⟨_, rfl⟩
    have HZ := size_any s (w.alloc (.cells #[.int .i64 0, .int .i64 0, .string ⟨#[]⟩, .slice none 0 0] 27)) (by omega)
    have hsb := sizeR_bd s.data.toList 0 0 (by decide) (by decide)
    rw [show sizeR s.data.toList 0 0 = sizeP s.data.toList from rfl, hr] at hsb
    rw [hr] at HZ
    have HZ := Lib.hid HZ
    have B1 : Hid (Below w.heap.size w (w.alloc (.cells #[.int .i64 0, .int .i64 0, .string ⟨#[]⟩, .slice none 0 0] 27))) := Lib.hid (below_alloc (Below.refl _ _) _)
    by_cases her : er = 0
    · subst her
      obtain ⟨hn7, ha8, -⟩ := hsb
      dsimp only at hn7 ha8
      have e1 : decide ((6 : Int) < (d : Int)) = false := decide_eq_false (by omega)
      have e1n : decide (6 < d) = false := decide_eq_false (by omega)
      by_cases hle : s.size ≤ at' + n
      · have HF := Lib.hid (show getP (f + 1) s = (pz, 0, 2) by rw [getP, hr, if_neg (by simp), if_pos hle])
        have e2 : decide ((s.size : Int) ≤ (at' : Int) + (n : Int)) = true := decide_eq_true (by omega)
        rw [HF.out]
        clear hr HIH
        go_enter Tryd.func21, Tryd.ntmps21
        go_wp2_with (go_at_call 33; refine HZ.out.mono ?_; rintro e' w1 ⟨rfl, rfl⟩)
        refine bodyPost_ret (v := .tuple #[.agg #[.int .i64 0, .int .i64 0, .string ⟨#[]⟩, .slice none 0 0], .int .i64 0, .int .i64 2]) (by simp [results, Tryd.results21, go_sem]) rfl ?_
        exact ⟨_, pz_atO _ _, rfl, below_alloc (Below.refl _ _) _⟩
      · have hlt : at' + n < s.size := by omega
        have HF := Lib.hid (getP_succ f hr hlt)
        rw [HF.out]
        clear hr HF
        have e2 : decide ((s.size : Int) ≤ (at' : Int) + (n : Int)) = false := decide_eq_false (by omega)
        obtain ⟨c, hc⟩ : ∃ c, (s.data.toList.getD (at' + n) 0).toNat = c := ⟨_, rfl⟩
        obtain ⟨x, hx⟩ : ∃ x, s.extract at' (at' + n) = x := ⟨_, rfl⟩
        have hix := index_at s (at' + n) hlt ((at' : Int) + (n : Int)) (by omega)
        have hsl := slice_at s at' (at' + n) (by omega) (by omega) ((at' : Int) + (n : Int)) (by omega)
        have hxs : x.size ≤ 140737488355328 := by rw [← hx, ByteArray.size_extract]; omega
        rw [hc] at hix ⊢
        rw [hx] at hsl ⊢
        clear hc hx hle
        have HS := Lib.hid (GetS.start w (.int .i64 2) (.int .i64 0) (.string x) (.slice none 0 0) 27)
        have HL := Lib.hid L
        obtain ⟨R, hR⟩ : ∃ R, (if c = 35 then
          match numP x.data.toList with
          | some v => (PV.mk 1 v ⟨#[]⟩ [], at' + n + 1, 0)
          | none => (pz, 0, 1)
          else if c = 93 then
          match listP (getP f) 6000 x [] with
          | some l => (PV.mk 3 0 ⟨#[]⟩ l, at' + n + 1, 0)
          | none => (pz, 0, 1)
          else if c = 44 then (PV.mk 2 0 x [], at' + n + 1, 0)
          else (pz, 0, 1)) = R := ⟨_, rfl⟩
        rw [hR]
        have HR := Lib.hid hR
        clear hR L HX B1
        go_enter Tryd.func21, Tryd.ntmps21
        by_cases h35 : c = 35
        · have q1 : ((c : Int) == 35) = true := by simp; omega
          have HR := Lib.hid (show (match numP x.data.toList with
              | some v => (PV.mk 1 v ⟨#[]⟩ [], at' + n + 1, 0)
              | none => (pz, 0, 1)) = R from (if_pos h35).symm.trans HR.out)
          clear h35
          go_wp2_with (go_at_call 33; refine HZ.out.mono ?_; rintro e' w1 ⟨rfl, rfl⟩)
          generalize ((w.alloc (.cells #[.int .i64 0, .int .i64 0, .string ⟨#[]⟩, .slice none 0 0] 27)).alloc (.cells #[.int .i64 2, .int .i64 0, .string x, .slice none 0 0] 27)) = V at HS ⊢
          obtain ⟨r, hr⟩ : ∃ r, numP x.data.toList = r := ⟨_, rfl⟩
          have HN := number_any x V hxs (HL.out.keep HS.out.2.2)
          rw [hr] at HN HR
          have HN := Lib.hid HN
          have hv64 : ∀ v, r = some v → -9223372036854775808 ≤ v ∧ v ≤ 9223372036854775807 := fun v e => numP_bd (hr.trans e)
          clear hr hix hsl HZ hlt e2
          refine HN.out.mono ?_
          rintro e' w2 ⟨rfl, hb⟩
          have HS2 := Lib.hid (HS.out.keep hb)
          clear hb HS HN
          cases r with
          | some v =>
            have HR := Lib.hid (show (PV.mk 1 v ⟨#[]⟩ [], at' + n + 1, 0) = R from HR.out)
            have hv64 := hv64 v rfl
            unfold numV
            have HS3 := Lib.hid (HS2.out.set (.int .i64 1) (.int .i64 v) (.string ⟨#[]⟩) (.slice none 0 0))
            obtain ⟨⟨⟨z0, z1, z2, z3⟩, f0, f1, f2, f3⟩, ⟨⟨p0, p1, p2, p3⟩, g0, g1, g2, g3⟩, -⟩ := HS2.out
            obtain ⟨-, ⟨⟨x0, x1, x2, x3⟩, -⟩, -⟩ := HS3.out
            go_wp2_with fail
            obtain ⟨y0, y1, y2, y3⟩ := set_four (.int .i64 1) (.int .i64 v) (.string ⟨#[]⟩) (.slice none 0 0) HS3.out.1
            refine bodyPost_ret (v := .tuple #[.agg #[.int .i64 1, .int .i64 v, .string ⟨#[]⟩, .slice none 0 0], .int .i64 ((at' : Int) + (n : Int) + 1), .int .i64 0]) (by simp [results, Tryd.results21, go_sem, y0, y1, y2, y3]) rfl ?_
            rw [← HR.out]
            exact ⟨_, flat_atO _ _ 1 v ⟨#[]⟩ (by decide) hv64 (by decide), rfl, below_set4 HS3.out.2.2 (Nat.le_refl _) _ _ _ _⟩
          | none =>
            have HR := Lib.hid (show (pz, 0, 1) = R from HR.out)
            clear hv64
            unfold numV
            have HS3 := Lib.hid (HS2.out.set (.int .i64 0) (.int .i64 0) (.string ⟨#[]⟩) (.slice none 0 0))
            obtain ⟨⟨⟨z0, z1, z2, z3⟩, f0, f1, f2, f3⟩, ⟨⟨p0, p1, p2, p3⟩, g0, g1, g2, g3⟩, -⟩ := HS2.out
            obtain ⟨-, ⟨⟨x0, x1, x2, x3⟩, -⟩, -⟩ := HS3.out
            unfold pzV
            go_wp2_with fail
            obtain ⟨y0, y1, y2, y3⟩ := set_four (.int .i64 0) (.int .i64 0) (.string ⟨#[]⟩) (.slice none 0 0) HS3.out.1
            refine bodyPost_ret (v := .tuple #[.agg #[.int .i64 0, .int .i64 0, .string ⟨#[]⟩, .slice none 0 0], .int .i64 0, .int .i64 1]) (by simp [results, Tryd.results21, go_sem, y0, y1, y2, y3]) rfl ?_
            rw [← HR.out]
            exact ⟨_, pz_atO _ _, rfl, below_set4 HS3.out.2.2 (Nat.le_refl _) _ _ _ _⟩
        have q1 : ((c : Int) == 35) = false := by simp; omega
        have HR := Lib.hid ((if_neg h35).symm.trans HR.out)
        by_cases h93 : c = 93
        · have q2 : ((c : Int) == 93) = true := by simp; omega
          have HR := Lib.hid (show (match listP (getP f) 6000 x [] with
              | some l => (PV.mk 3 0 ⟨#[]⟩ l, at' + n + 1, 0)
              | none => (pz, 0, 1)) = R from (if_pos h93).symm.trans HR.out)
          clear h93 h35
          have hd7 : d ≤ 7 := by omega
          have hIH := Lib.hid (HIH.out (d + 1) (by omega))
          go_wp2_with (go_at_call 33; refine HZ.out.mono ?_; rintro e' w1 ⟨rfl, rfl⟩)
          generalize ((w.alloc (.cells #[.int .i64 0, .int .i64 0, .string ⟨#[]⟩, .slice none 0 0] 27)).alloc (.cells #[.int .i64 2, .int .i64 0, .string x, .slice none 0 0] 27)) = V at HS ⊢
          obtain ⟨r, hr⟩ : ∃ r, listP (getP f) 6000 x [] = r := ⟨_, rfl⟩
          have HN := list_any f d hd7 hIH.out x V (HL.out.keep HS.out.2.2) hxs
          rw [hr] at HN HR
          have HN := Lib.hid HN
          have hV : w.heap.size + 1 < V.heap.size := cell_old HS.out.2.1.1.1
          clear hr hix hsl HZ hlt e2 HIH hIH hd7 e1 e1n hd
          refine HN.out.mono ?_
          rintro e' w2 ⟨v1, hp, rfl, hb⟩
          have HS2 := Lib.hid (HS.out.keep hb)
          have HP := Lib.hid hp
          obtain ⟨k1, n1, s1, a1, m1, c1, rfl⟩ := hp.form
          clear hb HS HN hp
          cases r with
          | some l =>
            have HR := Lib.hid (show (PV.mk 3 0 ⟨#[]⟩ l, at' + n + 1, 0) = R from HR.out)
            have HS3 := Lib.hid (HS2.out.set (.int .i64 k1) (.int .i64 n1) (.string s1) (.slice a1 m1 c1))
            obtain ⟨⟨⟨z0, z1, z2, z3⟩, f0, f1, f2, f3⟩, ⟨⟨p0, p1, p2, p3⟩, g0, g1, g2, g3⟩, -⟩ := HS2.out
            obtain ⟨-, ⟨⟨x0, x1, x2, x3⟩, -⟩, -⟩ := HS3.out
            go_wp2_with fail
            obtain ⟨y0, y1, y2, y3⟩ := set_four (.int .i64 k1) (.int .i64 n1) (.string s1) (.slice a1 m1 c1) HS3.out.1
            refine bodyPost_ret (v := .tuple #[.agg #[.int .i64 k1, .int .i64 n1, .string s1, .slice a1 m1 c1], .int .i64 ((at' : Int) + (n : Int) + 1), .int .i64 0]) (by simp [results, Tryd.results21, go_sem, y0, y1, y2, y3]) rfl ?_
            rw [← HR.out]
            exact ⟨_, atO_set8 HP.out hV, rfl, below_set4 HS3.out.2.2 (Nat.le_refl _) _ _ _ _⟩
          | none =>
            have HR := Lib.hid (show (pz, 0, 1) = R from HR.out)
            have HS3 := Lib.hid (HS2.out.set (.int .i64 k1) (.int .i64 n1) (.string s1) (.slice a1 m1 c1))
            obtain ⟨⟨⟨z0, z1, z2, z3⟩, f0, f1, f2, f3⟩, ⟨⟨p0, p1, p2, p3⟩, g0, g1, g2, g3⟩, -⟩ := HS2.out
            obtain ⟨-, ⟨⟨x0, x1, x2, x3⟩, -⟩, -⟩ := HS3.out
            go_wp2_with fail
            obtain ⟨y0, y1, y2, y3⟩ := set_four (.int .i64 0) (.int .i64 0) (.string ⟨#[]⟩) (.slice none 0 0) HS3.out.1
            refine bodyPost_ret (v := .tuple #[.agg #[.int .i64 0, .int .i64 0, .string ⟨#[]⟩, .slice none 0 0], .int .i64 0, .int .i64 1]) (by simp [results, Tryd.results21, go_sem, y0, y1, y2, y3]) rfl ?_
            rw [← HR.out]
            exact ⟨_, pz_atO _ _, rfl, below_set4 HS3.out.2.2 (Nat.le_refl _) _ _ _ _⟩
        have q2 : ((c : Int) == 93) = false := by simp; omega
        have HR := Lib.hid ((if_neg h93).symm.trans HR.out)
        by_cases h44 : c = 44
        · have q3 : ((c : Int) == 44) = true := by simp; omega
          have HR := Lib.hid ((if_pos h44).symm.trans HR.out)
          clear h93 h35 h44 HIH
          go_wp2_with (go_at_call 33; refine HZ.out.mono ?_; rintro e' w1 ⟨rfl, rfl⟩)
          refine bodyPost_ret (v := .tuple #[.agg #[.int .i64 2, .int .i64 0, .string x, .slice none 0 0], .int .i64 ((at' : Int) + (n : Int) + 1), .int .i64 0]) (by simp [results, Tryd.results21, go_sem]) rfl ?_
          rw [← HR.out]
          exact ⟨_, flat_atO _ _ 2 0 x (by decide) (by decide) (by omega), rfl, below_alloc (below_alloc (Below.refl _ _) _) _⟩
        · have q3 : ((c : Int) == 44) = false := by simp; omega
          have HR := Lib.hid ((if_neg h44).symm.trans HR.out)
          clear h93 h35 h44 HIH
          go_wp2_with (go_at_call 33; refine HZ.out.mono ?_; rintro e' w1 ⟨rfl, rfl⟩)
          refine bodyPost_ret (v := .tuple #[.agg #[.int .i64 0, .int .i64 0, .string ⟨#[]⟩, .slice none 0 0], .int .i64 0, .int .i64 1]) (by simp [results, Tryd.results21, go_sem]) rfl ?_
          rw [← HR.out]
          exact ⟨_, pz_atO _ _, rfl, below_alloc (below_alloc (Below.refl _ _) _) _⟩
    · have HF := Lib.hid (show getP (f + 1) s = (pz, 0, er) by rw [getP_zero (f + 1) (by rw [hr]; exact her), hr])
      rw [HF.out]
      have en : ((er : Int) != 0) = true := by simp [her]
      clear hr HIH hsb
      go_enter Tryd.func21, Tryd.ntmps21
      go_wp2_with (go_at_call 33; refine HZ.out.mono ?_; rintro e' w1 ⟨rfl, rfl⟩)
      refine bodyPost_ret (v := .tuple #[.agg #[.int .i64 0, .int .i64 0, .string ⟨#[]⟩, .slice none 0 0], .int .i64 0, .int .i64 er]) (by simp [results, Tryd.results21, go_sem]) rfl ?_
      exact ⟨_, pz_atO _ _, rfl, below_alloc (Below.refl _ _) _⟩
end Go.Proofs.YthbbfdlacclccaaDoor
namespace Go.Proofs.YthbbfdlacclccaaDoor
open Go.RowKit

/-- The value at a text's beginning, which may be. -/
def pGet (s : ByteArray) : PV × Nat × Nat := if (getP 6 s).2.2 = 0 ∧ pmay (getP 6 s).1 = false then (pz, 0, 1) else getP 6 s
/-- The value that is all of a text. -/
def pAll (s : ByteArray) : PV × Nat := if (pGet s).2.2 ≠ 0 ∨ (pGet s).2.1 ≠ s.size then (pz, 1) else ((pGet s).1, 0)
theorem pGet_bd (s : ByteArray) : (pGet s).2.2 ≤ 2 ∧ (pGet s).2.1 ≤ s.size := by
  have := getP_bd 6 s
  unfold pGet
  split
  · simp only; omega
  · omega
def AllR (w : World) (r : PV × Nat) (e : Ending) (w' : World) : Prop := ∃ v, PAtO (fun b => w.heap.size ≤ b) w' r.1 v ∧ e = .returned (.tuple #[v, .int .i64 r.2]) ∧ Below w.heap.size w w'
theorem atO_set4 {w : World} {V : Nat} {w2 : World} {x : PV} {v : Value} {t0 t1 t2 t3 : Value} (h : PAtO (fun b => V ≤ b) w2 x v) (hV : w.heap.size < V) :
    PAtO (fun b => w.heap.size ≤ b) ((((w2.setCell ⟨w.heap.size, 0, none⟩ t0).setCell ⟨w.heap.size, 1, none⟩ t1).setCell ⟨w.heap.size, 2, none⟩ t2).setCell ⟨w.heap.size, 3, none⟩ t3) x v :=
  h.move (by simp) fun b _ hP => ⟨by omega, fun i => by rw [set4_other (by omega)]⟩
set_option maxRecDepth 100000 in
set_option maxHeartbeats 6400000 in
theorem Get_any (s : ByteArray) (w : World) (L : Laid w) (hs : s.size ≤ 140737488355328) :
    Calls Tryd.prog 8 #[.string s] w (GetR w (pGet s)) := by
  have HX := Lib.hid (Box4.new w (.int .i64 0) (.int .i64 0) (.string ⟨#[]⟩) (.slice none 0 0) 27)
  have B1 : Hid (Below w.heap.size w (w.alloc (.cells #[.int .i64 0, .int .i64 0, .string ⟨#[]⟩, .slice none 0 0] 27))) := Lib.hid (below_alloc (Below.refl _ _) _)
  have HG := get_any 6 1 rfl s (w.alloc (.cells #[.int .i64 0, .int .i64 0, .string ⟨#[]⟩, .slice none 0 0] 27)) (L.keep B1.out) hs
  obtain ⟨⟨x, n, er⟩, hr⟩ : ∃ r, getP 6 s = r := ⟨_, rfl⟩
  rw [hr] at HG
  have HG := Lib.hid HG
  have HE := Lib.hid (show pGet s = if er = 0 ∧ pmay x = false then (pz, 0, 1) else (x, n, er) by unfold pGet; rw [hr])
  obtain ⟨R, hR⟩ : ∃ R, pGet s = R := ⟨_, rfl⟩
  rw [hR] at HE ⊢
  clear hr hR
  by_cases her : er = 0
  · have q1 : ((er : Int) == 0) = true := by simp; omega
    obtain ⟨m, hm⟩ : ∃ m, pmay x = m := ⟨_, rfl⟩
    cases m with
    | true =>
      have HR := Lib.hid (show R = (x, n, er) by rw [HE.out, if_neg (by rw [hm]; simp)])
      have HM := Lib.hid hm
      clear hm her
      go_enter Tryd.func8, Tryd.ntmps8
      go_wp2_with (first | (go_at_call 21; refine HG.out.mono ?_; rintro e' w1 ⟨v1, hp, rfl, hb⟩; obtain ⟨k1, n1, s1, a1, m1, c1, rfl⟩ := hp.form; have B2 := Lib.hid (below_on B1.out hb); have HP := Lib.hid hp; have X2 := Lib.hid ((HX.out.keep hb).keep (below_alloc (Below.refl _ _) (.cells #[.int .i64 k1, .int .i64 n1, .string s1, .slice a1 m1 c1] 27))); have Y2 := Lib.hid (Box4.new w1 (.int .i64 k1) (.int .i64 n1) (.string s1) (.slice a1 m1 c1) 27); clear hb hp) | (go_at_call 18; refine (may_pv (HP.out.pat.keep (below_alloc (Below.refl _ _) _))).mono ?_; rw [HM.out]; rintro e' w3 ⟨rfl, hb3⟩; have X3 := Lib.hid (X2.out.keep hb3); have Y3 := Lib.hid (Y2.out.keep hb3); have B3 := Lib.hid (below_on B2.out (below_on (below_alloc (Below.refl _ _) _) hb3)); have HP3 := Lib.hid ((HP.out.keep (below_alloc (Below.refl _ _) _)).keep hb3); obtain ⟨⟨z0, z1, z2, z3⟩, f0, f1, f2, f3⟩ := X3.out; obtain ⟨⟨p0, p1, p2, p3⟩, -⟩ := Y3.out; clear hb3))
      obtain ⟨y0, y1, y2, y3⟩ := set_four (.int .i64 k1) (.int .i64 n1) (.string s1) (.slice a1 m1 c1) X3.out
      refine bodyPost_ret (v := .tuple #[.agg #[.int .i64 k1, .int .i64 n1, .string s1, .slice a1 m1 c1], .int .i64 n, .int .i64 er]) (by simp [results, Tryd.results8, go_sem, y0, y1, y2, y3]) rfl ?_
      rw [HR.out]
      exact ⟨_, atO_set4 HP3.out (by simp), rfl, below_set4 B3.out (Nat.le_refl _) _ _ _ _⟩
    | false =>
      have HR := Lib.hid (show R = (pz, 0, 1) by rw [HE.out, if_pos ⟨her, hm⟩])
      have HM := Lib.hid hm
      clear hm her
      go_enter Tryd.func8, Tryd.ntmps8
      go_wp2_with (first | (go_at_call 21; refine HG.out.mono ?_; rintro e' w1 ⟨v1, hp, rfl, hb⟩; obtain ⟨k1, n1, s1, a1, m1, c1, rfl⟩ := hp.form; have B2 := Lib.hid (below_on B1.out hb); have HP := Lib.hid hp; have X2 := Lib.hid ((HX.out.keep hb).keep (below_alloc (Below.refl _ _) (.cells #[.int .i64 k1, .int .i64 n1, .string s1, .slice a1 m1 c1] 27))); have Y2 := Lib.hid (Box4.new w1 (.int .i64 k1) (.int .i64 n1) (.string s1) (.slice a1 m1 c1) 27); clear hb hp) | (go_at_call 18; refine (may_pv (HP.out.pat.keep (below_alloc (Below.refl _ _) _))).mono ?_; rw [HM.out]; rintro e' w3 ⟨rfl, hb3⟩; have X3 := Lib.hid (X2.out.keep hb3); have Y3 := Lib.hid (Y2.out.keep hb3); have B3 := Lib.hid (below_on B2.out (below_on (below_alloc (Below.refl _ _) _) hb3)); have HP3 := Lib.hid ((HP.out.keep (below_alloc (Below.refl _ _) _)).keep hb3); obtain ⟨⟨z0, z1, z2, z3⟩, f0, f1, f2, f3⟩ := X3.out; obtain ⟨⟨p0, p1, p2, p3⟩, -⟩ := Y3.out; clear hb3))
      obtain ⟨y0, y1, y2, y3⟩ := set_four (.int .i64 0) (.int .i64 0) (.string ⟨#[]⟩) (.slice none 0 0) X3.out
      refine bodyPost_ret (v := .tuple #[.agg #[.int .i64 0, .int .i64 0, .string ⟨#[]⟩, .slice none 0 0], .int .i64 0, .int .i64 1]) (by simp [results, Tryd.results8, go_sem, y0, y1, y2, y3]) rfl ?_
      rw [HR.out]
      exact ⟨_, pz_atO _ _, rfl, below_set4 B3.out (Nat.le_refl _) _ _ _ _⟩
  · have q1 : ((er : Int) == 0) = false := by simp; omega
    have HR := Lib.hid (show R = (x, n, er) by rw [HE.out, if_neg (fun h => her h.1)])
    clear her
    go_enter Tryd.func8, Tryd.ntmps8
    go_upto_region 2 with (go_at_call 21; refine HG.out.mono ?_; rintro e' w1 ⟨v1, hp, rfl, hb⟩; obtain ⟨k1, n1, s1, a1, m1, c1, rfl⟩ := hp.form; have B2 := Lib.hid (below_on (below_on B1.out hb) (below_alloc (Below.refl _ _) (.cells #[.int .i64 k1, .int .i64 n1, .string s1, .slice a1 m1 c1] 27))); have HP := Lib.hid (hp.keep (below_alloc (Below.refl _ _) (.cells #[.int .i64 k1, .int .i64 n1, .string s1, .slice a1 m1 c1] 27))); have X2 := Lib.hid ((HX.out.keep hb).keep (below_alloc (Below.refl _ _) (.cells #[.int .i64 k1, .int .i64 n1, .string s1, .slice a1 m1 c1] 27))); have Y2 := Lib.hid (Box4.new w1 (.int .i64 k1) (.int .i64 n1) (.string s1) (.slice a1 m1 c1) 27); clear hb hp)
    generalize (w1.alloc (.cells #[.int .i64 k1, .int .i64 n1, .string s1, .slice a1 m1 c1] 27)) = W2 at B2 HP X2 Y2 ⊢
    obtain ⟨⟨z0, z1, z2, z3⟩, f0, f1, f2, f3⟩ := X2.out
    obtain ⟨⟨p0, p1, p2, p3⟩, -⟩ := Y2.out
    go_wp2_with fail
    obtain ⟨y0, y1, y2, y3⟩ := set_four (.int .i64 k1) (.int .i64 n1) (.string s1) (.slice a1 m1 c1) X2.out
    refine bodyPost_ret (v := .tuple #[.agg #[.int .i64 k1, .int .i64 n1, .string s1, .slice a1 m1 c1], .int .i64 n, .int .i64 er]) (by simp [results, Tryd.results8, go_sem, y0, y1, y2, y3]) rfl ?_
    rw [HR.out]
    exact ⟨_, atO_set4 HP.out (by simp), rfl, below_set4 B2.out (Nat.le_refl _) _ _ _ _⟩
set_option maxRecDepth 100000 in
set_option maxHeartbeats 6400000 in
theorem All_any (s : ByteArray) (w : World) (L : Laid w) (hs : s.size ≤ 140737488355328) :
    Calls Tryd.prog 22 #[.string s] w (AllR w (pAll s)) := by
  have HX := Lib.hid (Box4.new w (.int .i64 0) (.int .i64 0) (.string ⟨#[]⟩) (.slice none 0 0) 27)
  have B1 : Hid (Below w.heap.size w (w.alloc (.cells #[.int .i64 0, .int .i64 0, .string ⟨#[]⟩, .slice none 0 0] 27))) := Lib.hid (below_alloc (Below.refl _ _) _)
  have HG := Get_any s (w.alloc (.cells #[.int .i64 0, .int .i64 0, .string ⟨#[]⟩, .slice none 0 0] 27)) (L.keep B1.out) hs
  obtain ⟨⟨x, n, er⟩, hr⟩ : ∃ r, pGet s = r := ⟨_, rfl⟩
  rw [hr] at HG
  have HG := Lib.hid HG
  have HE := Lib.hid (show pAll s = if er ≠ 0 ∨ n ≠ s.size then (pz, 1) else (x, 0) by unfold pAll; rw [hr])
  obtain ⟨R, hR⟩ : ∃ R, pAll s = R := ⟨_, rfl⟩
  rw [hR] at HE ⊢
  clear hr hR
  obtain ⟨b1, hb1⟩ : ∃ b, ((er : Int) != 0) = b := ⟨_, rfl⟩
  obtain ⟨b2, hb2⟩ : ∃ b, ((n : Int) != (s.size : Int)) = b := ⟨_, rfl⟩
  have c1 : b1 = true ↔ er ≠ 0 := by rw [← hb1]; simp
  have c2 : b2 = true ↔ n ≠ s.size := by rw [← hb2]; simp; omega
  have HC := Lib.hid (And.intro c1 c2)
  clear c1 c2
  go_enter Tryd.func22, Tryd.ntmps22
  go_upto_region 2 with (go_at_call 8; refine HG.out.mono ?_; rintro e' w1 ⟨v1, hp, rfl, hb⟩; obtain ⟨k1, n1, s1, a1, m1, c1, rfl⟩ := hp.form; have B2 := Lib.hid (below_on (below_on B1.out hb) (below_alloc (Below.refl _ _) (.cells #[.int .i64 k1, .int .i64 n1, .string s1, .slice a1 m1 c1] 27))); have HP := Lib.hid (hp.keep (below_alloc (Below.refl _ _) (.cells #[.int .i64 k1, .int .i64 n1, .string s1, .slice a1 m1 c1] 27))); have X2 := Lib.hid ((HX.out.keep hb).keep (below_alloc (Below.refl _ _) (.cells #[.int .i64 k1, .int .i64 n1, .string s1, .slice a1 m1 c1] 27))); have Y2 := Lib.hid (Box4.new w1 (.int .i64 k1) (.int .i64 n1) (.string s1) (.slice a1 m1 c1) 27); clear hb hp)
  generalize (w1.alloc (.cells #[.int .i64 k1, .int .i64 n1, .string s1, .slice a1 m1 c1] 27)) = W2 at B2 HP X2 Y2 ⊢
  obtain ⟨⟨z0, z1, z2, z3⟩, f0, f1, f2, f3⟩ := X2.out
  obtain ⟨⟨p0, p1, p2, p3⟩, -⟩ := Y2.out
  have bad : (b1 = true ∨ b2 = true) → R = (pz, 1) := fun h => by rw [HE.out, if_pos (h.imp HC.out.1.1 HC.out.2.1)]
  have good : b1 = false → b2 = false → R = (x, 0) := fun h h' => by
    rw [HE.out, if_neg]
    rintro (q | q)
    · have := HC.out.1.2 q; rw [h] at this; cases this
    · have := HC.out.2.2 q; rw [h'] at this; cases this
  have HBad := Lib.hid bad
  have HGood := Lib.hid good
  clear bad good
  cases b1
  · cases b2
    · go_wp2_with fail
      obtain ⟨y0, y1, y2, y3⟩ := set_four (.int .i64 k1) (.int .i64 n1) (.string s1) (.slice a1 m1 c1) X2.out
      refine bodyPost_ret (v := .tuple #[.agg #[.int .i64 k1, .int .i64 n1, .string s1, .slice a1 m1 c1], .int .i64 0]) (by simp [results, Tryd.results22, go_sem, y0, y1, y2, y3]) rfl ?_
      rw [HGood.out (by simp) (by simp)]
      exact ⟨_, atO_set4 HP.out (by simp), rfl, below_set4 B2.out (Nat.le_refl _) _ _ _ _⟩
    · go_wp2_with fail
      obtain ⟨y0, y1, y2, y3⟩ := set_four (.int .i64 0) (.int .i64 0) (.string ⟨#[]⟩) (.slice none 0 0) X2.out
      refine bodyPost_ret (v := .tuple #[.agg #[.int .i64 0, .int .i64 0, .string ⟨#[]⟩, .slice none 0 0], .int .i64 1]) (by simp [results, Tryd.results22, go_sem, y0, y1, y2, y3]) rfl ?_
      rw [HBad.out (by simp)]
      exact ⟨_, pz_atO _ _, rfl, below_set4 B2.out (Nat.le_refl _) _ _ _ _⟩
  · go_wp2_with fail
    obtain ⟨y0, y1, y2, y3⟩ := set_four (.int .i64 0) (.int .i64 0) (.string ⟨#[]⟩) (.slice none 0 0) X2.out
    refine bodyPost_ret (v := .tuple #[.agg #[.int .i64 0, .int .i64 0, .string ⟨#[]⟩, .slice none 0 0], .int .i64 1]) (by simp [results, Tryd.results22, go_sem, y0, y1, y2, y3]) rfl ?_
    rw [HBad.out (by simp)]
    exact ⟨_, pz_atO _ _, rfl, below_set4 B2.out (Nat.le_refl _) _ _ _ _⟩
end Go.Proofs.YthbbfdlacclccaaDoor
namespace Go.Proofs.YthbbfdlacclccaaDoor
open Go.RowKit

/-- The value of law1's begun. -/
def bgV : PV := .mk 3 0 ⟨#[]⟩ [.mk 1 (-5) ⟨#[]⟩ [], .mk 2 0 ⟨#[97, 98]⟩ []]
def bgT : ByteArray := ⟨#[49, 48, 58, 50, 58, 45, 53, 35, 50, 58, 97, 98, 44, 93]⟩
theorem bg_put : pPut bgV = bgT.data.toList := by decide +kernel
theorem bg_may : pmay bgV = true := by decide +kernel
theorem bg_len : (pput bgV).length ≤ 140737488355328 := by decide +kernel
theorem bg_get1 : (pGet ⟨(bgT.data.toList ++ [122]).toArray⟩).2 = (14, 0) := by decide +kernel
theorem bg_get2 : peq (pGet ⟨(bgT.data.toList ++ [122]).toArray⟩).1 bgV = true := by decide +kernel
theorem bg_get3 : (pGet ⟨#[49, 48, 58, 50]⟩).2 = (0, 2) := by decide +kernel
theorem bg_get4 : (pGet ⟨#[120]⟩).2 = (0, 1) := by decide +kernel
theorem bg_hex : hex4 7 ++ hex4 255 = [48, 48, 48, 55, 48, 48, 102, 102] := by decide +kernel
theorem bg_read : readZ [48, 48, 48, 55, 48, 48, 102, 102] = some (7, 255) := by decide +kernel
theorem bg_n1 : norm (cmul (2, 3) (4, 5)) = norm (65514, 22) := by decide +kernel
theorem bg_n2 : norm (cmark [0]) = norm (65517, 3) := by decide +kernel
end Go.Proofs.YthbbfdlacclccaaDoor

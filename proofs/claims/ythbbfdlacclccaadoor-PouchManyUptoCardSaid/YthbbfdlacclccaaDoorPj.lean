/- Walk of pouch.list. -/
import Derived.Test.YthbbfdlacclccaaDoorM8
namespace Go.Proofs.YthbbfdlacclccaaDoor
open Go.RowKit

/-- Values one behind the other, at most so many more. -/
def listP (g : ByteArray → PV × Nat × Nat) : Nat → ByteArray → List PV → Option (List PV)
  | 0, s, acc => if s.size = 0 then some acc else none
  | m + 1, s, acc => if s.size = 0 then some acc else if (g s).2.2 ≠ 0 then none else listP g m (s.extract (g s).2.1 s.size) (acc ++ [(g s).1])
/-- The value at a text's beginning, so many deep. -/
def getP : Nat → ByteArray → PV × Nat × Nat
  | 0, s => if (sizeP s.data.toList).2.2 ≠ 0 then (pz, 0, (sizeP s.data.toList).2.2) else (pz, 0, 1)
  | f + 1, s =>
    if (sizeP s.data.toList).2.2 ≠ 0 then (pz, 0, (sizeP s.data.toList).2.2) else
    if s.size ≤ (sizeP s.data.toList).2.1 + (sizeP s.data.toList).1 then (pz, 0, 2) else
    if (s.data.toList.getD ((sizeP s.data.toList).2.1 + (sizeP s.data.toList).1) 0).toNat = 35 then
      match numP (s.extract (sizeP s.data.toList).2.1 ((sizeP s.data.toList).2.1 + (sizeP s.data.toList).1)).data.toList with
      | some v => (.mk 1 v ⟨#[]⟩ [], (sizeP s.data.toList).2.1 + (sizeP s.data.toList).1 + 1, 0)
      | none => (pz, 0, 1)
    else if (s.data.toList.getD ((sizeP s.data.toList).2.1 + (sizeP s.data.toList).1) 0).toNat = 93 then
      match listP (getP f) 6000 (s.extract (sizeP s.data.toList).2.1 ((sizeP s.data.toList).2.1 + (sizeP s.data.toList).1)) [] with
      | some l => (.mk 3 0 ⟨#[]⟩ l, (sizeP s.data.toList).2.1 + (sizeP s.data.toList).1 + 1, 0)
      | none => (pz, 0, 1)
    else if (s.data.toList.getD ((sizeP s.data.toList).2.1 + (sizeP s.data.toList).1) 0).toNat = 44 then
      (.mk 2 0 (s.extract (sizeP s.data.toList).2.1 ((sizeP s.data.toList).2.1 + (sizeP s.data.toList).1)) [], (sizeP s.data.toList).2.1 + (sizeP s.data.toList).1 + 1, 0)
    else (pz, 0, 1)
theorem getP_bd (f : Nat) (s : ByteArray) : (getP f s).2.2 ≤ 2 ∧ (getP f s).2.1 ≤ s.size ∧ ((getP f s).2.2 = 0 → 1 ≤ (getP f s).2.1) := by
  have hb := sizeR_bd s.data.toList 0 0 (by decide) (by decide)
  have hb2 : (sizeP s.data.toList).2.2 ≤ 2 := hb.2.2
  cases f with
  | zero => unfold getP; split <;> simp only <;> omega
  | succ f =>
    unfold getP
    split
    · simp only; omega
    · split
      · simp only; omega
      · split
        · split <;> simp only <;> omega
        · split
          · split <;> simp only <;> omega
          · split <;> simp only <;> omega
/-- What get hands back; what list hands back. -/
def GetR (w : World) (r : PV × Nat × Nat) (e : Ending) (w' : World) : Prop := ∃ v, PAtO (fun b => w.heap.size ≤ b) w' r.1 v ∧ e = .returned (.tuple #[v, .int .i64 r.2.1, .int .i64 r.2.2]) ∧ Below w.heap.size w w'
def ListR (w : World) (r : Option (List PV)) (e : Ending) (w' : World) : Prop := ∃ v, PAtO (fun b => w.heap.size ≤ b) w' (match r with | some l => .mk 3 0 ⟨#[]⟩ l | none => pz) v ∧ e = .returned (.tuple #[v, .int .i64 (match r with | some _ => 0 | none => 1)]) ∧ Below w.heap.size w w'
def sizeOfV : Value → Nat | .string s => s.size | _ => 0
/-- The state of list's loop. -/
def LstS (w : World) (l : List PV) (vs : List Value) (va : Value) (wr : World) : Prop :=
  OwnV wr (w.heap.size + 1 + 1) va vs ∧ (∀ (j : Nat) (x : PV), l[j]? = some x → ∃ v, vs[j]? = some v ∧ PAtO (fun b => w.heap.size + 1 + 1 ≤ b ∧ Far va b) wr x v) ∧ l.length = vs.length ∧
  Box4 w.heap.size (.int .i64 0) (.int .i64 0) (.string ⟨#[]⟩) (.slice none 0 0) wr ∧ Box4 (w.heap.size + 1) (.int .i64 3) (.int .i64 0) (.string ⟨#[]⟩) va wr ∧ Below w.heap.size w wr
theorem LstS.keep {w wr wr' : World} {l : List PV} {vs : List Value} {va : Value} (h : LstS w l vs va wr) (hb : Below wr.heap.size wr wr') : LstS w l vs va wr' := by
  obtain ⟨h1, h2, h3, h4, h5, h6⟩ := h
  refine ⟨⟨ownsRow_below h1.1 hb, h1.2⟩, fun j x hx => ?_, h3, h4.keep hb, h5.keep hb, below_on h6 hb⟩
  obtain ⟨v, hv, hp⟩ := h2 j x hx
  exact ⟨v, hv, hp.keep hb⟩
theorem LstS.value {w wr : World} {l : List PV} {vs : List Value} {va : Value} (h : LstS w l vs va wr) (hl : l.length ≤ 6000) {W : World} (hsz : wr.heap.size ≤ W.heap.size) (he : ∀ b, w.heap.size + 1 + 1 ≤ b → b < wr.heap.size → ∀ i, W.cell? ⟨b, i, none⟩ = wr.cell? ⟨b, i, none⟩) :
    ∃ a c, va = .slice a l.length c ∧ PAtO (fun b => w.heap.size ≤ b) W (.mk 3 0 ⟨#[]⟩ l) (.agg #[.int .i64 3, .int .i64 0, .string ⟨#[]⟩, .slice a l.length c]) := by
  obtain ⟨h1, h2, h3, h4, h5, h6⟩ := h
  obtain ⟨a, c, e, hr⟩ := h1.row (P := fun b => w.heap.size + 1 + 1 ≤ b) (fun g hg => (h1.1.lt g hg).1)
  refine ⟨a, c, by rw [h3]; exact e, ?_⟩
  have hcp : l.length ≤ c := by
    rcases h1.1.2 with ⟨hv, h0⟩ | ⟨g, cap, cur, hv, -, -, hm, -⟩
    · rw [h3, h0]; exact Nat.zero_le _
    · rw [hv] at e
      simp only [Value.slice.injEq] at e
      rw [h3, ← e.2.2]; exact hm
  refine .mk 3 0 ⟨#[]⟩ l a c (fun j => vs.getD j undef) (by decide) (by decide) (by decide) (by omega) ?_ (fun j x hx => ?_) hcp
  · rw [h3]
    rcases hr with hr | ⟨b, off, r1, r2, r3, r4⟩
    · exact Or.inl hr
    · exact Or.inr ⟨b, off, r1, by omega, by omega, fun j hj => (r4 j hj).same (he b r3 r2)⟩
  · obtain ⟨v, hv, hp⟩ := h2 j x hx
    rw [show vs.getD j undef = v from by simp [List.getD, hv]]
    exact hp.move hsz fun b hb hP => ⟨by omega, he b hP.1 hb⟩
theorem set4_other {W : World} {B : Nat} {u0 u1 u2 u3 : Value} {b : Nat} (h : b ≠ B) (i : Nat) : ((((W.setCell ⟨B, 0, none⟩ u0).setCell ⟨B, 1, none⟩ u1).setCell ⟨B, 2, none⟩ u2).setCell ⟨B, 3, none⟩ u3).cell? ⟨b, i, none⟩ = W.cell? ⟨b, i, none⟩ := by
  rw [World.cell?_setCell_other _ _ _ _ (by intro e; simp only [Addr.mk.injEq] at e; omega), World.cell?_setCell_other _ _ _ _ (by intro e; simp only [Addr.mk.injEq] at e; omega), World.cell?_setCell_other _ _ _ _ (by intro e; simp only [Addr.mk.injEq] at e; omega), World.cell?_setCell_other _ _ _ _ (by intro e; simp only [Addr.mk.injEq] at e; omega)]
theorem LstS.start (w : World) (t : TypeId) : LstS w [] [] (.slice none 0 0) ((w.alloc (.cells #[.int .i64 0, .int .i64 0, .string ⟨#[]⟩, .slice none 0 0] t)).alloc (.cells #[.int .i64 3, .int .i64 0, .string ⟨#[]⟩, .slice none 0 0] t)) := by
  refine ⟨⟨World.ownsRow_nil _ _ _ _, fun v hv => by simp at hv⟩, fun j x hx => by simp at hx, rfl, (Box4.new w _ _ _ _ t).keep (below_alloc (Below.refl _ _) _), ?_, below_alloc (below_alloc (Below.refl _ _) _) _⟩
  have := Box4.new (w.alloc (.cells #[.int .i64 0, .int .i64 0, .string ⟨#[]⟩, .slice none 0 0] t)) (.int .i64 3) (.int .i64 0) (.string ⟨#[]⟩) (.slice none 0 0) t
  simpa using this
theorem listP_end {g : ByteArray → PV × Nat × Nat} {m : Nat} {s : ByteArray} {acc : List PV} (h : s.size = 0) : listP g m s acc = some acc := by
  cases m <;> simp [listP, h]
theorem rowAt_new4 (w : World) (c0 c1 c2 c3 : Value) (t : TypeId) (B : Nat) (h : w.heap.size = B) : RowAt (w.alloc (.cells #[c0, c1, c2, c3] t)) (some ⟨B, 0, none⟩) [c0, c1, c2, c3] := by
  subst h
  refine Or.inr ⟨_, 0, rfl, by simp, fun j u hj => ?_⟩
  rw [Nat.zero_add]
  refine (World.cell?_alloc_new w _ _ j).trans ?_
  rw [← hj]; simp
theorem Box4.last {B : Nat} {c0 c1 c2 c3 : Value} {W : World} (h : Box4 B c0 c1 c2 c3 W) (u : Value) : Box4 B c0 c1 c2 u (W.setCell ⟨B, 3, none⟩ u) := by
  obtain ⟨⟨h0, h1, h2, h3⟩, f0, f1, f2, f3⟩ := h
  exact ⟨⟨by rw [World.cell?_setCell_other _ _ _ _ (by simp)]; exact h0, by rw [World.cell?_setCell_other _ _ _ _ (by simp)]; exact h1, by rw [World.cell?_setCell_other _ _ _ _ (by simp)]; exact h2, World.cell?_setCell_same _ _ _ h3⟩, by simp [f0], by simp [f1], by simp [f2], by simp [f3]⟩
theorem Box4.put {B B' : Nat} {c0 c1 c2 c3 : Value} {W : World} (h : Box4 B c0 c1 c2 c3 W) (hne : B ≠ B') (i : Nat) (u : Value) : Box4 B c0 c1 c2 c3 (W.setCell ⟨B', i, none⟩ u) := by
  obtain ⟨⟨h0, h1, h2, h3⟩, f0, f1, f2, f3⟩ := h
  have hn : ∀ j, (⟨B', i, none⟩ : Addr) ≠ ⟨B, j, none⟩ := fun j e => by simp only [Addr.mk.injEq] at e; omega
  exact ⟨⟨by rw [World.cell?_setCell_other _ _ _ _ (hn _)]; exact h0, by rw [World.cell?_setCell_other _ _ _ _ (hn _)]; exact h1, by rw [World.cell?_setCell_other _ _ _ _ (hn _)]; exact h2, by rw [World.cell?_setCell_other _ _ _ _ (hn _)]; exact h3⟩, by simp [f0], by simp [f1], by simp [f2], by simp [f3]⟩
theorem Box4.belowB {B b : Nat} {c0 c1 c2 c3 : Value} {W W' : World} (h : Box4 b c0 c1 c2 c3 W) (hb : Below B W W') (hB : b < B) : Box4 b c0 c1 c2 c3 W' :=
  ⟨⟨by rw [hb.cell (p := ⟨b, 0, none⟩) hB]; exact h.1.1, by rw [hb.cell (p := ⟨b, 1, none⟩) hB]; exact h.1.2.1, by rw [hb.cell (p := ⟨b, 2, none⟩) hB]; exact h.1.2.2.1, by rw [hb.cell (p := ⟨b, 3, none⟩) hB]; exact h.1.2.2.2⟩,
   by rw [hb.frozen (p := ⟨b, 0, none⟩) hB]; exact h.2.1, by rw [hb.frozen (p := ⟨b, 1, none⟩) hB]; exact h.2.2.1, by rw [hb.frozen (p := ⟨b, 2, none⟩) hB]; exact h.2.2.2.1, by rw [hb.frozen (p := ⟨b, 3, none⟩) hB]; exact h.2.2.2.2⟩
theorem LstS.push {w W3 w' : World} {l : List PV} {vs : List Value} {va v' : Value} {x : PV} {c0 c1 c2 c3 : Value} (h : LstS w l vs va W3) (hp : PAtO (fun b => w.heap.size + 1 + 1 ≤ b ∧ Far va b) W3 x (.agg #[c0, c1, c2, c3]))
    (own : w'.ownsRow (w.heap.size + 1 + 1) 27 4 v' (vs.length + 1) (cells4 vs ++ [c0, c1, c2, c3])) (G : Grew (w.heap.size + 1 + 1) W3 w' va v') :
    LstS w (l ++ [x]) (vs ++ [.agg #[c0, c1, c2, c3]]) v' (w'.setCell ⟨w.heap.size + 1, 3, none⟩ v') := by
  obtain ⟨h1, h2, h3, h4, h5, h6⟩ := h
  have hF : Far v' (w.heap.size + 1) := (far_own own).2 _ (by omega)
  have mv : ∀ {y : PV} {v : Value}, PAtO (fun b => w.heap.size + 1 + 1 ≤ b ∧ Far va b) W3 y v → PAtO (fun b => w.heap.size + 1 + 1 ≤ b ∧ Far v' b) (w'.setCell ⟨w.heap.size + 1, 3, none⟩ v') y v := by
    intro y v hy
    refine hy.move (by simpa using G.1.size) fun b hb hP => ⟨⟨hP.1, G.2.2.2.1 b hb hP.2⟩, fun i => ?_⟩
    rw [World.cell?_setCell_other _ _ _ _ (by intro e; simp only [Addr.mk.injEq] at e; omega)]
    exact G.2.1 b i hb hP.2
  refine ⟨⟨?_, ?_⟩, fun j y hy => ?_, by simp [h3], (h4.belowB G.1 (by omega)).put (by omega) _ _, (h5.belowB G.1 (by omega)).last _, ?_⟩
  · have := own_set_far own hF 3 v'
    rw [cells4_append, cells4_cons, List.length_append]
    exact this
  · intro u hu
    rcases List.mem_append.1 hu with hu | hu
    · exact h1.2 u hu
    · rw [List.mem_singleton.1 hu]; exact ⟨_, _, _, _, rfl⟩
  · by_cases hj : j < l.length
    · rw [List.getElem?_append_left hj] at hy
      obtain ⟨v, hv, hq⟩ := h2 j y hy
      exact ⟨v, by rw [List.getElem?_append_left (by omega)]; exact hv, mv hq⟩
    · have hj' : j = l.length := by
        have := (List.getElem?_eq_some_iff.1 hy).1
        simp at this; omega
      subst hj'
      simp at hy
      subst hy
      exact ⟨_, by rw [h3]; simp, mv hp⟩
  · exact (h6.trans (G.1.mono (by omega))).setCell (p := ⟨w.heap.size + 1, 3, none⟩) (by simp) _
set_option maxRecDepth 100000 in
set_option maxHeartbeats 6400000 in
theorem list_any (f d : Nat) (hd : d ≤ 7) (hG : ∀ (s : ByteArray) (w : World), Laid w → s.size ≤ 140737488355328 → Calls Tryd.prog 21 #[.string s, .int .i64 ((d + 1 : Nat) : Int)] w (GetR w (getP f s)))
    (s : ByteArray) (w : World) (L : Laid w) (hs : s.size ≤ 140737488355328) :
    Calls Tryd.prog 35 #[.string s, .int .i64 d] w (ListR w (listP (getP f) 6000 s [])) := by
  obtain ⟨R, hR'⟩ : ∃ R, listP (getP f) 6000 s [] = R := ⟨_, rfl⟩
  have HR := Lib.hid hR'
  rw [hR']
  have HS := Lib.hid (LstS.start w 27)
  have HG := Lib.hid hG
  clear hR' hG
  go_enter Tryd.func35, Tryd.ntmps35
  go_wp2_with fail
  generalize ((w.alloc (.cells #[.int .i64 0, .int .i64 0, .string ⟨#[]⟩, .slice none 0 0] 27)).alloc (.cells #[.int .i64 3, .int .i64 0, .string ⟨#[]⟩, .slice none 0 0] 27)) = V at HS ⊢
  go_loopw [0] (fun sv wr => ∃ (rest : ByteArray) (l : List PV) (vs : List Value) (va : Value), sv = .string rest ∧ rest.size ≤ 140737488355328 ∧ l.length ≤ 6000 ∧ LstS w l vs va wr ∧ listP (getP f) (6000 - l.length) rest l = R) (fun sv _ => sizeOfV sv)
  case atStart => exact ⟨s, [], [], _, rfl, hs, by decide, HS.out, HR.out⟩
  case round =>
    obtain ⟨rest, l, vs, va, rfl, hrs, hl6, hS, hL⟩ := hrel
    clear HR HS
    have HS := Lib.hid hS
    have HL := Lib.hid hL
    have hlen : l.length = vs.length := hS.2.2.1
    obtain ⟨a, c, hva, -⟩ := hS.1.row (P := fun _ => True) (fun _ _ => trivial)
    subst hva
    obtain ⟨x0, x1, x2, x3⟩ := hS.2.2.2.2.1.1
    have Hlen := Lib.hid hlen
    rw [← hlen] at x3 HS
    clear hS hL hlen
    by_cases h0 : rest.size = 0
    · have e0 : decide ((0 : Int) < (rest.size : Int)) = false := decide_eq_false (by omega)
      have e0n : decide (0 < rest.size) = false := decide_eq_false (by omega)
      have HRs := Lib.hid (show R = some l from HL.out.symm.trans (listP_end h0))
      obtain ⟨⟨z0, z1, z2, z3⟩, f0, f1, f2, f3⟩ := HS.out.2.2.2.1
      clear h0
      go_wp2_with fail
      obtain ⟨y0, y1, y2, y3⟩ := set_four (.int .i64 3) (.int .i64 0) (.string ⟨#[]⟩) (.slice a l.length c) HS.out.2.2.2.1
      refine bodyPost_ret (v := .tuple #[.agg #[.int .i64 3, .int .i64 0, .string ⟨#[]⟩, .slice a l.length c], .int .i64 0]) (by simp [results, Tryd.results35, go_sem, y0, y1, y2, y3]) rfl ?_
      rw [HRs.out]
      obtain ⟨a2, c2, e2, hp⟩ := HS.out.value hl6 (W := ((((wr.setCell ⟨w.heap.size, 0, none⟩ (.int .i64 3)).setCell ⟨w.heap.size, 1, none⟩ (.int .i64 0)).setCell ⟨w.heap.size, 2, none⟩ (.string ⟨#[]⟩)).setCell ⟨w.heap.size, 3, none⟩ (.slice a l.length c))) (by simp) (fun b hb _ i => set4_other (by omega) i)
      simp only [Value.slice.injEq, true_and] at e2
      obtain ⟨rfl, rfl⟩ := e2
      exact ⟨_, hp, rfl, below_set4 HS.out.2.2.2.2.2 (Nat.le_refl _) _ _ _ _⟩
    have e0 : decide ((0 : Int) < (rest.size : Int)) = true := decide_eq_true (by omega)
    have e0n : decide (0 < rest.size) = true := decide_eq_true (by omega)
    by_cases h6 : l.length < 6000
    · have e1 : decide ((l.length : Int) < 6000) = true := decide_eq_true (by omega)
      obtain ⟨m, hm⟩ : ∃ m, 6000 - l.length = m + 1 := ⟨6000 - l.length - 1, by omega⟩
      have HM := Lib.hid (show 6000 - (l.length + 1) = m by omega)
      have hstep : listP (getP f) (m + 1) rest l = R := by rw [← hm]; exact HL.out
      have hbd := getP_bd f rest
      obtain ⟨⟨x', n', er⟩, hr⟩ : ∃ r, getP f rest = r := ⟨_, rfl⟩
      rw [hr] at hbd
      unfold listP at hstep
      rw [if_neg h0, hr] at hstep
      dsimp only at hbd hstep
      have HST := Lib.hid hstep
      have HB := Lib.hid hbd
      have hn' : n' ≤ rest.size := hbd.2.1
      have HX := Lib.hid (HG.out rest wr (L.keep HS.out.2.2.2.2.2) hrs)
      rw [hr] at HX
      clear hr hm hstep hbd h0 HL
      go_upto_region 4 with (go_at_call 21; refine HX.out.mono ?_; rintro e' w1 ⟨v1, hp, rfl, hb⟩; obtain ⟨k1, n1, s1, a1, m1, c1, rfl⟩ := hp.form; have HP := Lib.hid hp; have HB1 := Lib.hid hb; have HS1 := Lib.hid (HS.out.keep hb); clear hp hb x0 x1 x2 x3)
      have bal : Below w1.heap.size w1 (w1.alloc (.cells #[.int .i64 k1, .int .i64 n1, .string s1, .slice a1 m1 c1] 27)) := below_alloc (Below.refl _ _) _
      have HS2 := Lib.hid (HS1.out.keep bal)
      have HP2 := Lib.hid ((HP.out.keep bal).imp (Q := fun b => w.heap.size + 1 + 1 ≤ b ∧ Far (.slice a l.length c) b) (fun b _ hb => ⟨by have := cell_old HS.out.2.2.2.2.1.1.1; simp at this; omega, (far_own HS.out.1.1).1 b hb⟩))
      have HX4 := Lib.hid (Box4.new w1 (.int .i64 k1) (.int .i64 n1) (.string s1) (.slice a1 m1 c1) 27)
      clear bal
      generalize (w1.alloc (.cells #[.int .i64 k1, .int .i64 n1, .string s1, .slice a1 m1 c1] 27)) = W2 at HS2 HP2 HX4 ⊢
      clear HS HS1 HP HB1 HX
      obtain ⟨⟨z0, z1, z2, z3⟩, f0, f1, f2, f3⟩ := HS2.out.2.2.2.1
      by_cases her : er = 0
      · subst her
        have HL2 := Lib.hid (show listP (getP f) m (rest.extract n' rest.size) (l ++ [x']) = R from HST.out)
        have hn1 : 1 ≤ n' := HB.out.2.2 rfl
        obtain ⟨⟨x0, x1, x2, x3⟩, -⟩ := HX4.out
        have X3 := Lib.hid HS2.out.2.2.2.2.1
        obtain ⟨⟨p0, p1, p2, p3⟩, -⟩ := HS2.out.2.2.2.2.1
        have hn'' : (n' : Int) ≤ (rest.size : Int) := by omega
        go_wp2_with (at_builtin; go_loud (refine wpList_append_far rfl _ _ 25 rfl (w.heap.size + 1 + 1) 27 _ 4 56 tyVals _ vs.length (cells4 vs) rfl (ownsRow_below HS2.out.1.1 (below_alloc (Below.refl _ _) _)) _ 1 1 [.int .i64 k1, .int .i64 n1, .string s1, .slice a1 m1 c1] rfl rfl (rowAt_new4 _ _ _ _ _ _ _ rfl) (by simp [Value.oneCell']) (by have := Hlen.out; unfold maxLen; omega) (by have := Hlen.out; omega) ?c3 ?_; (case c3 => have := cell_old X3.out.1.1; simp at this ⊢; omega); intro v' w' own' G; obtain ⟨a5, c5, rfl, _⟩ := ownsRow_row own'; have hle2 : w.heap.size + 1 + 1 ≤ W2.heap.size := (by have := cell_old X3.out.1.1; simp at this ⊢; omega); have HQ := Lib.hid (X3.out.belowB (W' := w') (B := w.heap.size + 1 + 1) (((below_alloc (Below.refl _ _) _).mono hle2).trans G.1) (by omega)); have HPush := Lib.hid (LstS.push (HS2.out.keep (below_alloc (Below.refl _ _) _)) (HP2.out.keep (below_alloc (Below.refl _ _) _)) own' G); clear own' G hle2; obtain ⟨⟨q0, q1, q2, q3⟩, g0, g1, g2, g3⟩ := HQ.out))
        refine ⟨⟨_, _, _, _, rfl, ?_, ?_, HPush.out, ?_⟩, ?_⟩
        · rw [ByteArray.size_extract]; omega
        · rw [List.length_append, List.length_singleton]; omega
        · rw [List.length_append, List.length_singleton, HM.out]; exact HL2.out
        · simp only [sizeOfV, ByteArray.size_extract]; omega
      · have en : (er : Int) ≠ 0 := by omega
        have enb : ((er : Int) != 0) = true := by simp [her]
        have HRs := Lib.hid (show R = none by
          have := HST.out
          rw [if_pos her] at this
          exact this.symm)
        go_wp2_with fail
        obtain ⟨y0, y1, y2, y3⟩ := set_four (.int .i64 0) (.int .i64 0) (.string ⟨#[]⟩) (.slice none 0 0) HS2.out.2.2.2.1
        refine bodyPost_ret (v := .tuple #[.agg #[.int .i64 0, .int .i64 0, .string ⟨#[]⟩, .slice none 0 0], .int .i64 1]) (by simp [results, Tryd.results35, go_sem, y0, y1, y2, y3]) rfl ?_
        rw [HRs.out]
        exact ⟨_, pz_atO _ _, rfl, below_set4 HS2.out.2.2.2.2.2 (Nat.le_refl _) _ _ _ _⟩
    · have e1 : decide ((l.length : Int) < 6000) = false := decide_eq_false (by omega)
      have HRs := Lib.hid (show R = none by
        have := HL.out
        rw [show 6000 - l.length = 0 by omega] at this
        unfold listP at this
        rw [if_neg h0] at this
        exact this.symm)
      obtain ⟨⟨z0, z1, z2, z3⟩, f0, f1, f2, f3⟩ := HS.out.2.2.2.1
      clear h0 h6
      go_wp2_with fail
      obtain ⟨y0, y1, y2, y3⟩ := set_four (.int .i64 0) (.int .i64 0) (.string ⟨#[]⟩) (.slice none 0 0) HS.out.2.2.2.1
      refine bodyPost_ret (v := .tuple #[.agg #[.int .i64 0, .int .i64 0, .string ⟨#[]⟩, .slice none 0 0], .int .i64 1]) (by simp [results, Tryd.results35, go_sem, y0, y1, y2, y3]) rfl ?_
      rw [HRs.out]
      exact ⟨_, pz_atO _ _, rfl, below_set4 HS.out.2.2.2.2.2 (Nat.le_refl _) _ _ _ _⟩
end Go.Proofs.YthbbfdlacclccaaDoor

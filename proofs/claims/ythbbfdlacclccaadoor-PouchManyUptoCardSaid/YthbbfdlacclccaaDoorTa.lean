/- Values turned from one type to another: what stands while a list is turned. -/
import Derived.Test.YthbbfdlacclccaaDoorM9
import Derived.Test.YthbbfdlacclccaaDoorOq
import Derived.Deep.RegionHeld3
namespace Go.Proofs.YthbbfdlacclccaaDoor
open Go.RowKit

theorem pbulk_get {l : List PV} {j : Nat} {x : PV} (h : l[j]? = some x) : pbulk x ≤ pbulkL l := by
  induction l generalizing j with
  | nil => simp at h
  | cons y t ih =>
    have e : pbulkL (y :: t) = pbulk y + pbulkL t := rfl
    cases j with
    | zero =>
      simp only [List.getElem?_cons_zero, Option.some.injEq] at h
      subst h; omega
    | succ j =>
      have := ih (j := j) (by simpa using h)
      omega
theorem pbulk_len (l : List PV) : l.length ≤ pbulkL l := by
  induction l with
  | nil => exact Nat.zero_le _
  | cons y t ih =>
    have e : pbulkL (y :: t) = pbulk y + pbulkL t := rfl
    have : 1 ≤ pbulk y := by
      cases y with
      | mk k n s l => show 1 ≤ s.size + 1 + pbulkL l; omega
    rw [List.length_cons]; omega
/-- A row of values of some type of four cells, the call's own. -/
def OwnT (ty : TypeId) (w : World) (base : Nat) (v : Value) (vs : List Value) : Prop := w.ownsRow base ty 4 v vs.length (cells4 vs) ∧ Four vs
theorem OwnT.row {ty : TypeId} {P : Nat → Prop} {w : World} {base : Nat} {v : Value} {vs : List Value} (h : OwnT ty w base v vs) (hP : ∀ g, v.ownBlock = some g → P g) : ∃ a c, v = .slice a vs.length c ∧ RowO P w a vs.length (fun j => vs.getD j undef) := by
  obtain ⟨a, c, h1, h2⟩ := ownsRow_row h.1
  refine ⟨a, c, h1, ?_⟩
  by_cases h0 : vs.length = 0
  · exact Or.inl h0
  · rcases h2 with h2 | ⟨b, off, rfl, hb, hc⟩
    · have := cells4_len h.2; rw [h2] at this; simp at this; omega
    · refine Or.inr ⟨b, off, rfl, hb, hP b ?_, fun j hj => ?_⟩
      · rw [h1]; rfl
      · obtain ⟨c0, c1, c2, c3, e⟩ := h.2 vs[j] (List.getElem_mem hj)
        have hj' : vs[j]? = some (.agg #[c0, c1, c2, c3]) := by rw [List.getElem?_eq_getElem hj, e]
        obtain ⟨k0, k1, k2, k3⟩ := cells4_at h.2 hj'
        refine ⟨c0, c1, c2, c3, by simp [List.getD, hj'], hc _ _ k0, ?_, ?_, ?_⟩
        · have := hc _ _ k1; simpa [Nat.add_assoc] using this
        · have := hc _ _ k2; simpa [Nat.add_assoc] using this
        · have := hc _ _ k3; simpa [Nat.add_assoc] using this
theorem Tryd.infoRef : (Tryd.prog.info? 30).map (fun i => (i.zero, i.size, i.bytes)) = some (some pzV, 4, 56) := by kernel_rfl
theorem tyRefs : ElemTy Tryd.prog 22 30 pzV 4 56 := by
  obtain ⟨i0, hi, hz0, hz1, hz2⟩ := info_parts Tryd.infoRef
  exact ⟨Tryd.underlying22, ⟨i0, hi, hz0, hz1, hz2⟩, rfl, by decide⟩
/-- The state of the loop: the argument's box, the result's, the new value's; the new value's list holds what was turned. -/
def BkS (ty : TypeId) (w : World) (k n : Int) (s : ByteArray) (ar : Value) (l : List PV) (vs : List Value) (va : Value) (wr : World) : Prop :=
  OwnT ty wr (w.heap.size + 1 + 1 + 1) va vs ∧ (∀ (j : Nat) (x : PV), l[j]? = some x → ∃ v, vs[j]? = some v ∧ PAtO (fun b => w.heap.size + 1 + 1 + 1 ≤ b ∧ Far va b) wr x v) ∧ l.length = vs.length ∧
  Box4 w.heap.size (.int .i64 k) (.int .i64 n) (.string s) ar wr ∧ Box4 (w.heap.size + 1) (.int .i64 0) (.int .i64 0) (.string ⟨#[]⟩) (.slice none 0 0) wr ∧ Box4 (w.heap.size + 1 + 1) (.int .i64 k) (.int .i64 n) (.string s) va wr ∧ Below w.heap.size w wr
theorem BkS.keep {ty : TypeId} {w wr wr' : World} {k n : Int} {s : ByteArray} {ar : Value} {l : List PV} {vs : List Value} {va : Value} (h : BkS ty w k n s ar l vs va wr) (hb : Below wr.heap.size wr wr') : BkS ty w k n s ar l vs va wr' := by
  obtain ⟨h1, h2, h3, h4, h5, h6, h7⟩ := h
  refine ⟨⟨ownsRow_below h1.1 hb, h1.2⟩, fun j x hx => ?_, h3, h4.keep hb, h5.keep hb, h6.keep hb, below_on h7 hb⟩
  obtain ⟨v, hv, hp⟩ := h2 j x hx
  exact ⟨v, hv, hp.keep hb⟩
theorem BkS.start (ty : TypeId) (w : World) (k n : Int) (s : ByteArray) (ar : Value) (t t' : TypeId) : BkS ty w k n s ar [] [] (.slice none 0 0) (((w.alloc (.cells #[.int .i64 k, .int .i64 n, .string s, ar] t)).alloc (.cells #[.int .i64 0, .int .i64 0, .string ⟨#[]⟩, .slice none 0 0] t')).alloc (.cells #[.int .i64 k, .int .i64 n, .string s, .slice none 0 0] t')) := by
  refine ⟨⟨World.ownsRow_nil _ _ _ _, fun v hv => by simp at hv⟩, fun j x hx => by simp at hx, rfl, ((Box4.new w _ _ _ _ t).keep (below_alloc (Below.refl _ _) _)).keep (below_alloc (Below.refl _ _) _), ?_, ?_, below_alloc (below_alloc (below_alloc (Below.refl _ _) _) _) _⟩
  · have := (Box4.new (w.alloc (.cells #[.int .i64 k, .int .i64 n, .string s, ar] t)) (.int .i64 0) (.int .i64 0) (.string ⟨#[]⟩) (.slice none 0 0) t').keep (below_alloc (Below.refl _ _) (.cells #[.int .i64 k, .int .i64 n, .string s, .slice none 0 0] t'))
    simpa using this
  · have := Box4.new ((w.alloc (.cells #[.int .i64 k, .int .i64 n, .string s, ar] t)).alloc (.cells #[.int .i64 0, .int .i64 0, .string ⟨#[]⟩, .slice none 0 0] t')) (.int .i64 k) (.int .i64 n) (.string s) (.slice none 0 0) t'
    simpa using this
theorem BkS.value {ty : TypeId} {w wr : World} {k n : Int} {s : ByteArray} {ar : Value} {l : List PV} {vs : List Value} {va : Value} (h : BkS ty w k n s ar l vs va wr) (hk : -9223372036854775808 ≤ k ∧ k ≤ 9223372036854775807) (hn : -9223372036854775808 ≤ n ∧ n ≤ 9223372036854775807)
    (hs : s.size ≤ 9223372036854775807) (hl : l.length ≤ 1048576) {W : World} (hsz : wr.heap.size ≤ W.heap.size) (he : ∀ b, w.heap.size + 1 + 1 + 1 ≤ b → b < wr.heap.size → ∀ i, W.cell? ⟨b, i, none⟩ = wr.cell? ⟨b, i, none⟩) :
    ∃ a c, va = .slice a l.length c ∧ PAtO (fun b => w.heap.size ≤ b) W (.mk k n s l) (.agg #[.int .i64 k, .int .i64 n, .string s, .slice a l.length c]) := by
  obtain ⟨h1, h2, h3, h4, h5, h6, h7⟩ := h
  obtain ⟨a, c, e, hr⟩ := h1.row (P := fun b => w.heap.size + 1 + 1 + 1 ≤ b) (fun g hg => (h1.1.lt g hg).1)
  refine ⟨a, c, by rw [h3]; exact e, ?_⟩
  have hcp : l.length ≤ c := by
    rcases h1.1.2 with ⟨hv, h0⟩ | ⟨g, cap, cur, hv, -, -, hm, -⟩
    · rw [h3, h0]; exact Nat.zero_le _
    · rw [hv] at e
      simp only [Value.slice.injEq] at e
      rw [h3, ← e.2.2]; exact hm
  refine .mk k n s l a c (fun j => vs.getD j undef) hk hn hs (by omega) ?_ (fun j x hx => ?_) hcp
  · rw [h3]
    rcases hr with hr | ⟨b, off, r1, r2, r3, r4⟩
    · exact Or.inl hr
    · exact Or.inr ⟨b, off, r1, by omega, by omega, fun j hj => (r4 j hj).same (he b r3 r2)⟩
  · obtain ⟨v, hv, hp⟩ := h2 j x hx
    rw [show vs.getD j undef = v from by simp [List.getD, hv]]
    exact hp.move hsz fun b hb hP => ⟨by omega, he b hP.1 hb⟩
theorem BkS.push {ty : TypeId} {w W3 w' : World} {k n : Int} {s : ByteArray} {ar : Value} {l : List PV} {vs : List Value} {va v' : Value} {x : PV} {c0 c1 c2 c3 : Value} (h : BkS ty w k n s ar l vs va W3) (hp : PAtO (fun b => w.heap.size + 1 + 1 + 1 ≤ b ∧ Far va b) W3 x (.agg #[c0, c1, c2, c3]))
    (own : w'.ownsRow (w.heap.size + 1 + 1 + 1) ty 4 v' (vs.length + 1) (cells4 vs ++ [c0, c1, c2, c3])) (G : Grew (w.heap.size + 1 + 1 + 1) W3 w' va v') :
    BkS ty w k n s ar (l ++ [x]) (vs ++ [.agg #[c0, c1, c2, c3]]) v' (w'.setCell ⟨w.heap.size + 1 + 1, 3, none⟩ v') := by
  obtain ⟨h1, h2, h3, h4, h5, h6, h7⟩ := h
  have hF : Far v' (w.heap.size + 1 + 1) := (far_own own).2 _ (by omega)
  have mv : ∀ {y : PV} {v : Value}, PAtO (fun b => w.heap.size + 1 + 1 + 1 ≤ b ∧ Far va b) W3 y v → PAtO (fun b => w.heap.size + 1 + 1 + 1 ≤ b ∧ Far v' b) (w'.setCell ⟨w.heap.size + 1 + 1, 3, none⟩ v') y v := by
    intro y v hy
    refine hy.move (by simpa using G.1.size) fun b hb hP => ⟨⟨hP.1, G.2.2.2.1 b hb hP.2⟩, fun i => ?_⟩
    rw [World.cell?_setCell_other _ _ _ _ (by intro e; simp only [Addr.mk.injEq] at e; omega)]
    exact G.2.1 b i hb hP.2
  refine ⟨⟨?_, ?_⟩, fun j y hy => ?_, by simp [h3], (h4.belowB G.1 (by omega)).put (by omega) _ _, (h5.belowB G.1 (by omega)).put (by omega) _ _, (h6.belowB G.1 (by omega)).last _, ?_⟩
  · have := own_set_far own hF 3 v'
    rw [cells4_append, cells4_cons, List.length_append]
    exact this
  · intro u hu
    rcases List.mem_append.1 hu with hu | hu
    · exact h1.2 u hu
    · rw [List.mem_singleton.1 hu]; exact ⟨_, _, _, _, rfl⟩
  · by_cases hj : j < l.length
    · rw [List.getElem?_append_left hj] at hy
      obtain ⟨v, hv, hq⟩ := h2 j y hy
      exact ⟨v, by rw [List.getElem?_append_left (by omega)]; exact hv, mv hq⟩
    · have hj' : j = l.length := by
        have := (List.getElem?_eq_some_iff.1 hy).1
        simp at this; omega
      subst hj'
      simp at hy
      subst hy
      exact ⟨_, by rw [h3]; simp, mv hp⟩
  · exact (h7.trans (G.1.mono (by omega))).setCell (p := ⟨w.heap.size + 1 + 1, 3, none⟩) (by simp; omega) _
/-- What the loop's region reads that no step of it turns. -/
def ElemS (p b o : Nat) (sl c0 c1 c2 c3 : Value) (U : World) : Prop := U.cell? ⟨p, 3, none⟩ = some sl ∧ U.cell? ⟨b, o, none⟩ = some c0 ∧ U.cell? ⟨b, o + 1, none⟩ = some c1 ∧ U.cell? ⟨b, o + 2, none⟩ = some c2 ∧ U.cell? ⟨b, o + 3, none⟩ = some c3
theorem ElemS.keep {p b o : Nat} {sl c0 c1 c2 c3 : Value} {U U' : World} (h : ElemS p b o sl c0 c1 c2 c3 U) (hb : Below U.heap.size U U') : ElemS p b o sl c0 c1 c2 c3 U' :=
  ⟨cell_keep hb h.1, cell_keep hb h.2.1, cell_keep hb h.2.2.1, cell_keep hb h.2.2.2.1, cell_keep hb h.2.2.2.2⟩
theorem ElemS.belowB {p b o B : Nat} {sl c0 c1 c2 c3 : Value} {U U' : World} (h : ElemS p b o sl c0 c1 c2 c3 U) (hb : Below B U U') (hp : p < B) (h2 : b < B) : ElemS p b o sl c0 c1 c2 c3 U' :=
  ⟨by rw [hb.cell (p := ⟨p, 3, none⟩) hp]; exact h.1, by rw [hb.cell (p := ⟨b, o, none⟩) h2]; exact h.2.1, by rw [hb.cell (p := ⟨b, o + 1, none⟩) h2]; exact h.2.2.1, by rw [hb.cell (p := ⟨b, o + 2, none⟩) h2]; exact h.2.2.2.1, by rw [hb.cell (p := ⟨b, o + 3, none⟩) h2]; exact h.2.2.2.2⟩
theorem ElemS.set {p b o B i : Nat} {sl c0 c1 c2 c3 u : Value} {U : World} (h : ElemS p b o sl c0 c1 c2 c3 U) (hp : p ≠ B) (h2 : b ≠ B) : ElemS p b o sl c0 c1 c2 c3 (U.setCell ⟨B, i, none⟩ u) := by
  have f : ∀ x y, x ≠ B → (U.setCell ⟨B, i, none⟩ u).cell? ⟨x, y, none⟩ = U.cell? ⟨x, y, none⟩ := fun x y hx => World.cell?_setCell_other _ _ _ _ (by intro e; simp only [Addr.mk.injEq] at e; omega)
  exact ⟨(f _ _ hp).trans h.1, (f _ _ h2).trans h.2.1, (f _ _ h2).trans h.2.2.1, (f _ _ h2).trans h.2.2.2.1, (f _ _ h2).trans h.2.2.2.2⟩
end Go.Proofs.YthbbfdlacclccaaDoor

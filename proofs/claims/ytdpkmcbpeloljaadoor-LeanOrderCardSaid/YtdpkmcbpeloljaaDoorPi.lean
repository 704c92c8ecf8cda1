/- Values whose rows lie in known blocks; rows of values of the call's own. -/
import Derived.Test.YtdpkmcbpeloljaaDoorPh
namespace Go.Proofs.YtdpkmcbpeloljaaDoor
open Go.RowKit

def RowO (P : Nat → Prop) (w : World) (a : Option Addr) (len : Nat) (vs : Nat → Value) : Prop := len = 0 ∨ ∃ b off, a = some ⟨b, off, none⟩ ∧ b < w.heap.size ∧ P b ∧ ∀ j, j < len → CellP w b (off + j * 4) (vs j)
theorem RowO.row {P : Nat → Prop} {w : World} {a : Option Addr} {len : Nat} {vs : Nat → Value} (h : RowO P w a len vs) : RowP w a len vs := by
  rcases h with h | ⟨b, off, h1, h2, _, h3⟩
  · exact Or.inl h
  · exact Or.inr ⟨b, off, h1, h2, h3⟩
theorem CellP.same {w w' : World} {b o : Nat} {v : Value} (h : CellP w b o v) (he : ∀ i, w'.cell? ⟨b, i, none⟩ = w.cell? ⟨b, i, none⟩) : CellP w' b o v := by
  obtain ⟨c0, c1, c2, c3, rfl, h0, h1, h2, h3⟩ := h
  exact ⟨c0, c1, c2, c3, rfl, (he _).trans h0, (he _).trans h1, (he _).trans h2, (he _).trans h3⟩
/-- As PAt, of rows in blocks of a kind. -/
inductive PAtO (P : Nat → Prop) (w : World) : PV → Value → Prop where
  | mk (k n : Int) (s : ByteArray) (l : List PV) (a : Option Addr) (c : Nat) (vs : Nat → Value) (hk : -9223372036854775808 ≤ k ∧ k ≤ 9223372036854775807) (hn : -9223372036854775808 ≤ n ∧ n ≤ 9223372036854775807)
    (hs : s.size ≤ 9223372036854775807) (hl : l.length ≤ 9223372036854775807) (hr : RowO P w a l.length vs) (hv : ∀ j x, l[j]? = some x → PAtO P w x (vs j)) :
    PAtO P w (.mk k n s l) (.agg #[.int .i64 k, .int .i64 n, .string s, .slice a l.length c])
theorem PAtO.pat {P : Nat → Prop} {w : World} {x : PV} {v : Value} (h : PAtO P w x v) : PAt w x v := by
  induction h with
  | mk k n s l a c vs hk hn hs hl hr hv ih => exact .mk k n s l a c vs hk hn hs hl hr.row ih
theorem PAtO.move {P Q : Nat → Prop} {w : World} {x : PV} {v : Value} (h : PAtO P w x v) : ∀ {w' : World}, w.heap.size ≤ w'.heap.size → (∀ b, b < w.heap.size → P b → Q b ∧ ∀ i, w'.cell? ⟨b, i, none⟩ = w.cell? ⟨b, i, none⟩) → PAtO Q w' x v := by
  induction h with
  | mk k n s l a c vs hk hn hs hl hr hv ih =>
    intro w' hsz he
    refine .mk k n s l a c vs hk hn hs hl ?_ fun j x hx => ih j x hx hsz he
    rcases hr with h | ⟨b, off, rfl, h2, h3, h4⟩
    · exact Or.inl h
    · have := he b h2 h3
      exact Or.inr ⟨b, off, rfl, by omega, this.1, fun j hj => (h4 j hj).same this.2⟩
theorem PAtO.keep {P : Nat → Prop} {w w' : World} {x : PV} {v : Value} (h : PAtO P w x v) (hb : Below w.heap.size w w') : PAtO P w' x v :=
  h.move hb.size fun b hb' hP => ⟨hP, fun i => hb.cell (p := ⟨b, i, none⟩) hb'⟩
theorem PAtO.imp {P Q : Nat → Prop} {w : World} {x : PV} {v : Value} (h : PAtO P w x v) (hi : ∀ b, b < w.heap.size → P b → Q b) : PAtO Q w x v := h.move (Nat.le_refl _) fun b hb hP => ⟨hi b hb hP, fun _ => rfl⟩
theorem pz_atO (P : Nat → Prop) (w : World) : PAtO P w pz pzV := .mk 0 0 ⟨#[]⟩ [] none 0 (fun _ => undef) (by decide) (by decide) (by decide) (by decide) (Or.inl rfl) (fun j x h => by simp at h)
theorem PAtO.form {P : Nat → Prop} {w : World} {x : PV} {v : Value} (h : PAtO P w x v) : ∃ (k n : Int) (s : ByteArray) (a : Option Addr) (m c : Nat), v = .agg #[.int .i64 k, .int .i64 n, .string s, .slice a m c] := h.pat.form
/-! rows of values -/
def cells4 (vs : List Value) : List Value := vs.flatMap fun v => v.cells.toList
def Four (vs : List Value) : Prop := ∀ v ∈ vs, ∃ c0 c1 c2 c3, v = .agg #[c0, c1, c2, c3]
theorem cells4_cons (d0 d1 d2 d3 : Value) (t : List Value) : cells4 (.agg #[d0, d1, d2, d3] :: t) = d0 :: d1 :: d2 :: d3 :: cells4 t := by unfold cells4; simp [Value.cells]
theorem cells4_len {vs : List Value} (h : Four vs) : (cells4 vs).length = vs.length * 4 := by
  induction vs with
  | nil => rfl
  | cons v t ih =>
    obtain ⟨c0, c1, c2, c3, rfl⟩ := h v (by simp)
    have := ih fun u hu => h u (by simp [hu])
    rw [cells4_cons]
    simp only [List.length_cons, this]
    omega
theorem cells4_append (vs us : List Value) : cells4 (vs ++ us) = cells4 vs ++ cells4 us := by unfold cells4; rw [List.flatMap_append]
theorem cells4_at {vs : List Value} (h : Four vs) {j : Nat} {c0 c1 c2 c3 : Value} (hj : vs[j]? = some (.agg #[c0, c1, c2, c3])) :
    (cells4 vs)[j * 4]? = some c0 ∧ (cells4 vs)[j * 4 + 1]? = some c1 ∧ (cells4 vs)[j * 4 + 2]? = some c2 ∧ (cells4 vs)[j * 4 + 3]? = some c3 := by
  induction vs generalizing j with
  | nil => simp at hj
  | cons v t ih =>
    obtain ⟨d0, d1, d2, d3, rfl⟩ := h v (by simp)
    have e := cells4_cons d0 d1 d2 d3 t
    cases j with
    | zero =>
      simp only [List.getElem?_cons_zero, Option.some.injEq, Value.agg.injEq, Array.mk.injEq, List.cons.injEq, and_true] at hj
      obtain ⟨rfl, rfl, rfl, rfl⟩ := hj
      rw [e]; exact ⟨rfl, rfl, rfl, rfl⟩
    | succ j =>
      have := ih (fun u hu => h u (by simp [hu])) (j := j) (by simpa using hj)
      rw [e, show (j + 1) * 4 = j * 4 + 1 + 1 + 1 + 1 from by omega]
      exact this
def OwnV (w : World) (base : Nat) (v : Value) (vs : List Value) : Prop := w.ownsRow base 59 4 v vs.length (cells4 vs) ∧ Four vs
theorem OwnV.row {P : Nat → Prop} {w : World} {base : Nat} {v : Value} {vs : List Value} (h : OwnV w base v vs) (hP : ∀ g, v.ownBlock = some g → P g) : ∃ a c, v = .slice a vs.length c ∧ RowO P w a vs.length (fun j => vs.getD j undef) := by
  obtain ⟨a, c, h1, h2⟩ := ownsRow_row h.1
  refine ⟨a, c, h1, ?_⟩
  by_cases h0 : vs.length = 0
  · exact Or.inl h0
  · rcases h2 with h2 | ⟨b, off, rfl, hb, hc⟩
    · have := cells4_len h.2; rw [h2] at this; simp at this; omega
    · refine Or.inr ⟨b, off, rfl, hb, hP b ?_, fun j hj => ?_⟩
      · rw [h1]; rfl
      · obtain ⟨c0, c1, c2, c3, e⟩ := h.2 vs[j] (List.getElem_mem hj)
        have hj' : vs[j]? = some (.agg #[c0, c1, c2, c3]) := by rw [List.getElem?_eq_getElem hj, e]
        obtain ⟨k0, k1, k2, k3⟩ := cells4_at h.2 hj'
        refine ⟨c0, c1, c2, c3, by simp [List.getD, hj'], hc _ _ k0, ?_, ?_, ?_⟩
        · have := hc _ _ k1; simpa [Nat.add_assoc] using this
        · have := hc _ _ k2; simpa [Nat.add_assoc] using this
        · have := hc _ _ k3; simpa [Nat.add_assoc] using this
theorem Tryd.infoVal : (Tryd.prog.info? 59).map (fun i => (i.zero, i.size, i.bytes)) = some (some pzV, 4, 56) := by kernel_rfl
theorem tyVals : ElemTy Tryd.prog 57 59 pzV 4 56 := by
  obtain ⟨i0, hi, hz0, hz1, hz2⟩ := info_parts Tryd.infoVal
  exact ⟨Tryd.underlying57, ⟨i0, hi, hz0, hz1, hz2⟩, rfl, by decide⟩
end Go.Proofs.YtdpkmcbpeloljaaDoor

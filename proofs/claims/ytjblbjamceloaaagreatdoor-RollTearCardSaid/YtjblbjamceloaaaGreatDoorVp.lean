/- The frame's part for a slice of the rolls' operations. -/
import Derived.Test.YtjblbjamceloaaaGreatDoorFv
import Derived.Test.YtjblbjamceloaaaGreatDoorVo
namespace Go.Proofs.YtjblbjamceloaaaGreatDoor
open Go.ChangeShapes Go.WideShapes Go.ChangeAt Go.RowKit Go.Joins

set_option maxRecDepth 100000
theorem five_of {cs : List Value} (h : cs.length = 5) : ∃ a b c d e, cs = [a, b, c, d, e] := by
  match cs, h with
  | [a, b, c, d, e], _ => exact ⟨a, b, c, d, e, rfl⟩
theorem rop_cells {H : Type} {enc : TypeId × Value → H} {W : World} {base : Nat} {spare : Nat → Bool} {held : Bool} {k : Nat} {cs : List Value} {y : DataW H × List MemPlace} (h : DataW.trod enc Tryz.prog W base spare held k 55 cs = some y) :
    ∃ x : ROp, cs = x.cells ∧ x.ok := by
  obtain ⟨xs, n, -, -, hl, hlen, hf⟩ := DataW.trod_struct Tryz.underlying55 h
  have e5 : Tryz.prog.cellsOf 55 = 5 := by kernel_rfl
  have ei : Tryz.prog.cellsOf 3 = 1 := by kernel_rfl
  have es : Tryz.prog.cellsOf 9 = 1 := by kernel_rfl
  rw [e5] at hl
  obtain ⟨a, b, c, d, e, rfl⟩ := five_of hl
  have hlen5 : xs.length = 5 := hlen
  have h0 := hf 0 _ rfl
  have h1 := hf 1 _ rfl
  have h2 := hf 2 _ rfl
  have h3 := hf 3 _ rfl
  have h4 := hf 4 _ rfl
  rw [List.getElem?_eq_getElem (by omega)] at h0 h1 h2 h3 h4
  simp only [List.getElem_toArray, List.getElem_cons_zero, List.getElem_cons_succ] at h0 h1 h2 h3 h4
  rw [ei] at h0 h1
  rw [es] at h2 h3 h4
  simp only [List.drop_zero, List.drop_succ_cons, List.take_succ_cons, List.take_zero] at h0 h1 h2 h3 h4
  obtain ⟨kd, hk, -, -⟩ := DataW.trod_int Tryz.underlying3 h0
  obtain ⟨on, hn, -, hw⟩ := DataW.trod_int Tryz.underlying3 h1
  obtain ⟨nm, hs2, -, z2⟩ := DataW.trod_string Tryz.underlying9 h2
  obtain ⟨to_, hs3, -, z3⟩ := DataW.trod_string Tryz.underlying9 h3
  obtain ⟨s, hs4, -, z4⟩ := DataW.trod_string Tryz.underlying9 h4
  simp only [List.cons.injEq, and_true] at hk hn hs2 hs3 hs4
  subst hk hn hs2 hs3 hs4
  exact ⟨⟨kd, on, nm, to_, s⟩, rfl, bd_i64 hw, bd_str z2, bd_str z3, bd_str z4⟩
theorem open_rops {H : Type} {enc : TypeId × Value → H} {W : World} {r : Reach} {b0 base : Nat} {spare : Nat → Bool} {held : Bool} {v : Value} {d : DataW H} {p : List MemPlace}
    (hv : Value.okWide Tryz.prog W r b0 49 v) (h : DataW.Trod enc Tryz.prog W base spare held 49 v d p) :
    ∃ (a : Option Addr) (c : Nat) (L : List ROp), v = .slice a L.length c ∧ RowsAt W a 5 (L.map ROp.cells) ∧ (∀ x ∈ L, x.ok) ∧ L.length ≤ c ∧ c ≤ maxLen :=
  open_rows (n := 5) ROp.cells Tryz.underlying49 (by kernel_rfl) (by decide) (fun _ _ _ hy => rop_cells hy) hv h
end Go.Proofs.YtjblbjamceloaaaGreatDoor

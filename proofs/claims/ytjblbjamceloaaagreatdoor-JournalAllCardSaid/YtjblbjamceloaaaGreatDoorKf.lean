/- The frame's part for a slice of JournalAll's operations. -/
import Derived.Test.YtjblbjamceloaaaGreatDoorFv
import Derived.Test.YtjblbjamceloaaaGreatDoorKc
namespace Go.Proofs.YtjblbjamceloaaaGreatDoor
open Go.ChangeShapes Go.WideShapes Go.ChangeAt Go.RowKit Go.Joins


set_option maxRecDepth 100000
theorem jop_cells {H : Type} {enc : TypeId × Value → H} {W : World} {base : Nat} {spare : Nat → Bool} {held : Bool} {k : Nat} {cs : List Value} {y : DataW H × List MemPlace} (h : DataW.trod enc Tryz.prog W base spare held k 32 cs = some y) :
    ∃ x : JOp, cs = x.cells ∧ x.s.size ≤ maxLen ∧ -9223372036854775808 ≤ x.n ∧ x.n ≤ 9223372036854775807 := by
  obtain ⟨xs, n, -, -, hl, hlen, hf⟩ := DataW.trod_struct Tryz.underlying32 h
  have e4 : Tryz.prog.cellsOf 32 = 4 := by kernel_rfl
  have ei : Tryz.prog.cellsOf 3 = 1 := by kernel_rfl
  have es : Tryz.prog.cellsOf 9 = 1 := by kernel_rfl
  have eb : Tryz.prog.cellsOf 4 = 1 := by kernel_rfl
  rw [e4] at hl
  obtain ⟨a, b, c, d, rfl⟩ := four_of hl
  have hlen4 : xs.length = 4 := hlen
  have h0 := hf 0 _ rfl
  have h1 := hf 1 _ rfl
  have h2 := hf 2 _ rfl
  have h3 := hf 3 _ rfl
  rw [List.getElem?_eq_getElem (by omega)] at h0 h1 h2 h3
  simp only [List.getElem_toArray, List.getElem_cons_zero, List.getElem_cons_succ] at h0 h1 h2 h3
  rw [ei] at h0 h1
  rw [es] at h2
  rw [eb] at h3
  simp only [List.drop_zero, List.drop_succ_cons, List.take_succ_cons, List.take_zero] at h0 h1 h2 h3
  obtain ⟨kd, hk, -, -⟩ := DataW.trod_int Tryz.underlying3 h0
  obtain ⟨on, hn, -, hw⟩ := DataW.trod_int Tryz.underlying3 h1
  obtain ⟨s, hs, -, hsz⟩ := DataW.trod_string Tryz.underlying9 h2
  obtain ⟨p, hp⟩ := trod_bool_cell Tryz.underlying4 h3
  simp only [List.cons.injEq, and_true] at hk hn hs hp
  subst hk hn hs hp
  have := bd_i64 hw
  exact ⟨⟨kd, on, s, p⟩, rfl, hsz, this.1, this.2⟩
theorem open_jops {H : Type} {enc : TypeId × Value → H} {W : World} {r : Reach} {b0 base : Nat} {spare : Nat → Bool} {held : Bool} {v : Value} {d : DataW H} {p : List MemPlace}
    (hv : Value.okWide Tryz.prog W r b0 22 v) (h : DataW.Trod enc Tryz.prog W base spare held 22 v d p) :
    ∃ (a : Option Addr) (c : Nat) (L : List JOp), v = .slice a L.length c ∧ RowsAt W a 4 (L.map JOp.cells) ∧ (∀ x ∈ L, x.s.size ≤ maxLen ∧ -9223372036854775808 ≤ x.n ∧ x.n ≤ 9223372036854775807) ∧ L.length ≤ c ∧ c ≤ maxLen :=
  open_rows (n := 4) JOp.cells Tryz.underlying22 (by kernel_rfl) (by decide) (fun _ _ _ hy => jop_cells hy) hv h
end Go.Proofs.YtjblbjamceloaaaGreatDoor

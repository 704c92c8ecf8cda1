/- The frame's part for slices of one-cell elements that come in as arguments. Rows of cells, so many each, one behind the other. The frame's part for slices of structs that come in as arguments. The frame's part for words and for the laws' operations that come in as arguments. The frame's part for a roster that comes in as an argument. -/
import Derived.Test.YthiphdcbboapkaaGreatDoorF1
import Derived.Test.YthiphdcbboapkaaGreatDoorKit
import Derived.Test.YthiphdcbboapkaaGreatDoorH6
import Derived.Test.YthiphdcbboapkaaGreatDoorR2
import Derived.ProofKit
import Derived.OpenShut
import Derived.ShutString
import Derived.ChangeOld
import Derived.Lib.SmallJoins
namespace Go.Proofs.YthiphdcbboapkaaGreatDoor
open Go.ChangeShapes Go.WideShapes Go.ChangeAt Go.RowKit Go.Joins

theorem open_row {H : Type} {enc : TypeId × Value → H} {P : Program} {W : World} {r : Reach} {b0 base : Nat} {spare : Nat → Bool} {held : Bool} {t e : TypeId} {φ : Value → Prop} {v : Value} {d : DataW H} {p : List MemPlace}
    (ht : P.underlying t = some (.slice e)) (hc : P.cellsOf e = 1) (hφ : ∀ n cs y, DataW.trod enc P W base spare held n e cs = some y → ∃ u, cs = [u] ∧ φ u)
    (hv : Value.okWide P W r b0 t v) (h : DataW.Trod enc P W base spare held t v d p) :
    ∃ (a : Option Addr) (c : Nat) (vs : List Value), v = .slice a vs.length c ∧ RowAt W a vs ∧ (∀ u ∈ vs, φ u) ∧ vs.length ≤ c ∧ c ≤ maxLen := by
  obtain ⟨a0, l0, c0, rfl⟩ := okWide_slice ht hv
  obtain ⟨fuel, hf⟩ := h
  have hcs : (Value.slice a0 l0 c0).cells.toList = [.slice a0 l0 c0] := by simp [Value.cells]
  rw [hcs] at hf
  rcases DataW.trod_slice ht hf with ⟨h0, _⟩ | ⟨a, len, cap, elems, rest, n, _, h1, _, hb, hl, hm, hlen, hel, hsp, hns⟩
  · simp only [List.cons.injEq, and_true] at h0
    rw [h0]
    exact ⟨none, 0, [], rfl, Or.inl rfl, by simp, by simp, by simp [maxLen]⟩
  · simp only [List.cons.injEq, and_true] at h1
    rw [h1]
    have each : ∀ i, i < len → ∃ u, φ u ∧ W.cell? (a.add i) = some u := by
      intro i hi
      have h2 := hel i hi
      rw [List.getElem?_eq_getElem (by omega), hc, Nat.mul_one, Option.bind_eq_some_iff] at h2
      obtain ⟨cs, h3, h4⟩ := h2
      obtain ⟨u, rfl, hu⟩ := hφ _ _ _ h4
      exact ⟨u, hu, cell_of_cells?_one h3⟩
    let f : Nat → Value := fun i => (W.cell? (a.add i)).getD undef
    have hf : ∀ i, i < len → φ (f i) ∧ W.cell? (a.add i) = some (f i) := fun i hi => by
      obtain ⟨u, h5, h6⟩ := each i hi
      have : f i = u := by simp only [f, h6, Option.getD_some]
      rw [this]; exact ⟨h5, h6⟩
    refine ⟨some a, cap, (List.range len).map f, by simp, ?_, ?_, by simpa using hl, hm⟩
    · by_cases h0 : len = 0
      · left; simp [h0]
      · right
        obtain ⟨b, off, ap⟩ := a
        have hap : ap = none := by simpa [Addr.add] using World.cell?_spot (hf 0 (by omega)).2
        subst hap
        have hadd : ∀ j, (⟨b, off, none⟩ : Addr).add j = ⟨b, off + j, none⟩ := fun j => by unfold Addr.add; split <;> simp_all
        refine ⟨b, off, rfl, ?_, fun j u hj => ?_⟩
        · have := (hf 0 (by omega)).2
          exact cell_old this
        · obtain ⟨hj1, hj2⟩ := List.getElem?_eq_some_iff.1 hj
          simp at hj1 hj2
          rw [← hadd, (hf j hj1).2, hj2]
    · intro u hu
      obtain ⟨i, hi, rfl⟩ := List.mem_map.1 hu
      exact (hf i (by simpa using hi)).1
theorem list_of {vs : List Value} {α : Type} (g : α → Value) (_z : α) (h : ∀ u ∈ vs, ∃ x, u = g x) : ∃ xs : List α, vs = xs.map g := by
  induction vs with
  | nil => exact ⟨[], rfl⟩
  | cons u t ih =>
    obtain ⟨xs, hx⟩ := ih fun v hv => h v (by simp [hv])
    obtain ⟨x, hu⟩ := h u (by simp)
    exact ⟨x :: xs, by rw [hx, hu]; rfl⟩
theorem open_bools' {H : Type} {enc : TypeId × Value → H} {P : Program} {W : World} {r : Reach} {b0 base : Nat} {spare : Nat → Bool} {held : Bool} {t e : TypeId} {v : Value} {d : DataW H} {p : List MemPlace}
    (ht : P.underlying t = some (.slice e)) (he : P.underlying e = some .bool) (hc : P.cellsOf e = 1)
    (hv : Value.okWide P W r b0 t v) (h : DataW.Trod enc P W base spare held t v d p) :
    ∃ (a : Option Addr) (c : Nat) (bs : List Bool), v = .slice a bs.length c ∧ RowAt W a (bs.map .bool) ∧ bs.length ≤ c ∧ c ≤ maxLen := by
  obtain ⟨a, c, vs, rfl, h1, h2, h3, h4⟩ := open_row (φ := fun u => ∃ b, u = .bool b) ht hc (fun n cs y hy => by obtain ⟨b, rfl, _⟩ := DataW.trod_bool he hy; exact ⟨_, rfl, b, rfl⟩) hv h
  obtain ⟨bs, rfl⟩ := list_of Value.bool false h2
  exact ⟨a, c, bs, by simp, h1, by simpa using h3, h4⟩
theorem open_ints' {H : Type} {enc : TypeId × Value → H} {P : Program} {W : World} {r : Reach} {b0 base : Nat} {spare : Nat → Bool} {held : Bool} {t e : TypeId} {v : Value} {d : DataW H} {p : List MemPlace}
    (ht : P.underlying t = some (.slice e)) (he : P.underlying e = some (.int .i64)) (hc : P.cellsOf e = 1)
    (hv : Value.okWide P W r b0 t v) (h : DataW.Trod enc P W base spare held t v d p) :
    ∃ (a : Option Addr) (c : Nat) (zs : List Int), v = .slice a zs.length c ∧ IntsAt W a zs ∧ zs.length ≤ c ∧ c ≤ maxLen := by
  obtain ⟨a, c, vs, rfl, h1, h2, h3, h4⟩ := open_row (φ := fun u => ∃ n, u = .int .i64 n) ht hc (fun n cs y hy => by obtain ⟨b, rfl, _⟩ := DataW.trod_int he hy; exact ⟨_, rfl, b, rfl⟩) hv h
  obtain ⟨zs, rfl⟩ := list_of (Value.int .i64) 0 h2
  exact ⟨a, c, zs, by simp, h1.ints, by simpa using h3, h4⟩

theorem open_strs' {H : Type} {enc : TypeId × Value → H} {P : Program} {W : World} {r : Reach} {b0 base : Nat} {spare : Nat → Bool} {held : Bool} {t e : TypeId} {v : Value} {d : DataW H} {p : List MemPlace}
    (ht : P.underlying t = some (.slice e)) (he : P.underlying e = some .string) (hc : P.cellsOf e = 1)
    (hv : Value.okWide P W r b0 t v) (h : DataW.Trod enc P W base spare held t v d p) :
    ∃ (a : Option Addr) (c : Nat) (ss : List ByteArray), v = .slice a ss.length c ∧ RowAt W a (ss.map .string) ∧ (∀ s ∈ ss, s.size ≤ maxLen) ∧ ss.length ≤ c ∧ c ≤ maxLen := by
  obtain ⟨a, c, vs, rfl, h1, h2, h3, h4⟩ := open_row (φ := fun u => ∃ s : ByteArray, u = .string s ∧ s.size ≤ maxLen) ht hc (fun n cs y hy => by obtain ⟨s, rfl, _, hs⟩ := DataW.trod_string he hy; exact ⟨_, rfl, s, rfl, hs⟩) hv h
  obtain ⟨ss, rfl⟩ := list_of Value.string ByteArray.empty (fun u hu => by obtain ⟨s, rfl, _⟩ := h2 u hu; exact ⟨s, rfl⟩)
  refine ⟨a, c, ss, by simp, h1, fun s hs => ?_, by simpa using h3, h4⟩
  obtain ⟨s', e, hs'⟩ := h2 (.string s) (List.mem_map.2 ⟨s, hs, rfl⟩)
  cases e
  exact hs'
end Go.Proofs.YthiphdcbboapkaaGreatDoor
namespace Go.Proofs.YthiphdcbboapkaaGreatDoor
open Go.RowKit

/-- Rows of cells, so many each, one behind the other. -/
def RowsAt (w : World) (a : Option Addr) (n : Nat) (L : List (List Value)) : Prop :=
  L = [] ∨ ∃ b off, a = some ⟨b, off, none⟩ ∧ b < w.heap.size ∧ ∀ i cs, L[i]? = some cs → ∀ j u, cs[j]? = some u → w.cell? ⟨b, off + i * n + j, none⟩ = some u
theorem RowsAt.keep {w w' : World} {a : Option Addr} {n : Nat} {L : List (List Value)} (h : RowsAt w a n L) (k : Below w.heap.size w w') : RowsAt w' a n L := by
  rcases h with h | ⟨b, off, rfl, hb, hc⟩
  · exact Or.inl h
  · exact Or.inr ⟨b, off, rfl, Nat.lt_of_lt_of_le hb k.size, fun i cs hi j u hj => (k.cell (p := ⟨b, off + i * n + j, none⟩) hb).trans (hc i cs hi j u hj)⟩
end Go.Proofs.YthiphdcbboapkaaGreatDoor
namespace Go.Proofs.YthiphdcbboapkaaGreatDoor
open Go.ChangeShapes Go.WideShapes Go.ChangeAt Go.RowKit Go.Joins

theorem addr_off (q o j : Nat) : (⟨q, o, none⟩ : Addr).add j = ⟨q, o + j, none⟩ := by unfold Addr.add; split <;> simp_all
theorem list_of' {α : Type} (g : α → List Value) {L : List (List Value)} (h : ∀ u ∈ L, ∃ x, u = g x) : ∃ xs : List α, L = xs.map g := by
  induction L with
  | nil => exact ⟨[], rfl⟩
  | cons u t ih =>
    obtain ⟨xs, hx⟩ := ih fun v hv => h v (by simp [hv])
    obtain ⟨x, hu⟩ := h u (by simp)
    exact ⟨x :: xs, by rw [hx, hu]; rfl⟩
theorem open_rows {H : Type} {enc : TypeId × Value → H} {P : Program} {W : World} {r : Reach} {b0 base : Nat} {spare : Nat → Bool} {held : Bool} {t e : TypeId} {α : Type} (g : α → List Value) {φ : α → Prop} {n : Nat} {v : Value} {d : DataW H} {p : List MemPlace}
    (ht : P.underlying t = some (.slice e)) (hc : P.cellsOf e = n) (hn : 0 < n) (hφ : ∀ k cs y, DataW.trod enc P W base spare held k e cs = some y → ∃ x, cs = g x ∧ φ x)
    (hv : Value.okWide P W r b0 t v) (h : DataW.Trod enc P W base spare held t v d p) :
    ∃ (a : Option Addr) (c : Nat) (L : List α), v = .slice a L.length c ∧ RowsAt W a n (L.map g) ∧ (∀ x ∈ L, φ x) ∧ L.length ≤ c ∧ c ≤ maxLen := by
  obtain ⟨a0, l0, c0, rfl⟩ := okWide_slice ht hv
  obtain ⟨fuel, hf⟩ := h
  have hcs : (Value.slice a0 l0 c0).cells.toList = [.slice a0 l0 c0] := by simp [Value.cells]
  rw [hcs] at hf
  rcases DataW.trod_slice ht hf with ⟨h0, _⟩ | ⟨a, len, cap, elems, rest, m, _, h1, _, hb, hl, hm, hlen, hel, hsp, hns⟩
  · simp only [List.cons.injEq, and_true] at h0
    rw [h0]
    exact ⟨none, 0, [], rfl, Or.inl rfl, by simp, by simp, by simp [maxLen]⟩
  · simp only [List.cons.injEq, and_true] at h1
    rw [h1]
    have each : ∀ i, i < len → ∃ x, φ x ∧ W.cells? base (a.add (i * n)) n = some (g x) := by
      intro i hi
      have h2 := hel i hi
      rw [List.getElem?_eq_getElem (by omega), hc, Option.bind_eq_some_iff] at h2
      obtain ⟨cs, h3, h4⟩ := h2
      obtain ⟨x, rfl, hx⟩ := hφ _ _ _ h4
      exact ⟨x, hx, h3⟩
    obtain ⟨L, hL, hg⟩ : ∃ L : List α, L.length = len ∧ ∀ i x, L[i]? = some x → φ x ∧ W.cells? base (a.add (i * n)) n = some (g x) := by
      clear hl hlen hel hsp hns hf h1
      induction len with
      | zero => exact ⟨[], rfl, by simp⟩
      | succ k ih =>
        obtain ⟨L, h1, h2⟩ := ih (fun i hi => each i (by omega))
        obtain ⟨x, hx, hc2⟩ := each k (by omega)
        refine ⟨L ++ [x], by simp [h1], fun i y hi => ?_⟩
        by_cases hk : i < L.length
        · rw [List.getElem?_append_left hk] at hi
          exact h2 i y hi
        · have hi2 : i = k := by
            have := (List.getElem?_eq_some_iff.1 hi).1
            simp at this
            omega
          subst hi2
          rw [List.getElem?_append_right (by omega), h1, Nat.sub_self] at hi
          simp at hi
          subst hi
          exact ⟨hx, hc2⟩
    refine ⟨some a, cap, L, by rw [hL], ?_, fun x hx => ?_, by omega, hm⟩
    · by_cases h0 : len = 0
      · left
        have : L = [] := List.length_eq_zero_iff.1 (by omega)
        rw [this]; rfl
      · right
        obtain ⟨x0, hx0⟩ : ∃ x, L[0]? = some x := ⟨_, List.getElem?_eq_getElem (by omega)⟩
        obtain ⟨b, off, ap⟩ := a
        have hz := World.cells?_some (hg 0 x0 hx0).2
        have hg0 : ∃ u, (g x0)[0]? = some u := ⟨_, List.getElem?_eq_getElem (by have := hz.2.1; omega)⟩
        obtain ⟨u0, hu0⟩ := hg0
        have hc0 := (hz.2.2 0 (by have := hz.2.1; omega)).trans hu0
        have hap : ap = none := by simpa [Addr.add] using World.cell?_spot hc0
        subst hap
        refine ⟨b, off, rfl, ?_, fun i cs hi j u hj => ?_⟩
        · have h3 := hc0
          rw [Nat.zero_mul, addr_off, addr_off] at h3
          exact cell_old h3
        · rw [List.getElem?_map] at hi
          cases hx : L[i]? with
          | none => rw [hx] at hi; simp at hi
          | some x =>
            rw [hx] at hi
            simp only [Option.map_some, Option.some.injEq] at hi
            subst hi
            have hz := World.cells?_some (hg i x hx).2
            have hj1 := (List.getElem?_eq_some_iff.1 hj).1
            have h3 := (hz.2.2 j (by have := hz.2.1; omega)).trans hj
            rw [addr_off, addr_off] at h3
            exact h3
    · obtain ⟨i, hi⟩ := List.mem_iff_getElem?.1 hx
      exact (hg i x hi).1
theorem trod_bool_cell {H : Type} {enc : TypeId × Value → H} {P : Program} {W : World} {base : Nat} {spare : Nat → Bool} {held : Bool} {t : TypeId} {k : Nat} {cs : List Value} {y : DataW H × List MemPlace} (ht : P.underlying t = some .bool) (h : DataW.trod enc P W base spare held k t cs = some y) : ∃ b, cs = [.bool b] := by
  cases k with
  | zero => simp [DataW.trod] at h
  | succ k =>
    unfold DataW.trod at h
    rw [ht] at h
    split at h <;> simp_all
theorem four_of {cs : List Value} (h : cs.length = 4) : ∃ a b c d, cs = [a, b, c, d] := by
  match cs, h with
  | [a, b, c, d], _ => exact ⟨a, b, c, d, rfl⟩
end Go.Proofs.YthiphdcbboapkaaGreatDoor
namespace Go.Proofs.YthiphdcbboapkaaGreatDoor
open Go.ChangeShapes Go.WideShapes Go.ChangeAt Go.RowKit Go.Joins

set_option maxRecDepth 100000
section
variable {H : Type} {enc : TypeId × Value → H} {W : World} {base : Nat} {spare : Nat → Bool} {held : Bool} {k : Nat} {cs : List Value} {y : DataW H × List MemPlace}
theorem one_int {t : TypeId} (ht : Tryz.prog.underlying t = some (.int .i64)) (h : DataW.trod enc Tryz.prog W base spare held k t cs = some y) : ∃ n, cs = [.int .i64 n] ∧ -9223372036854775808 ≤ n ∧ n ≤ 9223372036854775807 := by
  obtain ⟨n, h1, -, h2⟩ := DataW.trod_int ht h
  exact ⟨n, h1, bd_i64 h2⟩
theorem one_slice {t e : TypeId} (ht : Tryz.prog.underlying t = some (.slice e)) (h : DataW.trod enc Tryz.prog W base spare held k t cs = some y) : ∃ a n c, cs = [.slice a n c] := by
  rcases DataW.trod_slice ht h with ⟨h1, _⟩ | ⟨a, len, cap, elems, rest, m, _, h1, _⟩
  · exact ⟨none, 0, 0, h1⟩
  · exact ⟨some a, len, cap, h1⟩
theorem fld {t : TypeId} {fs : Array Field} (ht : Tryz.prog.underlying t = some (.struct fs)) (h : DataW.trod enc Tryz.prog W base spare held k t cs = some y) {i : Nat} {f : Field} (hf : fs[i]? = some f) : ∃ m z, DataW.trod enc Tryz.prog W base spare held m f.type ((cs.drop f.offset).take (Tryz.prog.cellsOf f.type)) = some z := by
  obtain ⟨xs, n, -, -, hl, hlen, hff⟩ := DataW.trod_struct ht h
  have h1 := hff i f hf
  have hi : i < fs.size := (Array.getElem?_eq_some_iff.1 hf).1
  rw [List.getElem?_eq_getElem (by omega)] at h1
  exact ⟨n, _, h1⟩
theorem len_of {t : TypeId} {fs : Array Field} (ht : Tryz.prog.underlying t = some (.struct fs)) (h : DataW.trod enc Tryz.prog W base spare held k t cs = some y) : cs.length = Tryz.prog.cellsOf t := by
  obtain ⟨xs, n, -, -, hl, hlen, hff⟩ := DataW.trod_struct ht h
  exact hl
theorem c_int : Tryz.prog.cellsOf 3 = 1 := by kernel_rfl
theorem c_i64 : Tryz.prog.cellsOf 2 = 1 := by kernel_rfl
theorem c_bool : Tryz.prog.cellsOf 4 = 1 := by kernel_rfl
theorem c_errno : Tryz.prog.cellsOf 31 = 1 := by kernel_rfl
theorem c_ints : Tryz.prog.cellsOf 22 = 1 := by kernel_rfl
theorem c_deeds : Tryz.prog.cellsOf 39 = 1 := by kernel_rfl
theorem c_entries : Tryz.prog.cellsOf 40 = 1 := by kernel_rfl
theorem c_memos : Tryz.prog.cellsOf 41 = 1 := by kernel_rfl
theorem c_res : Tryz.prog.cellsOf 38 = 2 := by kernel_rfl
theorem c_ros : Tryz.prog.cellsOf 24 = 3 := by kernel_rfl
theorem c_lows : Tryz.prog.cellsOf 42 = 5 := by kernel_rfl
theorem c_state : Tryz.prog.cellsOf 44 = 8 := by kernel_rfl
theorem c_word : Tryz.prog.cellsOf 46 = 21 := by kernel_rfl
theorem c_op : Tryz.prog.cellsOf 48 = 25 := by kernel_rfl
theorem list2 {cs : List Value} (h : cs.length = 2) : ∃ a b, cs = [a, b] := by
  match cs, h with
  | [a, b], _ => exact ⟨a, b, rfl⟩
theorem list3 {cs : List Value} (h : cs.length = 3) : ∃ a b c, cs = [a, b, c] := by
  match cs, h with
  | [a, b, c], _ => exact ⟨a, b, c, rfl⟩
theorem list5 {cs : List Value} (h : cs.length = 5) : ∃ a b c d e, cs = [a, b, c, d, e] := by
  match cs, h with
  | [a, b, c, d, e], _ => exact ⟨a, b, c, d, e, rfl⟩
theorem res_cells (h : DataW.trod enc Tryz.prog W base spare held k 38 cs = some y) : ∃ a b, cs = [.int .i64 a, .int .i64 b] := by
  have hl := len_of Tryz.underlying38 h
  rw [c_res] at hl
  obtain ⟨a, b, rfl⟩ := list2 hl
  obtain ⟨_, _, h0⟩ := fld Tryz.underlying38 h (i := 0) rfl
  obtain ⟨_, _, h1⟩ := fld Tryz.underlying38 h (i := 1) rfl
  simp only [List.getElem_toArray, List.getElem_cons_zero, List.getElem_cons_succ] at h0 h1
  simp only [c_errno, c_i64, List.drop_zero, List.drop_succ_cons, List.take_succ_cons, List.take_zero] at h0 h1
  obtain ⟨n0, e0, -⟩ := one_int Tryz.underlying31 h0
  obtain ⟨n1, e1, -⟩ := one_int Tryz.underlying2 h1
  simp only [List.cons.injEq, and_true] at e0 e1
  subst e0 e1
  exact ⟨_, _, rfl⟩
theorem ros_cells (h : DataW.trod enc Tryz.prog W base spare held k 24 cs = some y) : ∃ e a n c w, cs = [.int .i64 e, .slice a n c, .int .i64 w] := by
  have hl := len_of Tryz.underlying24 h
  rw [c_ros] at hl
  obtain ⟨a, b, c, rfl⟩ := list3 hl
  obtain ⟨_, _, h0⟩ := fld Tryz.underlying24 h (i := 0) rfl
  obtain ⟨_, _, h1⟩ := fld Tryz.underlying24 h (i := 1) rfl
  obtain ⟨_, _, h2⟩ := fld Tryz.underlying24 h (i := 2) rfl
  simp only [List.getElem_toArray, List.getElem_cons_zero, List.getElem_cons_succ] at h0 h1 h2
  simp only [c_int, c_i64, c_ints, List.drop_zero, List.drop_succ_cons, List.take_succ_cons, List.take_zero] at h0 h1 h2
  obtain ⟨n0, e0, -⟩ := one_int Tryz.underlying2 h0
  obtain ⟨a1, n1, c1, e1⟩ := one_slice Tryz.underlying22 h1
  obtain ⟨n2, e2, -⟩ := one_int Tryz.underlying3 h2
  simp only [List.cons.injEq, and_true] at e0 e1 e2
  subst e0 e1 e2
  exact ⟨_, _, _, _, _, rfl⟩
theorem lows_cells (h : DataW.trod enc Tryz.prog W base spare held k 42 cs = some y) : ∃ a b c d e, cs = [.int .i64 a, .int .i64 b, .int .i64 c, .int .i64 d, .int .i64 e] := by
  obtain ⟨xs, m, -, -, hl, hlen, hf⟩ := DataW.trod_array Tryz.underlying42 h
  rw [c_lows] at hl
  obtain ⟨a, b, c, d, e, rfl⟩ := list5 hl
  have h0 := hf 0 (by decide)
  have h1 := hf 1 (by decide)
  have h2 := hf 2 (by decide)
  have h3 := hf 3 (by decide)
  have h4 := hf 4 (by decide)
  rw [List.getElem?_eq_getElem (by omega)] at h0 h1 h2 h3 h4
  simp only [c_i64, Nat.zero_mul, Nat.one_mul, Nat.reduceMul, List.drop_zero, List.drop_succ_cons, List.take_succ_cons, List.take_zero] at h0 h1 h2 h3 h4
  obtain ⟨n0, e0, -⟩ := one_int Tryz.underlying2 h0
  obtain ⟨n1, e1, -⟩ := one_int Tryz.underlying2 h1
  obtain ⟨n2, e2, -⟩ := one_int Tryz.underlying2 h2
  obtain ⟨n3, e3, -⟩ := one_int Tryz.underlying2 h3
  obtain ⟨n4, e4, -⟩ := one_int Tryz.underlying2 h4
  simp only [List.cons.injEq, and_true] at e0 e1 e2 e3 e4
  subst e0 e1 e2 e3 e4
  exact ⟨_, _, _, _, _, rfl⟩
theorem state_cells (h : DataW.trod enc Tryz.prog W base spare held k 44 cs = some y) : ∃ a b c d e f g l0 l1 l2 l3 l4, cs = [.int .i64 a, .slice b c d, .slice e f g, .int .i64 l0, .int .i64 l1, .int .i64 l2, .int .i64 l3, .int .i64 l4] := by
  have hl := len_of Tryz.underlying44 h
  rw [c_state] at hl
  obtain ⟨v0, v1, v2, t2, rfl⟩ : ∃ a b c d, cs = a :: b :: c :: d := by
    match cs, hl with
    | [a, b, c, d, e, f, g, h], _ => exact ⟨a, b, c, [d, e, f, g, h], rfl⟩
  obtain ⟨_, _, h0⟩ := fld Tryz.underlying44 h (i := 0) rfl
  obtain ⟨_, _, h1⟩ := fld Tryz.underlying44 h (i := 1) rfl
  obtain ⟨_, _, h2⟩ := fld Tryz.underlying44 h (i := 2) rfl
  obtain ⟨_, _, h3⟩ := fld Tryz.underlying44 h (i := 3) rfl
  have ht2 : t2.length = 5 := by simpa using hl
  simp only [List.getElem_toArray, List.getElem_cons_zero, List.getElem_cons_succ] at h0 h1 h2 h3
  simp only [c_i64, c_entries, c_memos, c_lows, List.drop_zero, List.drop_succ_cons, List.take_succ_cons, List.take_zero] at h0 h1 h2 h3
  rw [List.take_of_length_le (by omega)] at h3
  obtain ⟨n0, e0, -⟩ := one_int Tryz.underlying2 h0
  obtain ⟨a1, n1, c1, e1⟩ := one_slice Tryz.underlying40 h1
  obtain ⟨a2, n2, c2, e2⟩ := one_slice Tryz.underlying41 h2
  obtain ⟨l0, l1, l2, l3, l4, e3⟩ := lows_cells h3
  simp only [List.cons.injEq, and_true] at e0 e1 e2
  subst e0 e1 e2 e3
  exact ⟨_, _, _, _, _, _, _, _, _, _, _, _, rfl⟩
/-- What its first numbers may be. -/
def okW (x : Wd) : Prop := (-9223372036854775808 ≤ x.kind ∧ x.kind ≤ 9223372036854775807) ∧ (-9223372036854775808 ≤ x.fr ∧ x.fr ≤ 9223372036854775807) ∧ (-9223372036854775808 ≤ x.ep ∧ x.ep ≤ 9223372036854775807)
theorem word_cells (h : DataW.trod enc Tryz.prog W base spare held k 46 cs = some y) : ∃ x : Wd, cs = (wordC x).toList ∧ okW x := by
  have hl := len_of Tryz.underlying46 h
  rw [c_word] at hl
  obtain ⟨v0, v1, v2, v3, v4, v5, v6, r7, r8, o9, o10, o11, d12, t13, rfl⟩ : ∃ v0 v1 v2 v3 v4 v5 v6 r7 r8 o9 o10 o11 d12 t13, cs = v0 :: v1 :: v2 :: v3 :: v4 :: v5 :: v6 :: r7 :: r8 :: o9 :: o10 :: o11 :: d12 :: t13 := by
    match cs, hl with
    | [v0, v1, v2, v3, v4, v5, v6, r7, r8, o9, o10, o11, d12, a, b, c, d, e, f, g, h], _ => exact ⟨v0, v1, v2, v3, v4, v5, v6, r7, r8, o9, o10, o11, d12, [a, b, c, d, e, f, g, h], rfl⟩
  have ht : t13.length = 8 := by simpa using hl
  obtain ⟨_, _, h0⟩ := fld Tryz.underlying46 h (i := 0) rfl
  obtain ⟨_, _, h1⟩ := fld Tryz.underlying46 h (i := 1) rfl
  obtain ⟨_, _, h2⟩ := fld Tryz.underlying46 h (i := 2) rfl
  obtain ⟨_, _, h3⟩ := fld Tryz.underlying46 h (i := 3) rfl
  obtain ⟨_, _, h4⟩ := fld Tryz.underlying46 h (i := 4) rfl
  obtain ⟨_, _, h5⟩ := fld Tryz.underlying46 h (i := 5) rfl
  obtain ⟨_, _, h6⟩ := fld Tryz.underlying46 h (i := 6) rfl
  obtain ⟨_, _, h7⟩ := fld Tryz.underlying46 h (i := 7) rfl
  obtain ⟨_, _, h8⟩ := fld Tryz.underlying46 h (i := 8) rfl
  obtain ⟨_, _, h9⟩ := fld Tryz.underlying46 h (i := 9) rfl
  obtain ⟨_, _, h10⟩ := fld Tryz.underlying46 h (i := 10) rfl
  simp only [List.getElem_toArray, List.getElem_cons_zero, List.getElem_cons_succ] at h0 h1 h2 h3 h4 h5 h6 h7 h8 h9 h10
  simp only [c_int, c_i64, c_res, c_ros, c_deeds, c_state, List.drop_zero, List.drop_succ_cons, List.take_succ_cons, List.take_zero] at h0 h1 h2 h3 h4 h5 h6 h7 h8 h9 h10
  rw [List.take_of_length_le (by omega)] at h10
  obtain ⟨n0, e0, b0⟩ := one_int Tryz.underlying3 h0
  obtain ⟨n1, e1, b1⟩ := one_int Tryz.underlying3 h1
  obtain ⟨n2, e2, -⟩ := one_int Tryz.underlying3 h2
  obtain ⟨n3, e3, b3⟩ := one_int Tryz.underlying2 h3
  obtain ⟨n4, e4, -⟩ := one_int Tryz.underlying2 h4
  obtain ⟨n5, e5, -⟩ := one_int Tryz.underlying2 h5
  obtain ⟨n6, e6, -⟩ := one_int Tryz.underlying2 h6
  obtain ⟨s0, s1, e7⟩ := res_cells h7
  obtain ⟨re, ra, rn, rc, rw', e8⟩ := ros_cells h8
  obtain ⟨da, dn, dc, e9⟩ := one_slice Tryz.underlying39 h9
  obtain ⟨a, b, c, d, e, f, g, l0, l1, l2, l3, l4, e10⟩ := state_cells h10
  simp only [List.cons.injEq, and_true] at e0 e1 e2 e3 e4 e5 e6 e7 e8 e9
  obtain ⟨e7, e7'⟩ := e7
  obtain ⟨e8, e8', e8''⟩ := e8
  subst e0 e1 e2 e3 e4 e5 e6 e7 e7' e8 e8' e8'' e9 e10
  exact ⟨⟨n0, n1, n2, n3, n4, n5, n6, s0, s1, re, ra, rn, rc, rw', da, dn, dc, a, b, c, d, e, f, g, l0, l1, l2, l3, l4⟩, rfl, b0, b1, b3⟩
/-- A law's operation. -/
structure COp where
  kind : Int
  n : Int
  fr : Int
  old : Bool
  w : Wd
def COp.cells (o : COp) : List Value := .int .i64 o.kind :: .int .i64 o.n :: .int .i64 o.fr :: .bool o.old :: (wordC o.w).toList
def COp.ok (o : COp) : Prop := (-9223372036854775808 ≤ o.kind ∧ o.kind ≤ 9223372036854775807) ∧ (-9223372036854775808 ≤ o.n ∧ o.n ≤ 9223372036854775807) ∧ (-9223372036854775808 ≤ o.fr ∧ o.fr ≤ 9223372036854775807) ∧ okW o.w
theorem op_cells (h : DataW.trod enc Tryz.prog W base spare held k 48 cs = some y) : ∃ x : COp, cs = x.cells ∧ x.ok := by
  have hl := len_of Tryz.underlying48 h
  rw [c_op] at hl
  obtain ⟨v0, v1, v2, v3, t4, rfl⟩ : ∃ v0 v1 v2 v3 t4, cs = v0 :: v1 :: v2 :: v3 :: t4 := by
    match cs, hl with
    | a :: b :: c :: d :: t, _ => exact ⟨a, b, c, d, t, rfl⟩
  have ht : t4.length = 21 := by simpa using hl
  obtain ⟨_, _, h0⟩ := fld Tryz.underlying48 h (i := 0) rfl
  obtain ⟨_, _, h1⟩ := fld Tryz.underlying48 h (i := 1) rfl
  obtain ⟨_, _, h2⟩ := fld Tryz.underlying48 h (i := 2) rfl
  obtain ⟨_, _, h3⟩ := fld Tryz.underlying48 h (i := 3) rfl
  obtain ⟨_, _, h4⟩ := fld Tryz.underlying48 h (i := 4) rfl
  simp only [List.getElem_toArray, List.getElem_cons_zero, List.getElem_cons_succ] at h0 h1 h2 h3 h4
  simp only [c_int, c_bool, c_word, List.drop_zero, List.drop_succ_cons, List.take_succ_cons, List.take_zero] at h0 h1 h2 h3 h4
  rw [List.take_of_length_le (by omega)] at h4
  obtain ⟨n0, e0, b0⟩ := one_int Tryz.underlying3 h0
  obtain ⟨n1, e1, b1⟩ := one_int Tryz.underlying3 h1
  obtain ⟨n2, e2, b2⟩ := one_int Tryz.underlying3 h2
  obtain ⟨n3, e3, -⟩ := DataW.trod_bool Tryz.underlying4 h3
  obtain ⟨x, e4, b4⟩ := word_cells h4
  simp only [List.cons.injEq, and_true] at e0 e1 e2 e3
  subst e0 e1 e2 e3 e4
  exact ⟨⟨n0, n1, n2, n3, x⟩, rfl, b0, b1, b2, b4⟩
end
theorem open_word {H : Type} {enc : TypeId × Value → H} {W : World} {base : Nat} {spare : Nat → Bool} {held : Bool} {v : Value} {d : DataW H} {p : List MemPlace} {r : Reach} {b0 : Nat}
    (hv : Value.okWide Tryz.prog W r b0 46 v) (h : DataW.Trod enc Tryz.prog W base spare held 46 v d p) : ∃ x : Wd, v = wordV x ∧ okW x := by
  obtain ⟨cs, rfl, -⟩ := okWide_struct Tryz.underlying46 hv
  obtain ⟨fuel, hf⟩ := h
  obtain ⟨x, hc, hx⟩ := word_cells hf
  have e : cs = wordC x := Array.toList_inj.1 hc
  exact ⟨x, by rw [e]; rfl, hx⟩
theorem open_cops {H : Type} {enc : TypeId × Value → H} {W : World} {r : Reach} {b0 base : Nat} {spare : Nat → Bool} {held : Bool} {v : Value} {d : DataW H} {p : List MemPlace}
    (hv : Value.okWide Tryz.prog W r b0 25 v) (h : DataW.Trod enc Tryz.prog W base spare held 25 v d p) :
    ∃ (a : Option Addr) (c : Nat) (L : List COp), v = .slice a L.length c ∧ RowsAt W a 25 (L.map COp.cells) ∧ (∀ x ∈ L, x.ok) ∧ L.length ≤ c ∧ c ≤ maxLen :=
  open_rows (n := 25) COp.cells Tryz.underlying25 (by kernel_rfl) (by decide) (fun _ _ _ hy => op_cells hy) hv h
end Go.Proofs.YthiphdcbboapkaaGreatDoor
namespace Go.Proofs.YthiphdcbboapkaaGreatDoor
open Go.ChangeShapes Go.WideShapes Go.ChangeAt Go.RowKit Go.Joins

theorem Tryz.cellsRos : Tryz.prog.cellsOf 24 = 3 := by kernel_rfl
theorem Tryz.cellsInt : Tryz.prog.cellsOf 3 = 1 := by kernel_rfl

theorem wf_i64 {n : Int} (h : (Lit.int .i64 n).wf = true) : -9223372036854775808 ≤ n ∧ n ≤ 9223372036854775807 := bounds_i64 h

/-- Numbers that were read, as the walk is told of them. -/
theorem intsAt_of {w : World} {x : Addr} {zs : List Int} {len : Nat} (hl : len ≤ zs.length) (hc : ∀ i, i < zs.length → w.cell? (x.add i) = some (.int .i64 (zs.getD i 0))) : IntsAt w (some x) (zs.take len) := by
  by_cases h0 : len = 0
  · left; simp [h0]
  · obtain ⟨b, off, rfl, hc'⟩ := ints_at hc (by omega)
    right
    refine ⟨b, off, rfl, ?_, fun j hj => ?_⟩
    · exact cell_old (hc' 0 (by omega))
    · simp at hj
      rw [hc' j (by omega)]
      unfold nthI
      have hj1 : j < len := by omega
      have hj2 : j < zs.length := by omega
      simp [List.getD_eq_getElem?_getD, hj1, hj2]

set_option maxRecDepth 100000 in
theorem open_ros {H : Type} {enc : TypeId × Value → H} {W : World} {base : Nat} {v : Value} {d : DataW H} {p : List MemPlace}
    (hv : Value.okWide Tryz.prog W .any base 24 v) (h : DataW.Trod enc Tryz.prog W 0 (fun _ => true) true 24 v d p) :
    ∃ (e : Int) (a : Option Addr) (c : Nat) (zs : List Int) (nw : Int), v = rosV e a zs c nw ∧ (-9223372036854775808 ≤ e ∧ e ≤ 9223372036854775807) ∧ (-9223372036854775808 ≤ nw ∧ nw ≤ 9223372036854775807) ∧ IntsAt W a zs ∧ zs.length ≤ c ∧ c ≤ maxLen ∧ zs.length ≤ 9223372036854775807 := by
  obtain ⟨c0, c1, c2, y0, y1, y2, n, rfl, rfl, rfl, hy0, hy1, hy2⟩ := open_agg3 Tryz.underlying24 (by kernel_rfl) Tryz.cellsRos hv h
  obtain ⟨e, e0, rfl, we⟩ := DataW.trod_int Tryz.underlying2 hy0
  obtain ⟨nw, e2, rfl, wn⟩ := DataW.trod_int Tryz.underlying3 hy2
  simp only [List.cons.injEq, and_true] at e0 e2
  subst e0
  subst e2
  rcases open_ints Tryz.underlying22 Tryz.underlying3 (by kernel_rfl) hy1 with ⟨hcs, _⟩ | ⟨x, l, c, zs, hcs, _, hl, hm, hz, _, hcell, hwz⟩
  · simp only [List.cons.injEq, and_true] at hcs
    subst hcs
    exact ⟨e, none, 0, [], nw, rfl, wf_i64 we, wf_i64 wn, Or.inl rfl, by simp, by simp [maxLen], by simp⟩
  · simp only [List.cons.injEq, and_true] at hcs
    subst hcs
    have hz' : zs.length = c := by simpa using hz
    have hlt : (zs.take l).length = l := by simp; omega
    refine ⟨e, some x, c, zs.take l, nw, ?_, wf_i64 we, wf_i64 wn, intsAt_of (by omega) hcell, by omega, hm, by unfold maxLen at hm; omega⟩
    rw [rosV, hlt]

end Go.Proofs.YthiphdcbboapkaaGreatDoor

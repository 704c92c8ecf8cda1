/- Rows of the document's rolls: read, stored into, appended to; a chest of the document's. -/
import Derived.Test.YtjblbjamceloaaaGreatDoorVa
import Derived.Test.YtjblbjamceloaaaGreatDoorN8
import Derived.Deep.RegionLaw
import Derived.Deep.Upon
namespace Go.Proofs.YtjblbjamceloaaaGreatDoor
open Go.RowKit

set_option maxRecDepth 100000
theorem Tryz.infoRoll : (Tryz.prog.info? 89).map (fun i => (i.zero.map fun z => z.cells.size, i.size, i.bytes)) = some (some 4, 4, 48) := by kernel_rfl
theorem infoRoll' : ∃ i z, Tryz.prog.info? 89 = some i ∧ i.zero = some z ∧ z.cells.size = 4 ∧ i.size = 4 ∧ i.bytes = 48 := by
  have h := Tryz.infoRoll
  cases hi : Tryz.prog.info? 89 with
  | none => rw [hi] at h; simp at h
  | some i =>
    rw [hi] at h
    simp only [Option.map_some, Option.some.injEq, Prod.mk.injEq] at h
    cases hz : i.zero with
    | none => rw [hz] at h; simp at h
    | some z =>
      rw [hz] at h
      simp only [Option.map_some, Option.some.injEq] at h
      exact ⟨i, z, rfl, hz, h.1, h.2.1, h.2.2⟩
theorem addr_pl (q o j : Nat) : (⟨q, o, none⟩ : Addr).add j = ⟨q, o + j, none⟩ := by unfold Addr.add; split <;> simp_all
def ownB (v : Value) : List Nat := v.ownBlock.toList
theorem ownB_nil : ownB (.slice none 0 0) = [] := rfl
theorem ownB_some (q o n c : Nat) : ownB (.slice (some ⟨q, o, none⟩) n c) = [q] := rfl
/-- A row of the document's rolls in a block of its own. -/
def Rows4 (w : World) (v : Value) (L : List Rl) : Prop := w.ownsRow 0 89 4 v L.length (rollsC L)
theorem Rows4.nil (w : World) : Rows4 w (.slice none 0 0) [] := World.ownsRow_nil _ _ _ _
theorem Rows4.lt {w : World} {v : Value} {L : List Rl} (h : Rows4 w v L) : ∀ q ∈ ownB v, q < w.heap.size := fun q hq => (World.ownsRow.lt h q (by unfold ownB at hq; simpa using hq)).2
theorem Rows4.keep {S : List Nat} {w w' : World} {v : Value} {L : List Rl} (h : Rows4 w v L) (k : Only S w w') (hn : ∀ q ∈ ownB v, q ∉ S) : Rows4 w' v L := by
  have hlt := h.lt
  refine ⟨h.1, ?_⟩
  rcases h.2 with h2 | ⟨g, cap, cur, rfl, hb, hg, h3⟩
  · exact Or.inl h2
  · rw [ownB_some] at hn hlt
    exact Or.inr ⟨g, cap, cur, rfl, hb, by rw [k.2.2.2.2 g (hlt g (by simp)) (hn g (by simp))]; exact hg, h3⟩
theorem Rows4.low {w w' : World} {v : Value} {L : List Rl} (h : Rows4 w v L) (k : Below w.heap.size w w') : Rows4 w' v L := h.keep (S := []) (Only.of_below k) (by simp)
theorem Rows4.form {w : World} {v : Value} {L : List Rl} (h : Rows4 w v L) : (v = .slice none 0 0 ∧ L = []) ∨ ∃ q cap, v = .slice (some ⟨q, 0, none⟩) L.length cap ∧ L.length ≤ cap ∧ cap ≤ maxLen := by
  rcases h.2 with ⟨h1, h2⟩ | ⟨g, cap, cur, h1, -, -, h2, h3, -⟩
  · exact Or.inl ⟨h1, List.length_eq_zero_iff.1 h2⟩
  · exact Or.inr ⟨g, cap, h1, h2, h3⟩
theorem Rows4.slice {w : World} {v : Value} {L : List Rl} (h : Rows4 w v L) : ∃ a c, v = .slice a L.length c := by
  rcases h.form with ⟨h1, rfl⟩ | ⟨q, c, h1, -⟩
  · exact ⟨none, 0, h1⟩
  · exact ⟨_, _, h1⟩
theorem Rows4.get {w : World} {v : Value} {L : List Rl} (h : Rows4 w v L) {i : Nat} {x : Rl} (hi : L[i]? = some x) : ∃ q cap, v = .slice (some ⟨q, 0, none⟩) L.length cap ∧ w.cell? ⟨q, i * 4, none⟩ = some (.string (nmB x.1)) ∧ w.cell? ⟨q, i * 4 + 1, none⟩ = some (.string x.2.s) ∧
    w.cell? ⟨q, i * 4 + 2, none⟩ = some (.int .i64 x.2.p) ∧ w.cell? ⟨q, i * 4 + 3, none⟩ = some (.bool x.2.k) ∧ ∀ j, w.frozen? ⟨q, j, none⟩ = false := by
  rcases h.form with ⟨-, rfl⟩ | ⟨q, cap, rfl, -⟩
  · simp at hi
  · have hl := (List.getElem?_eq_some_iff.1 hi).1
    have e : ∀ j, j < 4 → w.cell? ⟨q, i * 4 + j, none⟩ = (rollC x)[j]? := fun j hj => by
      rw [World.ownsRow.cellAt h (i * 4 + j) (by omega), rollsC_get hi j hj]
    exact ⟨q, cap, rfl, e 0 (by omega), e 1 (by omega), e 2 (by omega), e 3 (by omega), fun j => World.ownsRow.frozenAt h j⟩
theorem Rows4.put {w : World} {q cap : Nat} {L : List Rl} (h : Rows4 w (.slice (some ⟨q, 0, none⟩) L.length cap) L) {i : Nat} {x y : Rl} (hi : L[i]? = some x) {j : Nat} (hj : j < 4) {u : Value} (e : rollC y = (rollC x).set j u) :
    Rows4 (w.setCell ⟨q, i * 4 + j, none⟩ u) (.slice (some ⟨q, 0, none⟩) L.length cap) (L.set i y) := by
  have h1 := (World.ownsRow.stored h (i * 4 + j) u).1
  unfold Rows4
  rw [List.length_set, rollsC_set hi hj e]
  exact h1
/-- Where rolls to be appended stand. -/
def SrcRow (w : World) (ad : Option Addr) (M : List Rl) : Prop := (ad = none ∧ M = []) ∨ ∃ A, ad = some A ∧ ∀ j u, (rollsC M)[j]? = some u → w.cell? (A.add j) = some u
theorem SrcRow.keep {S : List Nat} {w w' : World} {ad : Option Addr} {M : List Rl} (h : SrcRow w ad M) (k : Only S w w') (hn : ∀ A, ad = some A → A.block ∉ S) : SrcRow w' ad M := by
  rcases h with h | ⟨A, rfl, hc⟩
  · exact Or.inl h
  · refine Or.inr ⟨A, rfl, fun j u hu => ?_⟩
    have h1 := hc j u hu
    exact k.cellK (by have := hn A rfl; unfold Addr.add; split <;> exact this) h1
theorem run_rows {w : World} {v : Value} {L M : List Rl} (h : Rows4 w v L) {ad : Option Addr} {m c : Nat} (hm : M.length = m) (hsrc : SrcRow w ad M) (hl : L.length + m < 1000000) (ty : TypeId) :
    ∃ v' w', (Builtin.append_ #[85, 85] ty #[v, .slice ad m c]).run Tryz.prog w = .ok v' w' ∧ Rows4 w' v' (L ++ M) ∧ Only (ownB v) w w' ∧ (∀ q ∈ ownB v', q ∈ ownB v ∨ w.heap.size ≤ q) := by
  subst hm
  obtain ⟨i, z, hi, hz, hzs, hsz, hby⟩ := infoRoll'
  rcases hsrc with ⟨rfl, rfl⟩ | ⟨A, rfl, hc⟩
  · obtain ⟨a, cc, rfl⟩ := h.slice
    refine ⟨.slice a L.length cc, w, ?_, by rw [List.append_nil]; exact h, Only.refl _ _, fun q hq => Or.inl hq⟩
    exact run_append_nothing w _ _ ty _ i Tryz.underlying85 hi a L.length cc (by rcases h.form with ⟨e, rfl⟩ | ⟨_, _, e, h1, h2⟩ <;> simp only [Value.slice.injEq] at e <;> (obtain ⟨-, -, rfl⟩ := e; first | exact Nat.le_refl _ | omega)) _ (Src.ofNil w Tryz.underlying85 c)
  · obtain ⟨v', w', hr, hown, hg, -, hbk⟩ := run_append_own_at (P := Tryz.prog) w 0 85 ty 89 i z 4 48 Tryz.underlying85 hi hz hsz hby hzs (by decide) v L.length (rollsC L) h A M.length c (rollsC M) (rollsC_len M) hc rollsC_one (by unfold maxLen; omega) (by omega) (Nat.zero_le _)
    refine ⟨v', w', hr, ?_, ⟨hg.os, hg.tape, hg.output, hg.size, fun k hk hn => hg.block k hk (fun e => hn (by unfold ownB; rw [← e]; simp))⟩, fun q hq => ?_⟩
    · unfold Rows4
      rw [List.length_append, rollsC_append]; exact hown
    · unfold ownB at hq ⊢
      rcases hbk with e | e
      · rw [e] at hq; exact Or.inl hq
      · rw [e] at hq; simp at hq; exact Or.inr (by omega)
/-- An append at a step of a region that draws its order. -/
theorem step_rows {ops : Array Oper} {o : Oper} {a : Act} {w : World} {K : Act → World → Prop} {Q : Exit → Act → World → Prop} {E : Prop} (hg : o.guard = none) (s x : Operand)
    (ho : o.op = .call { callee := .builtin .append, args := #[s, x], argTypes := #[85, 85] }) (v : Value) (L : List Rl) (hs : a.eval s = v) (hL : Rows4 w v L) (ad : Option Addr) (m c : Nat) (M : List Rl) (hx : a.eval x = .slice ad m c) (hm : M.length = m) (hsrc : SrcRow w ad M) (hl : L.length + m < 1000000)
    (h : ∀ v' w', Rows4 w' v' (L ++ M) → Only (ownB v) w w' → (∀ q ∈ ownB v', q ∈ ownB v ∨ w.heap.size ≤ q) → K (a.put o.dst v') w') :
    if Region.wanted o (yielded ops a.tmps) = true then Oper.wp Tryz.prog o a w K Q else E := by
  rw [if_pos (by simp [Region.wanted, hg])]
  obtain ⟨v', w', hrun, r1, r2, r3⟩ := run_rows (c := c) hL hm hsrc hl o.type
  unfold Oper.wp execOp
  simp only [ho, resolve, invoke, builtin, Sem.run_bind, Sem.run_pure, Result.andThen_ok, List.map_toArray, List.map_cons, List.map_nil, hs, hx, hrun]
  exact h _ _ r1 r2 r3
/-- 'row[:k]'. -/
theorem run_head {w : World} {a : Option Addr} {c : Nat} {L : List Rl} (h : Rows4 w (.slice a L.length c) L) {k : Nat} (hk : k ≤ L.length) (w' : World) :
    (Instr.slice 85 (.slice a L.length c) none (some (.int .i64 (k : Int))) none).run Tryz.prog w' = .ok (.slice a k c) w' ∧ SrcRow w a (L.take k) := by
  obtain ⟨i, z, hi, hz, hzs, hsz, hby⟩ := infoRoll'
  have e1 : Tryz.prog.elem 85 = 89 := by kernel_rfl
  have e2 : (sizeOf (Tryz.prog.elem 85)).run Tryz.prog w' = .ok 4 w' := by rw [e1]; simp [sizeOf, typeInfo, hi, hsz]
  rcases h.form with ⟨e, rfl⟩ | ⟨q, cap, e, h1, h2⟩
  · simp only [Value.slice.injEq] at e
    obtain ⟨rfl, -, rfl⟩ := e
    obtain rfl : k = 0 := by simpa using hk
    refine ⟨?_, Or.inl ⟨rfl, rfl⟩⟩
    rw [run_slice_h w' _ _ _ _ Tryz.underlying85 _ _ (by omega) (by simp), e2]
    simp [Result.andThen, sliced]
  · simp only [Value.slice.injEq] at e
    obtain ⟨rfl, -, rfl⟩ := e
    refine ⟨?_, Or.inr ⟨_, rfl, fun j u hu => ?_⟩⟩
    · rw [run_slice_h w' _ _ _ _ Tryz.underlying85 _ _ (by omega) (by omega), e2]
      simp only [Result.andThen, sliced]
      simp [Addr.add]
    · have hj := (List.getElem?_eq_some_iff.1 hu).1
      rw [rollsC_len, List.length_take] at hj
      have e3 : rollsC L = rollsC (L.take k) ++ rollsC (L.drop k) := by rw [← rollsC_append, List.take_append_drop]
      have := World.ownsRow.cells h (g := q) rfl j u (by rw [e3, List.getElem?_append_left (by rw [rollsC_len, List.length_take]; omega)]; exact hu)
      exact this
/-- 'row[k:]'. -/
theorem run_tail {w : World} {a : Option Addr} {c : Nat} {L : List Rl} (h : Rows4 w (.slice a L.length c) L) {k : Nat} (hk : k ≤ L.length) : ∃ a' c', (∀ w', (Instr.slice 85 (.slice a L.length c) (some (.int .i64 (k : Int))) none none).run Tryz.prog w' = .ok (.slice a' (L.length - k) c') w') ∧ SrcRow w a' (L.drop k) ∧ (∀ A, a' = some A → A.block ∈ ownB (.slice a L.length c)) := by
  obtain ⟨i, z, hi, hz, hzs, hsz, hby⟩ := infoRoll'
  have e1 : Tryz.prog.elem 85 = 89 := by kernel_rfl
  have e2 : ∀ w', (sizeOf (Tryz.prog.elem 85)).run Tryz.prog w' = .ok 4 w' := fun w' => by rw [e1]; simp [sizeOf, typeInfo, hi, hsz]
  rcases h.form with ⟨e, rfl⟩ | ⟨q, cap, e, h1, h2⟩
  · simp only [Value.slice.injEq] at e
    obtain ⟨rfl, -, rfl⟩ := e
    obtain rfl : k = 0 := by simpa using hk
    refine ⟨none, 0, fun w' => ?_, Or.inl ⟨rfl, rfl⟩, by simp⟩
    rw [run_slice_l w' _ _ _ _ Tryz.underlying85 _ _ (by omega) (by simp), e2]
    simp [Result.andThen, sliced]
  · simp only [Value.slice.injEq] at e
    obtain ⟨rfl, -, rfl⟩ := e
    refine ⟨some ⟨q, if c = k then 0 else k * 4, none⟩, c - k, fun w' => ?_, Or.inr ⟨_, rfl, fun j u hu => ?_⟩, fun A hA => by cases hA; rw [ownB_some]; simp⟩
    · rw [run_slice_l w' _ _ _ _ Tryz.underlying85 _ _ (by omega) (by omega), e2]
      simp only [Result.andThen, sliced]
      by_cases hck : c = k
      · subst hck; simp
      · rw [if_neg hck]; simp [Addr.add, hck]; intro h0; omega
    · have hj := (List.getElem?_eq_some_iff.1 hu).1
      rw [rollsC_len, List.length_drop] at hj
      rw [if_neg (by omega)]
      have e3 : rollsC L = rollsC (L.take k) ++ rollsC (L.drop k) := by rw [← rollsC_append, List.take_append_drop]
      have hl : (rollsC (L.take k)).length = k * 4 := by rw [rollsC_len, List.length_take, Nat.min_eq_left hk]
      have := World.ownsRow.cells h (g := q) rfl (k * 4 + j) u (by rw [e3, List.getElem?_append_right (by omega), hl, Nat.add_sub_cancel_left]; exact hu)
      rw [addr_pl, Nat.zero_add] at this
      rw [addr_pl]; exact this
end Go.Proofs.YtjblbjamceloaaaGreatDoor

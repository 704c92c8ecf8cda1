/- Plain words on worlds and lists, of no program: what cells hold, what stays below a mark. -/
import Derived.WalkKit
import Derived.WalkSpells
import Derived.WalkLawsBesides
import Derived.Lib.Strings
import Derived.Lib.Slices
import Derived.Lib.Walk
import Derived.Lib.Hide
import Derived.Maps.AppendAt
namespace Go.Proofs.YthbbfdlacclccaaDoor
open Go.RowKit

/-- The k-th number of a list. -/
def nthI (zs : List Int) (k : Nat) : Int := zs.getD k 0

/-- What the cells behind a slice's address hold: these numbers. -/
def IntsAt (w : World) (a : Option Addr) (zs : List Int) : Prop :=
  zs = [] ∨ ∃ b off, a = some ⟨b, off, none⟩ ∧ b < w.heap.size ∧ ∀ j, j < zs.length → w.cell? ⟨b, off + j, none⟩ = some (.int .i64 (nthI zs j))

/-- What roster.at gives. -/
def atI (zs : List Int) (i : Int) : Int := if 0 ≤ i ∧ i < zs.length then nthI zs i.toNat else 0
theorem atI_out {zs : List Int} {i : Int} (h : i < 0 ∨ (zs.length : Int) ≤ i) : atI zs i = 0 := by
  unfold atI; rw [if_neg (by omega)]
theorem atI_in {zs : List Int} {k : Nat} (h : k < zs.length) : atI zs k = nthI zs k := by
  unfold atI; rw [if_pos (by omega)]; rfl

theorem cell_old {w : World} {a : Addr} {v : Value} (h : w.cell? a = some v) : a.block < w.heap.size := by
  unfold World.cell? at h
  by_cases hb : a.block < w.heap.size
  · exact hb
  · rw [Array.getElem?_eq_none (by omega)] at h
    simp at h

theorem cell_keep {w w' : World} {a : Addr} {v : Value} (hb : Below w.heap.size w w') (h : w.cell? a = some v) : w'.cell? a = some v := by
  rw [hb.cell (cell_old h)]; exact h
theorem Below.top {B : Nat} {w w' w'' : World} (h : Below B w w') (hb : Below w'.heap.size w' w'') (hB : B ≤ w.heap.size) : Below B w w'' := h.trans (hb.mono (Nat.le_trans hB h.size))

theorem IntsAt.below {w w' : World} {a : Option Addr} {zs : List Int} {B : Nat} (h : IntsAt w a zs) (hb : Below B w w') (hB : w.heap.size ≤ B) : IntsAt w' a zs := by
  rcases h with h | ⟨b, off, rfl, hs, hc⟩
  · exact Or.inl h
  · refine Or.inr ⟨b, off, rfl, Nat.lt_of_lt_of_le hs hb.size, fun j hj => ?_⟩
    rw [hb.cell (p := ⟨b, off + j, none⟩) (Nat.lt_of_lt_of_le hs hB)]
    exact hc j hj
theorem IntsAt.alloc {w : World} {a : Option Addr} {zs : List Int} (h : IntsAt w a zs) (o : Obj) : IntsAt (w.alloc o) a zs :=
  h.below ((Below.refl _ _).alloc (Nat.le_refl _) _) (Nat.le_refl _)
theorem IntsAt.drew {w : World} {a : Option Addr} {zs : List Int} (h : IntsAt w a zs) : IntsAt w.drew a zs :=
  h.below ((Below.refl _ _).drew) (Nat.le_refl _)

/-- What the cells behind a slice's address hold, of whatever element type. -/
def RowAt (w : World) (a : Option Addr) (cs : List Value) : Prop :=
  cs = [] ∨ ∃ b off, a = some ⟨b, off, none⟩ ∧ b < w.heap.size ∧ ∀ j u, cs[j]? = some u → w.cell? ⟨b, off + j, none⟩ = some u
theorem RowAt.below {w w' : World} {a : Option Addr} {cs : List Value} {B : Nat} (h : RowAt w a cs) (hb : Below B w w') (hB : w.heap.size ≤ B) : RowAt w' a cs := by
  rcases h with h | ⟨b, off, rfl, hs, hc⟩
  · exact Or.inl h
  · refine Or.inr ⟨b, off, rfl, Nat.lt_of_lt_of_le hs hb.size, fun j u hj => ?_⟩
    rw [hb.cell (p := ⟨b, off + j, none⟩) (Nat.lt_of_lt_of_le hs hB)]
    exact hc j u hj
theorem RowAt.alloc {w : World} {a : Option Addr} {cs : List Value} (h : RowAt w a cs) (o : Obj) : RowAt (w.alloc o) a cs :=
  h.below ((Below.refl _ _).alloc (Nat.le_refl _) _) (Nat.le_refl _)
theorem RowAt.drew {w : World} {a : Option Addr} {cs : List Value} (h : RowAt w a cs) : RowAt w.drew a cs :=
  h.below ((Below.refl _ _).drew) (Nat.le_refl _)
theorem map_getElem?_int (zs : List Int) (j : Nat) (h : j < zs.length) : (zs.map (Value.int .i64))[j]? = some (.int .i64 (nthI zs j)) := by
  unfold nthI; simp [h]
theorem RowAt.ints {w : World} {a : Option Addr} {zs : List Int} (h : RowAt w a (zs.map (.int .i64))) : IntsAt w a zs := by
  rcases h with h | ⟨b, off, rfl, hs, hc⟩
  · exact Or.inl (by simpa using h)
  · exact Or.inr ⟨b, off, rfl, hs, fun j hj => hc j _ (map_getElem?_int zs j hj)⟩
theorem IntsAt.row {w : World} {a : Option Addr} {zs : List Int} (h : IntsAt w a zs) : RowAt w a (zs.map (.int .i64)) := by
  rcases h with h | ⟨b, off, rfl, hs, hc⟩
  · exact Or.inl (by simpa using h)
  · refine Or.inr ⟨b, off, rfl, hs, fun j u hu => ?_⟩
    have hj : j < zs.length := by
      have := (List.getElem?_eq_some_iff.1 hu).1
      simpa using this
    rw [map_getElem?_int zs j hj] at hu
    rw [hc j hj]; exact hu

/-- The closed facts of a slice type. -/
structure ElemTy (P : Program) (t e : TypeId) (z : Value) (size bytes : Nat) : Prop where
  ht : P.underlying t = some (.slice e)
  hi : ∃ i, P.info? e = some i ∧ i.zero = some z ∧ i.size = size ∧ i.bytes = bytes
  hzs : z.cells.size = size
  pos : 0 < size

theorem run_append_zero {P : Program} (w : World) (base : Nat) (t ty e : TypeId) (i : TypeInfo) (size : Nat) (ht : P.underlying t = some (.slice e)) (hi : P.info? e = some i)
    (v : Value) (n : Nat) (xs : List Value) (hown : w.ownsRow base e size v n xs) (ad : Option Addr) (c : Nat) :
    (Builtin.append_ #[t, t] ty #[v, .slice ad 0 c]).run P w = .ok v w := by
  rcases hown.2 with ⟨rfl, rfl⟩ | ⟨g, cap, cur, rfl, _, _, hnc, _⟩ <;> cases ad
  · simp [Builtin.append_, run_underlying ht, sizeOf, typeInfo, hi, Builtin.lenOf, Builtin.firstCells]
  · simp [Builtin.append_, run_underlying ht, sizeOf, typeInfo, hi, Builtin.lenOf, Builtin.firstCells, loadCells, loadCellsFrom]
  · simp [Builtin.append_, run_underlying ht, sizeOf, typeInfo, hi, Builtin.lenOf, Builtin.firstCells, hnc, storeCells]
  · simp [Builtin.append_, run_underlying ht, sizeOf, typeInfo, hi, Builtin.lenOf, Builtin.firstCells, hnc, storeCells, loadCells, loadCellsFrom]

theorem below_of_grown {w w' : World} {base : Nat} {e : TypeId} {size : Nat} {v : Value} {n : Nat} {xs : List Value} (hown : w.ownsRow base e size v n xs) (hbase : base ≤ w.heap.size) (hg : w.grownBy w' v.ownBlock) : Below base w w' :=
  (Below.refl base w).grown hg hbase (fun k hk => (hown.lt k hk).1)

/-- append to a row of the call's own, from whatever source. -/
theorem run_append_any {P : Program} (w : World) (base : Nat) (t ty e : TypeId) (z : Value) (size bytes : Nat) (T : ElemTy P t e z size bytes)
    (v : Value) (n : Nat) (xs : List Value) (hown : w.ownsRow base e size v n xs)
    (ad : Option Addr) (m c : Nat) (news : List Value) (hl : news.length = m * size) (hnews : RowAt w ad news) (h1 : ∀ u ∈ news, u.oneCell' = true)
    (h63 : n + m ≤ maxLen) (hbytes : (n + m) * bytes ≤ 140737488355328) (hbase : base ≤ w.heap.size) :
    ∃ v' w', (Builtin.append_ #[t, t] ty #[v, .slice ad m c]).run P w = .ok v' w' ∧ w'.ownsRow base e size v' (n + m) (xs ++ news) ∧ Below base w w' := by
  obtain ⟨i, hi, hz, hs, hb⟩ := T.hi
  have hp := T.pos
  rcases hnews with rfl | ⟨b, off, rfl, _, hc⟩
  · have hm : m = 0 := by
      rcases Nat.mul_eq_zero.1 hl.symm with h | h
      · exact h
      · omega
    subst hm
    refine ⟨v, w, run_append_zero w base t ty e i size T.ht hi v n xs hown ad c, ?_, Below.refl _ _⟩
    simpa using hown
  · have hadd : ∀ j, (⟨b, off, none⟩ : Addr).add j = ⟨b, off + j, none⟩ := fun j => by unfold Addr.add; split <;> simp_all
    obtain ⟨v', w', hr, h2, h3, _⟩ := run_append_own (P := P) w base t ty e i z size bytes T.ht hi hz hs hb T.hzs hp v n xs hown ⟨b, off, none⟩ m c news hl (fun j u hu => by rw [hadd]; exact hc j u hu) h1 h63 hbytes hbase
    exact ⟨v', w', hr, h2, below_of_grown hown hbase h3⟩

theorem wp_append_any {P : Program} {w : World} {o : Oper} {a : Act} {K : Act → World → Prop} {Q : Exit → Act → World → Prop} (s x : Operand) (t : TypeId)
    (ho : o.op = .call { callee := .builtin .append, args := #[s, x], argTypes := #[t, t] })
    (base : Nat) (e : TypeId) (z : Value) (size bytes : Nat) (T : ElemTy P t e z size bytes)
    (v : Value) (n : Nat) (xs : List Value) (hs : a.eval s = v) (hown : w.ownsRow base e size v n xs)
    (ad : Option Addr) (m c : Nat) (news : List Value) (hx : a.eval x = .slice ad m c) (hl : news.length = m * size) (hnews : RowAt w ad news) (h1 : ∀ u ∈ news, u.oneCell' = true)
    (h63 : n + m ≤ maxLen) (hbytes : (n + m) * bytes ≤ 140737488355328) (hbase : base ≤ w.heap.size)
    (h : ∀ v' w', w'.ownsRow base e size v' (n + m) (xs ++ news) → Below base w w' → K (a.put o.dst v') w') : o.wp P a w K Q := by
  obtain ⟨v', w', hr, h2, h3⟩ := run_append_any (P := P) w base t o.type e z size bytes T v n xs hown ad m c news hl hnews h1 h63 hbytes hbase
  unfold Oper.wp execOp
  simp only [ho, resolve, invoke, builtin, Sem.run_bind, Sem.run_pure, Result.andThen_ok, List.map_toArray, List.map_cons, List.map_nil, hs, hx, hr]
  exact h v' w' h2 h3

/-- At the list of a plain region's operations. -/
theorem wpList_append_any {P : Program} {w : World} {ops : Array Oper} {rest : List Oper} {o : Oper} {a : Act} {Q : Exit → Act → World → Prop} (hgd : o.guard = none) (s x : Operand) (t : TypeId)
    (ho : o.op = .call { callee := .builtin .append, args := #[s, x], argTypes := #[t, t] })
    (base : Nat) (e : TypeId) (z : Value) (size bytes : Nat) (T : ElemTy P t e z size bytes)
    (v : Value) (n : Nat) (xs : List Value) (hs : a.eval s = v) (hown : w.ownsRow base e size v n xs)
    (ad : Option Addr) (m c : Nat) (news : List Value) (hx : a.eval x = .slice ad m c) (hl : news.length = m * size) (hnews : RowAt w ad news) (h1 : ∀ u ∈ news, u.oneCell' = true)
    (h63 : n + m ≤ maxLen) (hbytes : (n + m) * bytes ≤ 140737488355328) (hbase : base ≤ w.heap.size)
    (h : ∀ v' w', w'.ownsRow base e size v' (n + m) (xs ++ news) → Below base w w' → wpList P ops Q rest (a.put o.dst v') w') : wpList P ops Q (o :: rest) a w :=
  wpList_plain hgd fun _ hK => wp_append_any s x t ho base e z size bytes T v n xs hs hown ad m c news hx hl hnews h1 h63 hbytes hbase fun v' w' h2 h3 => hK _ _ (h v' w' h2 h3)

/-- At a step of a region that draws its order. -/
theorem step_append_any {P : Program} {w : World} {ops : Array Oper} {o : Oper} {a : Act} {K : Act → World → Prop} {Q : Exit → Act → World → Prop} {E : Prop} (hgd : o.guard = none) (s x : Operand) (t : TypeId)
    (ho : o.op = .call { callee := .builtin .append, args := #[s, x], argTypes := #[t, t] })
    (base : Nat) (e : TypeId) (z : Value) (size bytes : Nat) (T : ElemTy P t e z size bytes)
    (v : Value) (n : Nat) (xs : List Value) (hs : a.eval s = v) (hown : w.ownsRow base e size v n xs)
    (ad : Option Addr) (m c : Nat) (news : List Value) (hx : a.eval x = .slice ad m c) (hl : news.length = m * size) (hnews : RowAt w ad news) (h1 : ∀ u ∈ news, u.oneCell' = true)
    (h63 : n + m ≤ maxLen) (hbytes : (n + m) * bytes ≤ 140737488355328) (hbase : base ≤ w.heap.size)
    (h : ∀ v' w', w'.ownsRow base e size v' (n + m) (xs ++ news) → Below base w w' → K (a.put o.dst v') w') :
    if Region.wanted o (yielded ops a.tmps) = true then Oper.wp P o a w K Q else E := by
  have hw : Region.wanted o (yielded ops a.tmps) = true := by simp [Region.wanted, hgd]
  rw [if_pos hw]
  exact wp_append_any s x t ho base e z size bytes T v n xs hs hown ad m c news hx hl hnews h1 h63 hbytes hbase h

/-- A block that is none of a slice value's own. (A plain name: the walk does not look into it.) -/
def Far (v : Value) (k : Nat) : Prop := some k ≠ v.ownBlock
/-- What an append leaves, said cell by cell. -/
def Grew (base : Nat) (W W' : World) (v v' : Value) : Prop :=
  Below base W W' ∧ (∀ b o, b < W.heap.size → Far v b → W'.cell? ⟨b, o, none⟩ = W.cell? ⟨b, o, none⟩) ∧ (∀ b o, b < W.heap.size → Far v b → W'.frozen? ⟨b, o, none⟩ = W.frozen? ⟨b, o, none⟩) ∧
  (∀ k, k < W.heap.size → Far v k → Far v' k) ∧ (∀ k, W'.heap.size ≤ k → Far v' k) ∧ (∀ k, k < base → Far v' k) ∧ (∀ k, k < W.heap.size → k < W'.heap.size)
theorem far_own {w : World} {base : Nat} {e : TypeId} {size : Nat} {v : Value} {n : Nat} {xs : List Value} (h : w.ownsRow base e size v n xs) : (∀ k, w.heap.size ≤ k → Far v k) ∧ (∀ k, k < base → Far v k) :=
  ⟨fun k hk e => by have := (h.lt k e.symm).2; omega, fun k hk e => by have := (h.lt k e.symm).1; omega⟩
theorem grew_refl {w : World} {base : Nat} {e : TypeId} {size : Nat} {v : Value} {n : Nat} {xs : List Value} (h : w.ownsRow base e size v n xs) : Grew base w w v v :=
  ⟨Below.refl _ _, fun _ _ _ _ => rfl, fun _ _ _ _ => rfl, fun _ _ h => h, (far_own h).1, (far_own h).2, fun _ h => h⟩

theorem run_append_far {P : Program} (w : World) (base : Nat) (t ty e : TypeId) (z : Value) (size bytes : Nat) (T : ElemTy P t e z size bytes)
    (v : Value) (n : Nat) (xs : List Value) (hown : w.ownsRow base e size v n xs)
    (ad : Option Addr) (m c : Nat) (news : List Value) (hl : news.length = m * size) (hnews : RowAt w ad news) (h1 : ∀ u ∈ news, u.oneCell' = true)
    (h63 : n + m ≤ maxLen) (hbytes : (n + m) * bytes ≤ 140737488355328) (hbase : base ≤ w.heap.size) :
    ∃ v' w', (Builtin.append_ #[t, t] ty #[v, .slice ad m c]).run P w = .ok v' w' ∧ w'.ownsRow base e size v' (n + m) (xs ++ news) ∧ Grew base w w' v v' := by
  obtain ⟨i, hi, hz, hs, hb⟩ := T.hi
  have hp := T.pos
  rcases hnews with rfl | ⟨b, off, rfl, _, hc⟩
  · have hm : m = 0 := by
      rcases Nat.mul_eq_zero.1 hl.symm with h | h
      · exact h
      · omega
    subst hm
    refine ⟨v, w, run_append_zero w base t ty e i size T.ht hi v n xs hown ad c, ?_, grew_refl hown⟩
    simpa using hown
  · have hadd : ∀ j, (⟨b, off, none⟩ : Addr).add j = ⟨b, off + j, none⟩ := fun j => by unfold Addr.add; split <;> simp_all
    obtain ⟨v', w', hr, h2, h3, _, h5⟩ := run_append_own_at (P := P) w base t ty e i z size bytes T.ht hi hz hs hb T.hzs hp v n xs hown ⟨b, off, none⟩ m c news hl (fun j u hu => by rw [hadd]; exact hc j u hu) h1 h63 hbytes hbase
    refine ⟨v', w', hr, h2, below_of_grown hown hbase h3, fun b o hb hf => World.cell?_of_block (h3.block b hb hf), fun b o hb hf => World.frozen?_of_block (h3.block b hb hf), fun k hk hf => ?_, (far_own h2).1, (far_own h2).2, fun k hk => Nat.lt_of_lt_of_le hk h3.size⟩
    rcases h5 with h5 | h5
    · intro e; rw [h5] at e; exact hf e
    · intro e; rw [h5] at e; simp at e; omega

theorem wp_append_far {P : Program} {w : World} {o : Oper} {a : Act} {K : Act → World → Prop} {Q : Exit → Act → World → Prop} (s x : Operand) (t : TypeId)
    (ho : o.op = .call { callee := .builtin .append, args := #[s, x], argTypes := #[t, t] })
    (base : Nat) (e : TypeId) (z : Value) (size bytes : Nat) (T : ElemTy P t e z size bytes)
    (v : Value) (n : Nat) (xs : List Value) (hs : a.eval s = v) (hown : w.ownsRow base e size v n xs)
    (ad : Option Addr) (m c : Nat) (news : List Value) (hx : a.eval x = .slice ad m c) (hl : news.length = m * size) (hnews : RowAt w ad news) (h1 : ∀ u ∈ news, u.oneCell' = true)
    (h63 : n + m ≤ maxLen) (hbytes : (n + m) * bytes ≤ 140737488355328) (hbase : base ≤ w.heap.size)
    (h : ∀ v' w', w'.ownsRow base e size v' (n + m) (xs ++ news) → Grew base w w' v v' → K (a.put o.dst v') w') : o.wp P a w K Q := by
  obtain ⟨v', w', hr, h2, h3⟩ := run_append_far (P := P) w base t o.type e z size bytes T v n xs hown ad m c news hl hnews h1 h63 hbytes hbase
  unfold Oper.wp execOp
  simp only [ho, resolve, invoke, builtin, Sem.run_bind, Sem.run_pure, Result.andThen_ok, List.map_toArray, List.map_cons, List.map_nil, hs, hx, hr]
  exact h v' w' h2 h3

/-- At a step of a region that draws its order, what stands elsewhere told cell by cell. -/
theorem step_append_far {P : Program} {w : World} {ops : Array Oper} {o : Oper} {a : Act} {K : Act → World → Prop} {Q : Exit → Act → World → Prop} {E : Prop} (hgd : o.guard = none) (s x : Operand) (t : TypeId)
    (ho : o.op = .call { callee := .builtin .append, args := #[s, x], argTypes := #[t, t] })
    (base : Nat) (e : TypeId) (z : Value) (size bytes : Nat) (T : ElemTy P t e z size bytes)
    (v : Value) (n : Nat) (xs : List Value) (hs : a.eval s = v) (hown : w.ownsRow base e size v n xs)
    (ad : Option Addr) (m c : Nat) (news : List Value) (hx : a.eval x = .slice ad m c) (hl : news.length = m * size) (hnews : RowAt w ad news) (h1 : ∀ u ∈ news, u.oneCell' = true)
    (h63 : n + m ≤ maxLen) (hbytes : (n + m) * bytes ≤ 140737488355328) (hbase : base ≤ w.heap.size)
    (h : ∀ v' w', w'.ownsRow base e size v' (n + m) (xs ++ news) → Grew base w w' v v' → K (a.put o.dst v') w') :
    if Region.wanted o (yielded ops a.tmps) = true then Oper.wp P o a w K Q else E := by
  have hw : Region.wanted o (yielded ops a.tmps) = true := by simp [Region.wanted, hgd]
  rw [if_pos hw]
  exact wp_append_far s x t ho base e z size bytes T v n xs hs hown ad m c news hx hl hnews h1 h63 hbytes hbase h
/-- At the list of a plain region's operations. -/
theorem wpList_append_far {P : Program} {w : World} {ops : Array Oper} {rest : List Oper} {o : Oper} {a : Act} {Q : Exit → Act → World → Prop} (hgd : o.guard = none) (s x : Operand) (t : TypeId)
    (ho : o.op = .call { callee := .builtin .append, args := #[s, x], argTypes := #[t, t] })
    (base : Nat) (e : TypeId) (z : Value) (size bytes : Nat) (T : ElemTy P t e z size bytes)
    (v : Value) (n : Nat) (xs : List Value) (hs : a.eval s = v) (hown : w.ownsRow base e size v n xs)
    (ad : Option Addr) (m c : Nat) (news : List Value) (hx : a.eval x = .slice ad m c) (hl : news.length = m * size) (hnews : RowAt w ad news) (h1 : ∀ u ∈ news, u.oneCell' = true)
    (h63 : n + m ≤ maxLen) (hbytes : (n + m) * bytes ≤ 140737488355328) (hbase : base ≤ w.heap.size)
    (h : ∀ v' w', w'.ownsRow base e size v' (n + m) (xs ++ news) → Grew base w w' v v' → wpList P ops Q rest (a.put o.dst v') w') : wpList P ops Q (o :: rest) a w :=
  wpList_plain hgd fun _ hK => wp_append_far s x t ho base e z size bytes T v n xs hs hown ad m c news hx hl hnews h1 h63 hbytes hbase fun v' w' h2 h3 => hK _ _ (h v' w' h2 h3)

/-- An owned row below whose base all stays is a row that reads. -/
theorem ownsRow_row {w : World} {base : Nat} {e : TypeId} {size : Nat} {v : Value} {n : Nat} {xs : List Value} (h : w.ownsRow base e size v n xs) : ∃ a c, v = .slice a n c ∧ RowAt w a xs := by
  obtain ⟨hl, h2⟩ := h
  rcases h2 with ⟨rfl, rfl⟩ | ⟨g, cap, cur, rfl, hb, hg, hn, hm, hs, ht⟩
  · exact ⟨none, 0, rfl, Or.inl (List.eq_nil_of_length_eq_zero (by simpa using hl))⟩
  · refine ⟨_, cap, rfl, Or.inr ⟨g, 0, rfl, (Array.getElem?_eq_some_iff.1 hg).1, fun j u hu => ?_⟩⟩
    rw [Nat.zero_add, cell_of_row w g j cur e (0, 0) hg]
    rw [← ht, List.getElem?_take] at hu
    split at hu
    · simpa using hu
    · cases hu
/-- An owned row stays owned while nothing below the present size is written. -/
theorem ownsRow_below {w w' : World} {base : Nat} {e : TypeId} {size : Nat} {v : Value} {n : Nat} {xs : List Value} (h : w.ownsRow base e size v n xs) (hb : Below w.heap.size w w') : w'.ownsRow base e size v n xs := by
  obtain ⟨hl, h2⟩ := h
  refine ⟨hl, ?_⟩
  rcases h2 with h2 | ⟨g, cap, cur, rfl, hb1, hg, r⟩
  · exact Or.inl h2
  · exact Or.inr ⟨g, cap, cur, rfl, hb1, by rw [hb.block g (Array.getElem?_eq_some_iff.1 hg).1]; exact hg, r⟩
theorem ownsRow_base {w : World} {base base' : Nat} {e : TypeId} {size : Nat} {v : Value} {n : Nat} {xs : List Value} (h : w.ownsRow base e size v n xs) (hb : base' ≤ base) : w.ownsRow base' e size v n xs := by
  obtain ⟨hl, h2⟩ := h
  refine ⟨hl, ?_⟩
  rcases h2 with h2 | ⟨g, cap, cur, rfl, hb1, r⟩
  · exact Or.inl h2
  · exact Or.inr ⟨g, cap, cur, rfl, Nat.le_trans hb hb1, r⟩

/-- What stands in a block behind a row of stores. -/
theorem setCells_row (g : Nat) (e : TypeId) : ∀ (vs : List Value) (o : Nat) (w : World) (cur : Array Value), w.heap[g]? = some (.cells cur e (0, 0)) → o + vs.length ≤ cur.size →
    ∃ cur', (w.setCells g o vs).heap[g]? = some (.cells cur' e (0, 0)) ∧ cur'.size = cur.size ∧ (∀ j, j < vs.length → cur'[o + j]? = vs[j]?) ∧ (∀ j, j < o → cur'[j]? = cur[j]?) ∧ Below g w (w.setCells g o vs)
  | [], o, w, cur, h, _ => ⟨cur, h, rfl, fun j hj => absurd hj (Nat.not_lt_zero _), fun _ _ => rfl, Below.refl _ _⟩
  | v :: r, o, w, cur, h, hs => by
    have hs : o + (r.length + 1) ≤ cur.size := hs
    obtain ⟨cur', h1, h2, h3, h4, h5⟩ := setCells_row g e r (o + 1) (w.setCell ⟨g, o, none⟩ v) (cur.setIfInBounds o v) (heap_setCell_same w g o cur e v h) (by simp; omega)
    refine ⟨cur', h1, by rw [h2]; simp, fun j hj => ?_, fun j hj => ?_, ((Below.refl g w).setCell (p := ⟨g, o, none⟩) (Nat.le_refl _) v).trans h5⟩
    · cases j with
      | zero =>
        rw [h4 (o + 0) (by omega)]
        have : o < cur.size := by omega
        simp [this]
      | succ j =>
        have := h3 j (by simp only [List.length_cons] at hj; omega)
        rw [show o + (j + 1) = o + 1 + j from by omega, this]
        simp
    · rw [h4 j (by omega), Array.getElem?_setIfInBounds_ne (by omega)]

theorem below_drews {B : Nat} {a w : World} (h : Below B a w) (n : Nat) : Below B a (w.drewN n) := h.trans ⟨rfl, rfl, rfl, Nat.le_refl _, fun _ _ => rfl⟩

/-- What a 'Below' says of all old cells and marks, for the walk. -/
theorem bcell {W w1 : World} (hb : Below W.heap.size W w1) : (∀ b o, b < W.heap.size → w1.cell? ⟨b, o, none⟩ = W.cell? ⟨b, o, none⟩) ∧ (∀ b o, b < W.heap.size → w1.frozen? ⟨b, o, none⟩ = W.frozen? ⟨b, o, none⟩) :=
  ⟨fun b o h => hb.cell (p := ⟨b, o, none⟩) h, fun b o h => hb.frozen (p := ⟨b, o, none⟩) h⟩

theorem below_set3 {B b : Nat} {a w : World} (h : Below B a w) (hb : B ≤ b) (i j k : Nat) (u v x : Value) : Below B a (((w.setCell ⟨b, i, none⟩ u).setCell ⟨b, j, none⟩ v).setCell ⟨b, k, none⟩ x) :=
  ((h.setCell (p := ⟨b, i, none⟩) hb u).setCell (p := ⟨b, j, none⟩) hb v).setCell (p := ⟨b, k, none⟩) hb x
theorem below_alloc {a w : World} (h : Below a.heap.size a w) (o : Obj) : Below a.heap.size a (w.alloc o) := h.alloc h.size o
theorem below_on {a w w' : World} (h : Below a.heap.size a w) (hb : Below w.heap.size w w') : Below a.heap.size a w' := h.trans (hb.mono h.size)
/-- What a cell holds (a plain name, so that the walk does not look into it). -/
def cellD (w : World) (a : Addr) : Value := (w.cell? a).getD undef
theorem has_of {w : World} {a : Addr} {v : Value} (h : w.cell? a = some v) : w.cell? a = some (cellD w a) := by
  unfold cellD; rw [h]; rfl
theorem has_keep {w w' : World} {a : Addr} (hb : Below w.heap.size w w') (h : w.cell? a = some (cellD w a)) : w'.cell? a = some (cellD w' a) := has_of (cell_keep hb h)
theorem has_set {w : World} {a b : Addr} {u v : Value} (h : w.cell? a = some u) : (w.setCell b v).cell? a = some (cellD (w.setCell b v) a) := by
  by_cases e : b = a
  · subst e; exact has_of (World.cell?_setCell_same _ _ _ h)
  · exact has_of ((World.cell?_setCell_other _ _ _ _ e).trans h)
theorem frozen_keep {w w' : World} {a : Addr} {v : Value} (hb : Below w.heap.size w w') (hv : w.cell? a = some v) (h : w.frozen? a = false) : w'.frozen? a = false := by
  rw [hb.frozen (cell_old hv)]; exact h
/-- A box of three cells that is read, a place of three cells behind it that is written; all below is as it was. -/
def RosS (w : World) (v0 v1 v2 : Value) (w' : World) : Prop :=
  w'.cell? ⟨w.heap.size, 0, none⟩ = some v0 ∧ w'.cell? ⟨w.heap.size, 1, none⟩ = some v1 ∧ w'.cell? ⟨w.heap.size, 2, none⟩ = some v2 ∧
  w'.cell? ⟨w.heap.size + 1, 0, none⟩ = some (cellD w' ⟨w.heap.size + 1, 0, none⟩) ∧ w'.cell? ⟨w.heap.size + 1, 1, none⟩ = some (cellD w' ⟨w.heap.size + 1, 1, none⟩) ∧ w'.cell? ⟨w.heap.size + 1, 2, none⟩ = some (cellD w' ⟨w.heap.size + 1, 2, none⟩) ∧
  w'.frozen? ⟨w.heap.size + 1, 0, none⟩ = false ∧ w'.frozen? ⟨w.heap.size + 1, 1, none⟩ = false ∧ w'.frozen? ⟨w.heap.size + 1, 2, none⟩ = false ∧ Below w.heap.size w w'
theorem RosS.keep {w w1 w2 : World} {v0 v1 v2 : Value} (h : RosS w v0 v1 v2 w1) (hb : Below w1.heap.size w1 w2) : RosS w v0 v1 v2 w2 := by
  obtain ⟨a, b, c, d, e, f, i, j, k, l⟩ := h
  exact ⟨cell_keep hb a, cell_keep hb b, cell_keep hb c, has_keep hb d, has_keep hb e, has_keep hb f, frozen_keep hb d i, frozen_keep hb e j, frozen_keep hb f k, below_on l hb⟩
theorem RosS.keepB {w w1 w2 : World} {v0 v1 v2 : Value} (h : RosS w v0 v1 v2 w1) (hb : Below (w.heap.size + 2) w1 w2) : RosS w v0 v1 v2 w2 := by
  obtain ⟨a, b, c, d, e, f, i, j, k, l⟩ := h
  have hc : ∀ g o, g < w.heap.size + 2 → w2.cell? ⟨g, o, none⟩ = w1.cell? ⟨g, o, none⟩ := fun g o hg => hb.cell (p := ⟨g, o, none⟩) hg
  have hf : ∀ g o, g < w.heap.size + 2 → w2.frozen? ⟨g, o, none⟩ = w1.frozen? ⟨g, o, none⟩ := fun g o hg => hb.frozen (p := ⟨g, o, none⟩) hg
  exact ⟨(hc _ _ (by omega)).trans a, (hc _ _ (by omega)).trans b, (hc _ _ (by omega)).trans c, has_of ((hc _ _ (by omega)).trans d), has_of ((hc _ _ (by omega)).trans e), has_of ((hc _ _ (by omega)).trans f),
    (hf _ _ (by omega)).trans i, (hf _ _ (by omega)).trans j, (hf _ _ (by omega)).trans k, l.trans (hb.mono (by omega))⟩
theorem RosS.size {w w1 : World} {v0 v1 v2 : Value} (h : RosS w v0 v1 v2 w1) : w.heap.size + 2 ≤ w1.heap.size := cell_old h.2.2.2.1
theorem RosS.low {w w1 : World} {v0 v1 v2 : Value} (h : RosS w v0 v1 v2 w1) : Below w.heap.size w w1 := h.2.2.2.2.2.2.2.2.2
theorem RosS.set {w w1 : World} {v0 v1 v2 : Value} (h : RosS w v0 v1 v2 w1) (i : Nat) (v : Value) : RosS w v0 v1 v2 (w1.setCell ⟨w.heap.size + 1, i, none⟩ v) := by
  obtain ⟨a, b, c, d, e, f, i, j, k, l⟩ := h
  refine ⟨?_, ?_, ?_, has_set d, has_set e, has_set f, ?_, ?_, ?_, l.setCell (by simp) _⟩
  · rw [World.cell?_setCell_other _ _ _ _ (by simp)]; exact a
  · rw [World.cell?_setCell_other _ _ _ _ (by simp)]; exact b
  · rw [World.cell?_setCell_other _ _ _ _ (by simp)]; exact c
  · rw [World.frozen?_setCell]; exact i
  · rw [World.frozen?_setCell]; exact j
  · rw [World.frozen?_setCell]; exact k
theorem cell_unset {w : World} {a b : Addr} {u v : Value} (h : (w.setCell a v).cell? b = some u) : ∃ x, w.cell? b = some x := by
  by_cases e : a = b
  · subst e
    cases hx : w.cell? a with
    | some x => exact ⟨x, rfl⟩
    | none =>
      exfalso
      unfold World.cell? World.setCell at h
      unfold World.cell? at hx
      simp only [Array.getElem?_modify, if_true] at h
      cases hh : w.heap[a.block]? with
      | none => rw [hh] at h; simp at h
      | some o =>
        rw [hh] at h hx
        cases o <;> simp at h hx
        cases hs : a.spot with
        | some _ => simp [hs] at h
        | none => simp [hs] at h hx; have := (Array.getElem?_eq_some_iff.1 h).1; simp at this; omega
  · exact ⟨u, by rw [World.cell?_setCell_other _ _ _ _ e] at h; exact h⟩
theorem set3_cells {w : World} {b : Nat} {u v x y0 y1 y2 : Value}
    (h0 : (((w.setCell ⟨b, 0, none⟩ u).setCell ⟨b, 1, none⟩ v).setCell ⟨b, 2, none⟩ x).cell? ⟨b, 0, none⟩ = some y0) (h1 : (((w.setCell ⟨b, 0, none⟩ u).setCell ⟨b, 1, none⟩ v).setCell ⟨b, 2, none⟩ x).cell? ⟨b, 1, none⟩ = some y1) (h2 : (((w.setCell ⟨b, 0, none⟩ u).setCell ⟨b, 1, none⟩ v).setCell ⟨b, 2, none⟩ x).cell? ⟨b, 2, none⟩ = some y2) :
    (((w.setCell ⟨b, 0, none⟩ u).setCell ⟨b, 1, none⟩ v).setCell ⟨b, 2, none⟩ x).cell? ⟨b, 0, none⟩ = some u ∧ (((w.setCell ⟨b, 0, none⟩ u).setCell ⟨b, 1, none⟩ v).setCell ⟨b, 2, none⟩ x).cell? ⟨b, 1, none⟩ = some v ∧ (((w.setCell ⟨b, 0, none⟩ u).setCell ⟨b, 1, none⟩ v).setCell ⟨b, 2, none⟩ x).cell? ⟨b, 2, none⟩ = some x := by
  obtain ⟨z0, g0⟩ := cell_unset h0
  obtain ⟨z0, g0⟩ := cell_unset g0
  obtain ⟨z0, g0⟩ := cell_unset g0
  obtain ⟨z1, g1⟩ := cell_unset h1
  obtain ⟨z1, g1⟩ := cell_unset g1
  obtain ⟨z2, g2⟩ := cell_unset h2
  refine ⟨?_, ?_, World.cell?_setCell_same _ _ _ g2⟩
  · rw [World.cell?_setCell_other _ _ _ _ (by simp), World.cell?_setCell_other _ _ _ _ (by simp)]
    exact World.cell?_setCell_same _ _ _ g0
  · rw [World.cell?_setCell_other _ _ _ _ (by simp)]
    exact World.cell?_setCell_same _ _ _ g1
theorem RosS.vals {w w1 : World} {v0 v1 v2 u v x : Value} (h : RosS w v0 v1 v2 (((w1.setCell ⟨w.heap.size + 1, 0, none⟩ u).setCell ⟨w.heap.size + 1, 1, none⟩ v).setCell ⟨w.heap.size + 1, 2, none⟩ x)) :
    (((w1.setCell ⟨w.heap.size + 1, 0, none⟩ u).setCell ⟨w.heap.size + 1, 1, none⟩ v).setCell ⟨w.heap.size + 1, 2, none⟩ x).cell? ⟨w.heap.size + 1, 0, none⟩ = some u ∧ (((w1.setCell ⟨w.heap.size + 1, 0, none⟩ u).setCell ⟨w.heap.size + 1, 1, none⟩ v).setCell ⟨w.heap.size + 1, 2, none⟩ x).cell? ⟨w.heap.size + 1, 1, none⟩ = some v ∧ (((w1.setCell ⟨w.heap.size + 1, 0, none⟩ u).setCell ⟨w.heap.size + 1, 1, none⟩ v).setCell ⟨w.heap.size + 1, 2, none⟩ x).cell? ⟨w.heap.size + 1, 2, none⟩ = some x :=
  set3_cells h.2.2.2.1 h.2.2.2.2.1 h.2.2.2.2.2.1
theorem own_set3 {w : World} {base b : Nat} {e : TypeId} {size : Nat} {v : Value} {n : Nat} {xs : List Value} (h : w.ownsRow base e size v n xs) (hb : b < base) (u0 u1 u2 : Value) : (((w.setCell ⟨b, 0, none⟩ u0).setCell ⟨b, 1, none⟩ u1).setCell ⟨b, 2, none⟩ u2).ownsRow base e size v n xs :=
  ownsRow_setCell_below (ownsRow_setCell_below (ownsRow_setCell_below h (a := ⟨b, 0, none⟩) hb u0) (a := ⟨b, 1, none⟩) hb u1) (a := ⟨b, 2, none⟩) hb u2
theorem RosS.start (w : World) (v0 v1 v2 u0 u1 u2 : Value) (t t' : TypeId) : RosS w v0 v1 v2 ((w.alloc (.cells #[v0, v1, v2] t)).alloc (.cells #[u0, u1, u2] t')) := by
  have e : ∀ i : Nat, ((w.alloc (.cells #[v0, v1, v2] t)).alloc (.cells #[u0, u1, u2] t')).cell? ⟨w.heap.size + 1, i, none⟩ = #[u0, u1, u2][i]? := fun i => World.cell?_alloc_at _ _ _ _ (by simp)
  have e0 : ∀ i : Nat, ((w.alloc (.cells #[v0, v1, v2] t)).alloc (.cells #[u0, u1, u2] t')).cell? ⟨w.heap.size, i, none⟩ = #[v0, v1, v2][i]? := fun i => by
    rw [World.cell?_alloc_lt _ _ _ (by simp)]; exact World.cell?_alloc_new w _ _ _
  have f : ∀ i : Nat, ((w.alloc (.cells #[v0, v1, v2] t)).alloc (.cells #[u0, u1, u2] t')).frozen? ⟨w.heap.size + 1, i, none⟩ = false := fun i => by
    simp [go_sem]
  exact ⟨e0 0, e0 1, e0 2, has_of (e 0), has_of (e 1), has_of (e 2), f 0, f 1, f 2, below_alloc (below_alloc (Below.refl _ _) _) _⟩
theorem RowAt.one {w : World} {B : Nat} {v : Value} {t : TypeId} {fr : Nat × Nat} (h : w.heap[B]? = some (.cells #[v] t fr)) : RowAt w (some ⟨B, 0, none⟩) [v] := by
  refine Or.inr ⟨B, 0, rfl, (Array.getElem?_eq_some_iff.1 h).1, fun j u hu => ?_⟩
  rw [Nat.zero_add, cell_of_row w B j _ t fr h]
  simpa using hu
theorem RowAt.new (w : World) (v : Value) (t : TypeId) : RowAt (w.alloc (.cells #[v] t)) (some ⟨w.heap.size, 0, none⟩) [v] := RowAt.one (heap_alloc_new w _)
theorem RowAt.keep {w w' : World} {a : Option Addr} {cs : List Value} (h : RowAt w a cs) (hb : Below w.heap.size w w') : RowAt w' a cs := h.below hb (Nat.le_refl _)
theorem IntsAt.keep {w w' : World} {a : Option Addr} {zs : List Int} (h : IntsAt w a zs) (hb : Below w.heap.size w w') : IntsAt w' a zs := h.below hb (Nat.le_refl _)

theorem grown_cells {W w1 : World} {g : Nat} (h : W.grownBy w1 (some g)) : (∀ b o, b < W.heap.size → ¬ b = g → w1.cell? ⟨b, o, none⟩ = W.cell? ⟨b, o, none⟩) ∧ (∀ b o, b < W.heap.size → ¬ b = g → w1.frozen? ⟨b, o, none⟩ = W.frozen? ⟨b, o, none⟩) :=
  ⟨fun b _ hb hne => World.cell?_of_block (h.block b hb (by simpa using hne)), fun b _ hb hne => World.frozen?_of_block (h.block b hb (by simpa using hne))⟩

theorem own_set_ne {w : World} {base b g : Nat} {e : TypeId} {size : Nat} {n cap : Nat} {xs : List Value} (h : w.ownsRow base e size (.slice (some ⟨g, 0, none⟩) n cap) n xs) (hb : ¬ b = g) (i : Nat) (u0 : Value) : (w.setCell ⟨b, i, none⟩ u0).ownsRow base e size (.slice (some ⟨g, 0, none⟩) n cap) n xs := by
  obtain ⟨h1, h2⟩ := h
  refine ⟨h1, ?_⟩
  rcases h2 with ⟨h, _⟩ | ⟨g', cap', cur, hv, hg, hh, r⟩
  · simp at h
  · simp only [Value.slice.injEq, Option.some.injEq, Addr.mk.injEq, and_true, true_and] at hv
    obtain ⟨rfl, rfl⟩ := hv
    refine Or.inr ⟨g, cap, cur, rfl, hg, ?_, r⟩
    rw [Below.heap_setCell _ _ _ _ (Ne.symm hb)]
    exact hh
theorem own_set3_ne {w : World} {base b g : Nat} {e : TypeId} {size : Nat} {n cap : Nat} {xs : List Value} (h : w.ownsRow base e size (.slice (some ⟨g, 0, none⟩) n cap) n xs) (hb : b ≠ g) (i j k : Nat) (u0 u1 u2 : Value) : (((w.setCell ⟨b, i, none⟩ u0).setCell ⟨b, j, none⟩ u1).setCell ⟨b, k, none⟩ u2).ownsRow base e size (.slice (some ⟨g, 0, none⟩) n cap) n xs := by
  obtain ⟨h1, h2⟩ := h
  refine ⟨h1, ?_⟩
  rcases h2 with ⟨h, _⟩ | ⟨g', cap', cur, hv, hg, hh, r⟩
  · simp at h
  · simp only [Value.slice.injEq, Option.some.injEq, Addr.mk.injEq, and_true, true_and] at hv
    obtain ⟨rfl, rfl⟩ := hv
    refine Or.inr ⟨g, cap, cur, rfl, hg, ?_, r⟩
    rw [Below.heap_setCell _ _ _ _ (Ne.symm hb), Below.heap_setCell _ _ _ _ (Ne.symm hb), Below.heap_setCell _ _ _ _ (Ne.symm hb)]
    exact hh
theorem new3 (w : World) (u v x : Value) (t : TypeId) : (w.alloc (.cells #[u, v, x] t)).cell? ⟨w.heap.size, 0, none⟩ = some u ∧ (w.alloc (.cells #[u, v, x] t)).cell? ⟨w.heap.size, 1, none⟩ = some v ∧ (w.alloc (.cells #[u, v, x] t)).cell? ⟨w.heap.size, 2, none⟩ = some x ∧ ∀ i, (w.alloc (.cells #[u, v, x] t)).frozen? ⟨w.heap.size, i, none⟩ = false :=
  ⟨World.cell?_alloc_new w _ t 0, World.cell?_alloc_new w _ t 1, World.cell?_alloc_new w _ t 2, fun i => World.frozen?_alloc_new w _ t i⟩

theorem set_same {w : World} {a : Addr} {v : Value} (h : (w.cell? a).isSome = true) : (w.setCell a v).cell? a = some v := by
  obtain ⟨u, hu⟩ := Option.isSome_iff_exists.1 h
  exact World.cell?_setCell_same _ _ _ hu

theorem IntsAt.set {w : World} {g o : Nat} {zs : List Int} (h : IntsAt w (some ⟨g, o, none⟩) zs) {a : Addr} (ha : a.block ≠ g) (v : Value) : IntsAt (w.setCell a v) (some ⟨g, o, none⟩) zs := by
  rcases h with h | ⟨b, off, e, hs, hc⟩
  · exact Or.inl h
  · cases e
    refine Or.inr ⟨g, o, rfl, by simpa using hs, fun j hj => ?_⟩
    rw [World.cell?_setCell_other _ _ _ _ (fun e => ha (by rw [e]))]
    exact hc j hj

theorem RowAt.grew0 {W W' : World} {base : Nat} {v' : Value} {a : Option Addr} {cs : List Value} (h : RowAt W a cs) (hG : Grew base W W' (.slice none 0 0) v') : RowAt W' a cs := by
  rcases h with h | ⟨b, off, rfl, hs, hc⟩
  · exact Or.inl h
  · refine Or.inr ⟨b, off, rfl, Nat.lt_of_lt_of_le hs hG.1.size, fun j u hj => ?_⟩
    rw [hG.2.1 b _ hs (fun e => by simp [Value.ownBlock] at e)]
    exact hc j u hj
theorem RowAt.new' (w : World) (v : Value) (t : TypeId) (B : Nat) (h : w.heap.size = B) : RowAt (w.alloc (.cells #[v] t)) (some ⟨B, 0, none⟩) [v] := by
  subst h; exact RowAt.new w v t
theorem far_nil : ∀ k, Far (.slice none 0 0) k := fun _ e => by simp [Value.ownBlock] at e
theorem below_realloc {B : Nat} {w : World} (h : B ≤ w.heap.size) (o o' : Obj) : Below B (w.alloc o) (w.alloc o') :=
  ⟨rfl, rfl, rfl, by simp, fun k hk => by rw [Below.heap_alloc w o' k (by omega), Below.heap_alloc w o k (by omega)]⟩
theorem own_set3_far {w : World} {base b : Nat} {e : TypeId} {size : Nat} {v : Value} {n : Nat} {xs : List Value} (h : w.ownsRow base e size v n xs) (hb : Far v b) (i j k : Nat) (u0 u1 u2 : Value) : (((w.setCell ⟨b, i, none⟩ u0).setCell ⟨b, j, none⟩ u1).setCell ⟨b, k, none⟩ u2).ownsRow base e size v n xs := by
  rcases h.2 with ⟨rfl, rfl⟩ | ⟨g, cap, cur, rfl, _⟩
  · exact ⟨h.1, Or.inl ⟨rfl, rfl⟩⟩
  · exact own_set3_ne h (fun e => hb (by simp [Value.ownBlock, e])) _ _ _ _ _ _
theorem own_set_far {w : World} {base b : Nat} {e : TypeId} {size : Nat} {v : Value} {n : Nat} {xs : List Value} (h : w.ownsRow base e size v n xs) (hb : Far v b) (i : Nat) (u0 : Value) : (w.setCell ⟨b, i, none⟩ u0).ownsRow base e size v n xs := by
  rcases h.2 with ⟨rfl, rfl⟩ | ⟨g, cap, cur, rfl, _⟩
  · exact ⟨h.1, Or.inl ⟨rfl, rfl⟩⟩
  · exact own_set_ne h (fun e => hb (by simp [Value.ownBlock, e])) _ _

theorem ret_int {k : IntKind} {a b : Int} (h : a = b) : Ending.returned (.int k a) = .returned (.int k b) := by rw [h]
theorem ret_bool {a b : Bool} (h : a = b) : Ending.returned (.bool a) = .returned (.bool b) := by rw [h]

/-- The first place of a number, from k on. -/
def idxFrom (zs : List Int) (x : Int) : Nat → Nat → Int
  | 0, _ => -1
  | n + 1, k => if nthI zs k = x then k else idxFrom zs x n (k + 1)
def idx (zs : List Int) (x : Int) : Int := idxFrom zs x zs.length 0

theorem idxFrom_hit (zs : List Int) (x : Int) (k : Nat) (h : nthI zs k = x) : ∀ (n j : Nat), j ≤ k → k < j + n → (∀ i, j ≤ i → i < k → nthI zs i ≠ x) → idxFrom zs x n j = k
  | 0, j, h1, h2, _ => by omega
  | n + 1, j, h1, h2, h3 => by
    unfold idxFrom
    by_cases e : j = k
    · subst e; rw [if_pos h]
    · rw [if_neg (h3 j (Nat.le_refl _) (by omega))]
      exact idxFrom_hit zs x k h n (j + 1) (by omega) (by omega) (fun i a b => h3 i (by omega) b)
theorem idxFrom_miss (zs : List Int) (x : Int) : ∀ (n j : Nat), (∀ i, j ≤ i → i < j + n → nthI zs i ≠ x) → idxFrom zs x n j = -1
  | 0, _, _ => rfl
  | n + 1, j, h => by
    unfold idxFrom
    rw [if_neg (h j (Nat.le_refl _) (by omega))]
    exact idxFrom_miss zs x n (j + 1) (fun i a b => h i (by omega) (by omega))
theorem idx_hit {zs : List Int} {x : Int} {k : Nat} (hk : k < zs.length) (h : nthI zs k = x) (hn : ∀ i, i < k → nthI zs i ≠ x) : idx zs x = k :=
  idxFrom_hit zs x k h _ 0 (Nat.zero_le _) (by omega) (fun i _ b => hn i b)
theorem idx_miss {zs : List Int} {x : Int} (hn : ∀ i, i < zs.length → nthI zs i ≠ x) : idx zs x = -1 :=
  idxFrom_miss zs x _ 0 (fun i _ b => hn i (by omega))

end Go.Proofs.YthbbfdlacclccaaDoor

/- LeanAll: plain laws of shares; a row of numbers made, a row of texts. -/
import Derived.Test.YtehplflhaegkbaaGreatDoorZa
import Derived.Maps.AppendAt
namespace Go.Proofs.YtehplflhaegkbaaGreatDoor
open Go.RowKit

set_option maxRecDepth 100000
theorem addr_pl (q o j : Nat) : (⟨q, o, none⟩ : Addr).add j = ⟨q, o + j, none⟩ := by unfold Addr.add; split <;> simp_all
theorem nodup_inj {zs : List Int} (hd : zs.Nodup) {i j : Nat} (hi : i < zs.length) (hj : j < zs.length) (e : zs[i] = zs[j]) : i = j := by
  rcases Nat.lt_trichotomy i j with h | h | h
  · exact absurd e (List.pairwise_iff_getElem.1 hd i j hi hj h)
  · exact h
  · exact absurd e.symm (List.pairwise_iff_getElem.1 hd j i hj hi h)
theorem idx_nodup {zs : List Int} {x : Int} (h : x ∈ zs) (hd : zs.Nodup) : ∃ i : Nat, idx zs x = (i : Int) ∧ i < zs.length ∧ zs[i]? = some x := by
  obtain ⟨i, hi, e⟩ := List.getElem_of_mem h
  have hn : nthI zs i = x := by unfold nthI; rw [List.getD_eq_getElem?_getD, List.getElem?_eq_getElem hi, e]; rfl
  refine ⟨i, idx_hit hi hn (fun j hj he => ?_), hi, by rw [List.getElem?_eq_getElem hi, e]⟩
  have hj2 : j < zs.length := by omega
  have e2 : zs[j] = x := by
    unfold nthI at he
    rw [List.getD_eq_getElem?_getD, List.getElem?_eq_getElem hj2] at he
    exact he
  have := nodup_inj hd hj2 hi (by rw [e2, e])
  omega
theorem shares_len (nw : Int) (zs : List Int) (ks : List ByteArray) : (shares nw zs ks).length = zs.length := by simp [shares]
theorem shares_step {nw : Int} {zs : List Int} {ks : List ByteArray} {A : ByteArray} {p : Int} (hp : pick A.data.toList nw zs = p) (hpz : p ∈ zs) (hpn : p ≠ nw) (hd : zs.Nodup) : ∃ (i : Nat) (x : Int), idx zs p = (i : Int) ∧ i < zs.length ∧ (shares nw zs ks)[i]? = some x ∧ 0 ≤ x ∧ x ≤ ks.length ∧ shares nw zs (ks ++ [A]) = (shares nw zs ks).set i (x + 1) := by
  obtain ⟨i, h1, h2, h3⟩ := idx_nodup hpz hd
  have hx : (shares nw zs ks)[i]? = some ((cnt nw zs ks p : Nat) : Int) := by
    unfold shares
    rw [List.getElem?_map, h3]
    simp [sh, hpn]
  have hc := cnt_le nw zs ks p
  refine ⟨i, _, h1, h2, hx, by omega, by omega, ?_⟩
  refine List.ext_getElem? fun j => ?_
  rw [List.getElem?_set]
  by_cases hj : j < zs.length
  · have e1 : ∀ ks, (shares nw zs ks)[j]? = some (sh nw zs ks zs[j]) := fun ks => by unfold shares; rw [List.getElem?_map, List.getElem?_eq_getElem hj]; rfl
    rw [e1]
    by_cases hij : i = j
    · subst hij
      rw [if_pos rfl, if_pos (by rw [shares_len]; exact hj)]
      have hz : zs[i] = p := by rw [List.getElem?_eq_getElem hj] at h3; exact Option.some.inj h3
      rw [hz]
      unfold sh
      rw [if_neg hpn, cnt_snoc, if_pos hp]
      rfl
    · rw [if_neg hij, e1]
      have hz : p ≠ zs[j] := fun e => hij (nodup_inj hd h2 hj (by
        rw [List.getElem?_eq_getElem h2] at h3
        rw [Option.some.inj h3]; exact e))
      unfold sh
      rw [cnt_snoc, if_neg (fun e => hz (hp ▸ e))]
      rfl
  · rw [List.getElem?_eq_none (by rw [shares_len]; omega), List.getElem?_eq_none (by rw [shares_len]; omega)]
    split <;> simp_all
theorem shares_nil {nw : Int} {zs : List Int} : shares nw zs [] = List.replicate zs.length 0 := by
  unfold shares
  rw [List.eq_replicate_iff]
  refine ⟨by simp, fun b hb => ?_⟩
  obtain ⟨z, -, rfl⟩ := List.mem_map.1 hb
  unfold sh cnt
  split <;> simp
theorem picked {e : Int} {zs : List Int} {nw : Int} (l : List UInt8) (h : mayB e zs nw = true) : pick l nw zs ∈ zs ∧ pick l nw zs ≠ nw ∧ zs.Nodup ∧ (∀ z ∈ zs, 1 ≤ z ∧ z ≤ 5) ∧ zs.length ≤ 5 ∧ 1 ≤ zs.length := by
  unfold mayB at h
  simp only [Bool.and_eq_true] at h
  obtain ⟨⟨⟨-, h2⟩, h3⟩, h4⟩ := h
  obtain ⟨hm, hd⟩ := mayL_iff.1 h3
  have hl : 1 ≤ zs.length ∧ zs.length ≤ 5 := by unfold lenB at h2; simpa using h2
  have h0 : ∀ z ∈ zs, z ≠ 0 := fun z hz => by have := hm z hz; omega
  have hx : nthI zs 0 ≠ nw := by
    unfold newB at h4
    simp only [decide_eq_true_eq] at h4
    have hz := hm _ (nth_mem (zs := zs) (k := 0) (by omega))
    rcases h4 with h4 | ⟨h4, h5⟩
    · omega
    · intro e1
      have e3 : atI zs ((zs.length : Int) - 1) = nthI zs (zs.length - 1) := by
        have := atI_in (zs := zs) (k := zs.length - 1) (by omega)
        rw [Int.natCast_sub (by omega)] at this
        exact this
      rw [h5, e3] at e1
      unfold nthI at e1
      rw [List.getD_eq_getElem?_getD, List.getD_eq_getElem?_getD, List.getElem?_eq_getElem (by omega), List.getElem?_eq_getElem (by omega)] at e1
      have := nodup_inj hd (by omega : 0 < zs.length) (by omega : zs.length - 1 < zs.length) e1
      omega
  have hp := pick_ne l nw zs h0 _ (nth_mem (k := 0) (by omega)) hx
  have hi := pick_in l nw zs hp
  exact ⟨hi.1, hi.2, hd, hm, hl.2, hl.1⟩
/-- A row of numbers of the call's own. -/
def CntR (w : World) (B q : Nat) (cs : List Int) : Prop := w.ownsRow B 3 1 (.slice (some ⟨q, 0, none⟩) cs.length cs.length) cs.length (cs.map (.int .i64))
theorem CntR.keep {w w' : World} {B q : Nat} {cs : List Int} {row : Option Nat} (h : CntR w B q cs) (hg : w.grownBy w' row) (hq : some q ≠ row) : CntR w' B q cs := World.ownsRow.kept h hg (Or.inr hq)
theorem grown_of {w w' : World} (h : Below w.heap.size w w') : w.grownBy w' none := ⟨h.os, h.tape, h.output, h.size, fun k hk _ => h.block k hk⟩
theorem CntR.low {w w' : World} {B q : Nat} {cs : List Int} (h : CntR w B q cs) (k : Below w.heap.size w w') : CntR w' B q cs := h.keep (grown_of k) (by simp)
theorem CntR.get {w : World} {B q : Nat} {cs : List Int} (h : CntR w B q cs) {i : Nat} {x : Int} (hi : cs[i]? = some x) : w.cell? ⟨q, i, none⟩ = some (.int .i64 x) ∧ w.frozen? ⟨q, i, none⟩ = false := by
  have hl := (List.getElem?_eq_some_iff.1 hi).1
  refine ⟨?_, World.ownsRow.frozenAt h i⟩
  rw [World.ownsRow.cellAt h i (by omega), List.getElem?_map, hi]; rfl
theorem CntR.set {w : World} {B q : Nat} {cs : List Int} (h : CntR w B q cs) (i : Nat) (y : Int) : CntR (w.setCell ⟨q, i, none⟩ (.int .i64 y)) B q (cs.set i y) ∧ w.grownBy (w.setCell ⟨q, i, none⟩ (.int .i64 y)) (some q) := by
  obtain ⟨h1, h2⟩ := World.ownsRow.stored h i (.int .i64 y)
  refine ⟨?_, h2⟩
  unfold CntR
  rw [List.length_set, List.map_set]
  exact h1
theorem CntR.lt {w : World} {B q : Nat} {cs : List Int} (h : CntR w B q cs) : B ≤ q ∧ q < w.heap.size := World.ownsRow.lt h q rfl
theorem infoI' : ∃ i, Tryz.prog.info? 3 = some i ∧ i.zero = some (.int .i64 0) ∧ i.size = 1 ∧ i.bytes = 8 := by
  have h : (Tryz.prog.info? 3).map (fun i => (i.zero, i.size, i.bytes)) = some (some (.int .i64 0), 1, 8) := by kernel_rfl
  cases hi : Tryz.prog.info? 3 with
  | none => rw [hi] at h; simp at h
  | some i =>
    rw [hi] at h
    simp only [Option.map_some, Option.some.injEq, Prod.mk.injEq] at h
    exact ⟨i, rfl, h.1, h.2.1, h.2.2⟩
theorem infoS' : ∃ i, Tryz.prog.info? 9 = some i ∧ i.zero = some (.string ⟨#[]⟩) ∧ i.size = 1 ∧ i.bytes = 16 := by
  have h : (Tryz.prog.info? 9).map (fun i => (i.zero, i.size, i.bytes)) = some (some (.string ⟨#[]⟩), 1, 16) := by kernel_rfl
  cases hi : Tryz.prog.info? 9 with
  | none => rw [hi] at h; simp at h
  | some i =>
    rw [hi] at h
    simp only [Option.map_some, Option.some.injEq, Prod.mk.injEq] at h
    exact ⟨i, rfl, h.1, h.2.1, h.2.2⟩
def mkI (w : World) (n : Nat) : World := w.alloc (.cells (madeCells (Value.int .i64 0).cells n) 3)
theorem run_mkI (w : World) (n : Nat) (hn : n ≤ 16777216) : (Instr.makeSlice 22 (.int .i64 (n : Int)) (.int .i64 (n : Int))).run Tryz.prog w = .ok (.slice (some ⟨w.heap.size, 0, none⟩) n n) (mkI w n) := by
  obtain ⟨i, hi, hz, hs, hb⟩ := infoI'
  rw [run_makeSlice w 22 3 i (.int .i64 0) Tryz.underlying22 hi hz .i64 .i64 n n (by omega) (by omega) (by rw [hs]; omega) (by rw [hb]; omega) (by omega)]
  rw [hs, Int.toNat_natCast, Nat.mul_one]
  rfl
theorem mkI_row (w : World) (n : Nat) (hn : n ≤ 16777216) : CntR (mkI w n) w.heap.size w.heap.size (List.replicate n 0) ∧ Below w.heap.size w (mkI w n) := by
  have e : (Value.int .i64 0).cells = #[Value.int .i64 0] := rfl
  refine ⟨⟨by simp, Or.inr ⟨w.heap.size, n, _, by simp, Nat.le_refl _, heap_alloc_new w _, by simp, by unfold maxLen; omega, ?_, ?_⟩⟩, below_alloc (Below.refl _ _) _⟩
  · rw [e, ← Array.length_toList, toList_madeCells_one]; simp
  · rw [e, toList_madeCells_one]; simp
/-- A row of texts of the call's own. -/
def TxtR (w : World) (B : Nat) (v : Value) (ss : List ByteArray) : Prop := w.ownsRow B 9 1 v ss.length (ss.map .string)
theorem TxtR.nil (w : World) (B : Nat) : TxtR w B (.slice none 0 0) [] := World.ownsRow_nil _ _ _ _
theorem TxtR.keep {w w' : World} {B : Nat} {v : Value} {ss : List ByteArray} {row : Option Nat} (h : TxtR w B v ss) (hg : w.grownBy w' row) (hq : v.ownBlock = none ∨ v.ownBlock ≠ row) : TxtR w' B v ss := World.ownsRow.kept h hg hq
theorem TxtR.low {w w' : World} {B : Nat} {v : Value} {ss : List ByteArray} (h : TxtR w B v ss) (k : Below w.heap.size w w') : TxtR w' B v ss := h.keep (grown_of k) (by
  cases v.ownBlock <;> simp)
theorem TxtR.row {w : World} {B : Nat} {v : Value} {ss : List ByteArray} (h : TxtR w B v ss) : ∃ a c, v = .slice a ss.length c ∧ RowAt w a (ss.map .string) := by
  rcases h.2 with ⟨h1, h2⟩ | ⟨g, cap, cur, h1, hb, hg, h2, h3, -⟩
  · have : ss = [] := List.length_eq_zero_iff.1 h2
    subst this
    exact ⟨none, 0, h1, Or.inl rfl⟩
  · refine ⟨_, _, h1, Or.inr ⟨g, 0, rfl, (Array.getElem?_eq_some_iff.1 hg).1, fun j u hu => ?_⟩⟩
    subst h1
    have := World.ownsRow.cells h (g := g) rfl j u hu
    rw [addr_pl] at this
    exact this
/-- One text more, at the operation. -/
theorem wpList_txt {w : World} {ops : Array Oper} {rest : List Oper} {o : Oper} {a : Act} {Q : Exit → Act → World → Prop} (hg : o.guard = none) (s x : Operand)
    (ho : o.op = .call { callee := .builtin .append, args := #[s, x], argTypes := #[25, 25] }) (B : Nat) (hB : B ≤ w.heap.size) (v : Value) (ss : List ByteArray) (hs : a.eval s = v) (hm : TxtR w B v ss) (u : ByteArray) (b : Nat) (hx : a.eval x = .slice (some ⟨b, 0, none⟩) 1 1) (hb : w.cell? ⟨b, 0, none⟩ = some (.string u)) (hl : ss.length < 1000000)
    (hK : ∀ v' w', TxtR w' B v' (ss ++ [u]) → w.grownBy w' v.ownBlock → (v'.ownBlock = v.ownBlock ∨ v'.ownBlock = some w.heap.size) → wpList Tryz.prog ops Q rest (a.put o.dst v') w') : wpList Tryz.prog ops Q (o :: rest) a w := by
  refine wpList_plain hg fun K' hK' => ?_
  obtain ⟨i, hi, hz, hsz, hby⟩ := infoS'
  obtain ⟨v', w', hrun, hown, hgr, -, hbk⟩ := run_append_own_at (P := Tryz.prog) w B 25 o.type 9 i (.string ⟨#[]⟩) 1 16 Tryz.underlying25 hi hz hsz hby rfl (by decide) v ss.length (ss.map .string) hm ⟨b, 0, none⟩ 1 1 [.string u] rfl (fun j y hy => by
    have hj : j = 0 := by have := (List.getElem?_eq_some_iff.1 hy).1; simpa using this
    subst hj
    simp at hy
    subst hy
    exact hb) (by simp [Value.oneCell']) (by unfold maxLen; omega) (by omega) hB
  unfold Oper.wp execOp
  simp only [ho, resolve, invoke, builtin, Sem.run_bind, Sem.run_pure, Result.andThen_ok, List.map_toArray, List.map_cons, List.map_nil, hs, hx, hrun]
  refine hK' _ _ (hK v' w' ?_ hgr hbk)
  unfold TxtR
  rw [List.length_append, List.map_append]
  exact hown
end Go.Proofs.YtehplflhaegkbaaGreatDoor

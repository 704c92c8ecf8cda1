/- A row of numbers that begins anywhere in a block of its own; append to it. A row of numbers beside a journal and its row of texts; where each record ends. -/
import Derived.Test.YtjblbjamceloaaaGreatDoorNG
namespace Go.Proofs.YtjblbjamceloaaaGreatDoor
open Go.RowKit

theorem Tryz.infoInt : (Tryz.prog.info? 3).map (fun i => (i.zero, i.size, i.bytes)) = some (some (.int .i64 0), 1, 8) := by kernel_rfl
theorem infoInt' : ∃ i, Tryz.prog.info? 3 = some i ∧ i.zero = some (.int .i64 0) ∧ i.size = 1 ∧ i.bytes = 8 := by
  have h := Tryz.infoInt
  cases hi : Tryz.prog.info? 3 with
  | none => rw [hi] at h; simp at h
  | some i =>
    rw [hi] at h
    simp only [Option.map_some, Option.some.injEq, Prod.mk.injEq] at h
    exact ⟨i, rfl, h.1, h.2.1, h.2.2⟩
/-- A row of numbers, with room behind it, somewhere in a block. -/
def IntRow (w : World) (v : Value) (ss : List Int) : Prop :=
  (v = .slice none 0 0 ∧ ss = []) ∨ ∃ q o cap, v = .slice (some ⟨q, o, none⟩) ss.length cap ∧ ss.length ≤ cap ∧ cap ≤ maxLen ∧ q < w.heap.size ∧ (∀ j s, ss[j]? = some s → w.cell? ⟨q, o + j, none⟩ = some (.int .i64 s)) ∧
    ∀ j, j < cap → (w.cell? ⟨q, o + j, none⟩).isSome = true ∧ w.frozen? ⟨q, o + j, none⟩ = false
theorem IntRow.lt {w : World} {v : Value} {ss : List Int} (h : IntRow w v ss) : ∀ q ∈ ownL v, q < w.heap.size := by
  rcases h with ⟨rfl, _⟩ | ⟨q, o, cap, rfl, _, _, hq, _⟩
  · intro q hq; simp [ownL_nil] at hq
  · intro q' hq'; rw [ownL_some] at hq'; simp at hq'; omega
theorem IntRow.keep {S : List Nat} {w w' : World} {v : Value} {ss : List Int} (h : IntRow w v ss) (k : Only S w w') (hn : ∀ q ∈ ownL v, q ∉ S) : IntRow w' v ss := by
  rcases h with h | ⟨q, o, cap, rfl, h1, h2, hq, h3, h4⟩
  · exact Or.inl h
  · have hqs : q ∉ S := hn q (by rw [ownL_some]; simp)
    refine Or.inr ⟨q, o, cap, rfl, h1, h2, Nat.lt_of_lt_of_le hq k.size, fun j s hj => k.cellK (p := ⟨q, o + j, none⟩) hqs (h3 j s hj), fun j hj => ?_⟩
    have := h4 j hj
    rw [k.cell (p := ⟨q, o + j, none⟩) hq hqs, k.frozen (p := ⟨q, o + j, none⟩) hq hqs]
    exact this
theorem IntRow.form {w : World} {v : Value} {ss : List Int} (h : IntRow w v ss) : ∃ a c, v = .slice a ss.length c := by
  rcases h with ⟨rfl, rfl⟩ | ⟨q, o, cap, rfl, _⟩
  · exact ⟨_, _, rfl⟩
  · exact ⟨_, _, rfl⟩
theorem IntRow.row {w : World} {a : Option Addr} {c : Nat} {ss : List Int} (h : IntRow w (.slice a ss.length c) ss) : RowAt w a (ss.map (.int .i64)) := by
  rcases h with ⟨_, rfl⟩ | ⟨q, o, cap, e, h1, h2, hq, h3, h4⟩
  · exact Or.inl rfl
  · simp only [Value.slice.injEq] at e
    refine Or.inr ⟨q, o, e.1, hq, fun j u hu => ?_⟩
    rw [List.getElem?_map] at hu
    cases hj : ss[j]? with
    | none => rw [hj] at hu; simp at hu
    | some s =>
      rw [hj] at hu
      simp at hu
      rw [← hu]; exact h3 j s hj
/-- One more number behind a row. -/
theorem IntRow.append {w : World} {v : Value} {ss : List Int} (h : IntRow w v ss) (s : Int) (b : Nat) (hb : w.cell? ⟨b, 0, none⟩ = some (.int .i64 s)) (hl : ss.length < 1000000) (ty : TypeId) :
    ∃ v' w', (Builtin.append_ #[43, 43] ty #[v, .slice (some ⟨b, 0, none⟩) 1 1]).run Tryz.prog w = .ok v' w' ∧ IntRow w' v' (ss ++ [s]) ∧ Only (ownL v) w w' ∧ (∀ q ∈ ownL v', q ∈ ownL v ∨ w.heap.size ≤ q) := by
  obtain ⟨i, hi, hz, hsz, hby⟩ := infoInt'
  have hnew : ∀ j u, [Value.int .i64 s][j]? = some u → w.cell? ((⟨b, 0, none⟩ : Addr).add j) = some u := fun j u hu => by
    have hj : j = 0 := by
      have := (List.getElem?_eq_some_iff.1 hu).1
      simpa using this
    subst hj
    rw [addr_add, Nat.zero_add]
    simp at hu
    rw [← hu]; exact hb
  rcases h with ⟨rfl, rfl⟩ | ⟨q, o, cap, rfl, h1, h2, hq, h3, h4⟩
  · obtain ⟨v', w', hr, hown, hg, -⟩ := run_append_own (P := Tryz.prog) w w.heap.size 43 ty 3 i (.int .i64 0) 1 8 Tryz.underlying43 hi hz hsz hby rfl (by decide) _ 0 [] (World.ownsRow_nil w _ _ _) ⟨b, 0, none⟩ 1 1 [.int .i64 s] rfl hnew (by simp [Value.oneCell']) (by unfold maxLen; omega) (by omega) (Nat.le_refl _)
    refine ⟨v', w', hr, ?_, ⟨hg.os, hg.tape, hg.output, hg.size, fun k hk _ => hg.block k hk (by simp [Value.ownBlock])⟩, ?_⟩
    · rcases hown.2 with ⟨_, hn⟩ | ⟨g, cap, cur, rfl, hbg, hblk, hn, hm, hcs, htk⟩
      · omega
      · refine Or.inr ⟨g, 0, cap, rfl, hn, hm, (Array.getElem?_eq_some_iff.1 hblk).1, fun j u hj => ?_, fun j hj => ?_⟩
        · have hj0 : j = 0 := by
            have := (List.getElem?_eq_some_iff.1 hj).1
            simpa using this
          subst hj0
          simp at hj
          subst hj
          rw [cell_of_row _ _ _ _ _ _ hblk]
          have : cur.toList.take 1 = [Value.int .i64 s] := by simpa using htk
          have h0 : cur.toList[0]? = some (Value.int .i64 s) := by
            have := congrArg (·[0]?) this
            simpa using this
          simpa using h0
        · have hlt : j < cur.size := by omega
          refine ⟨?_, ?_⟩
          · rw [cell_of_row _ _ _ _ _ _ hblk]; simp [hlt]
          · simp [World.frozen?, hblk]
    · intro q hq
      rcases hown.2 with ⟨_, hn⟩ | ⟨g, cap, cur, rfl, hbg, -⟩
      · omega
      · rw [ownL_some] at hq; simp at hq; exact Or.inr (by omega)
  · by_cases hroom : ss.length + 1 ≤ cap
    · have hc := h4 ss.length (by omega)
      have hr := run_append_room_cells (P := Tryz.prog) w 43 ty 3 i Tryz.underlying43 hi q o ss.length cap ⟨b, 0, none⟩ 1 1 [.int .i64 s] (by rw [hsz]; rfl) hnew (by simp [Value.oneCell']) hroom
        (fun j hj => by
          have hj0 : j = 0 := by simpa using hj
          subst hj0
          rw [hsz, Nat.mul_one, Nat.add_zero]; exact hc.1)
        (fun j hj => by
          have hj0 : j = 0 := by simpa using hj
          subst hj0
          rw [hsz, Nat.mul_one, Nat.add_zero]; exact hc.2)
      rw [hsz, Nat.mul_one] at hr
      have ew : w.setCells q (o + ss.length) [.int .i64 s] = w.setCell ⟨q, o + ss.length, none⟩ (.int .i64 s) := rfl
      rw [ew] at hr
      have ho : Only [q] w (w.setCell ⟨q, o + ss.length, none⟩ (.int .i64 s)) := (Only.refl _ _).setCell (Or.inl (by simp)) _
      refine ⟨_, _, hr, ?_, ho, fun q' hq' => Or.inl hq'⟩
      refine Or.inr ⟨q, o, cap, by simp, by simpa using hroom, h2, by simpa using hq, fun j u hj => ?_, fun j hj => ?_⟩
      · by_cases e : j = ss.length
        · subst e
          simp at hj
          subst hj
          exact set_same hc.1
        · have hj2 : ss[j]? = some u := by
            rw [List.getElem?_append] at hj
            split at hj
            · exact hj
            · rename_i hge
              exfalso
              have : j - ss.length ≠ 0 := by omega
              have := (List.getElem?_eq_some_iff.1 hj).1
              simp at this; omega
          rw [World.cell?_setCell_other _ _ _ _ (by intro q2; have := congrArg Addr.off q2; simp at this; omega)]
          exact h3 j u hj2
      · have h5 := h4 j hj
        refine ⟨?_, by rw [World.frozen?_setCell]; exact h5.2⟩
        by_cases e : j = ss.length
        · subst e; rw [set_same hc.1]; rfl
        · rw [World.cell?_setCell_other _ _ _ _ (by intro q2; have := congrArg Addr.off q2; simp at this; omega)]; exact h5.1
    · obtain ⟨v', w', hr, hown, hg⟩ := run_append_arg_grows (P := Tryz.prog) w 43 ty 3 i (.int .i64 0) 1 8 Tryz.underlying43 hi hz hsz hby rfl (by decide) ⟨q, o, none⟩ ss.length cap (ss.map (.int .i64)) (by simp)
        (fun j u hu => by
          rw [addr_add]
          rw [List.getElem?_map] at hu
          cases hj : ss[j]? with
          | none => rw [hj] at hu; simp at hu
          | some s' =>
            rw [hj] at hu
            simp at hu
            rw [← hu]; exact h3 j s' hj) ⟨b, 0, none⟩ 1 1 [.int .i64 s] rfl hnew (by omega) (by unfold maxLen; omega) (by omega)
      refine ⟨v', w', hr, ?_, ⟨hg.os, hg.tape, hg.output, hg.size, fun k hk _ => hg.block k hk (by simp)⟩, ?_⟩
      · rcases hown.2 with ⟨_, hn⟩ | ⟨g, cap', cur, rfl, hbg, hblk, hn, hm, hcs, htk⟩
        · omega
        · refine Or.inr ⟨g, 0, cap', by simp, by simpa using hn, hm, (Array.getElem?_eq_some_iff.1 hblk).1, fun j u hj => ?_, fun j hj => ?_⟩
          · rw [Nat.zero_add, cell_of_row _ _ _ _ _ _ hblk]
            have hlt : j < (ss ++ [s]).length := (List.getElem?_eq_some_iff.1 hj).1
            have e1 : (ss.map (Value.int .i64) ++ [.int .i64 s])[j]? = some (.int .i64 u) := by
              have : ss.map (Value.int .i64) ++ [.int .i64 s] = (ss ++ [s]).map (Value.int .i64) := by simp
              rw [this, List.getElem?_map, hj]; rfl
            have e2 : cur.toList.take (ss.length + 1) = ss.map (Value.int .i64) ++ [.int .i64 s] := by simpa using htk
            rw [← e2, List.getElem?_take] at e1
            have hlt2 : j < ss.length + 1 := by simpa using hlt
            rw [if_pos hlt2] at e1
            simpa using e1
          · have hlt : j < cur.size := by omega
            refine ⟨?_, ?_⟩
            · rw [Nat.zero_add, cell_of_row _ _ _ _ _ _ hblk]; simp [hlt]
            · simp [World.frozen?, hblk]
      · intro q' hq'
        rcases hown.2 with ⟨_, hn⟩ | ⟨g, cap', cur, rfl, hbg, -⟩
        · omega
        · rw [ownL_some] at hq'; simp at hq'; exact Or.inr (by omega)
/-- One more number behind a row, at the operation. -/
theorem wpList_moreI {w : World} {ops : Array Oper} {rest : List Oper} {o : Oper} {a : Act} {Q : Exit → Act → World → Prop} (hg : o.guard = none) (s x : Operand)
    (ho : o.op = .call { callee := .builtin .append, args := #[s, x], argTypes := #[43, 43] }) (v : Value) (ss : List Int) (hs : a.eval s = v) (hm : IntRow w v ss) (u : Int) (b : Nat) (hx : a.eval x = .slice (some ⟨b, 0, none⟩) 1 1) (hb : w.cell? ⟨b, 0, none⟩ = some (.int .i64 u)) (hl : ss.length < 1000000)
    (hK : ∀ v' w', IntRow w' v' (ss ++ [u]) → Only (ownL v) w w' → (∀ q ∈ ownL v', q ∈ ownL v ∨ w.heap.size ≤ q) → wpList Tryz.prog ops Q rest (a.put o.dst v') w') : wpList Tryz.prog ops Q (o :: rest) a w := by
  refine wpList_plain hg fun K' hK' => ?_
  obtain ⟨v', w', hrun, r1, r2, r3⟩ := hm.append u b hb hl o.type
  unfold Oper.wp execOp
  simp only [ho, resolve, invoke, builtin, Sem.run_bind, Sem.run_pure, Result.andThen_ok, List.map_toArray, List.map_cons, List.map_nil, hs, hx, hrun]
  exact hK' _ _ (hK v' w' r1 r2 r3)
theorem IntRow.low {w w' : World} {v : Value} {ss : List Int} (h : IntRow w v ss) (k : Below w.heap.size w w') : IntRow w' v ss := h.keep (S := []) (Only.of_below k) (by simp)
end Go.Proofs.YtjblbjamceloaaaGreatDoor
namespace Go.Proofs.YtjblbjamceloaaaGreatDoor
open Go.RowKit

/-- Where each record of a journal without a state ends. -/
def endsL (done : List ByteArray) : List Int := (List.range done.length).map fun i => ((leavesL (⟨#[]⟩ :: done.take (i + 1))).length : Int)
theorem endsL_len (done : List ByteArray) : (endsL done).length = done.length := by simp [endsL]
theorem endsL_snoc (done : List ByteArray) (x : ByteArray) : endsL (done ++ [x]) = endsL done ++ [((leavesL (⟨#[]⟩ :: (done ++ [x]))).length : Int)] := by
  unfold endsL
  rw [List.length_append, List.length_singleton, List.range_succ, List.map_append]
  congr 1
  · refine List.map_congr_left fun i hi => ?_
    have hi2 : i < done.length := by simpa using hi
    rw [List.take_append_of_le_length (by omega)]
  · simp only [List.map_cons, List.map_nil]
    rw [List.take_of_length_le (by simp)]
theorem endsL_get {done : List ByteArray} {i : Nat} (h : i < done.length) : (endsL done)[i]? = some ((leavesL (⟨#[]⟩ :: done.take (i + 1))).length : Int) := by
  unfold endsL
  rw [List.getElem?_map, List.getElem?_range h]; rfl
theorem leavesL_mono (f : ByteArray) (a : List ByteArray) {i j : Nat} (h : i ≤ j) : (leavesL (f :: a.take i)).length ≤ (leavesL (f :: a.take j)).length := by
  have h1 := leavesL_take_le (f :: a.take j) (i + 1)
  rw [List.take_succ_cons, List.take_take, Nat.min_eq_left h] at h1
  exact h1
/-- How many stand whole. -/
theorem ends_is {done : List ByteArray} {k : Int} {n j m : Nat} (hn : n ≤ done.length) (hlow : ∀ i, i < n → ∀ e, (endsL done)[i]? = some e → e ≤ k) (hend : n = done.length ∨ ∃ e, (endsL done)[n]? = some e ∧ k < e)
    (hm : k = (m : Int)) (hj : j ≤ done.length) (h1 : (leavesL (⟨#[]⟩ :: done.take j)).length ≤ m) (h2 : ∀ i, i ≤ done.length → (leavesL (⟨#[]⟩ :: done.take i)).length ≤ m → i ≤ j) : n = j := by
  have a1 : n ≤ j := by
    cases n with
    | zero => omega
    | succ n =>
      have := hlow n (by omega) _ (endsL_get (by omega))
      exact h2 _ hn (by omega)
  by_cases h : n = j
  · exact h
  · exfalso
    rcases hend with rfl | ⟨e, he, hk⟩
    · omega
    · rw [endsL_get (by omega)] at he
      simp only [Option.some.injEq] at he
      have := leavesL_mono ⟨#[]⟩ done (i := n + 1) (j := j) (by omega)
      omega
/-- A row of numbers of the call's own beside a journal and a row of texts. -/
structure SideI (w0 w : World) (J g b : Nat) (v va ve : Value) (es : List Int) : Prop where
  mr : IntRow w ve es
  lo : ∀ q ∈ ownL ve, w0.heap.size ≤ q
  nj : J ∉ ownL ve
  ng : g ∉ ownL ve
  nb : b ∉ ownL ve
  nv : ∀ q ∈ ownL v, q ∉ ownL ve
  na : ∀ q ∈ ownL va, q ∉ ownL ve
theorem SideI.nil (w0 w : World) (J g b : Nat) (v va : Value) : SideI w0 w J g b v va (.slice none 0 0) [] := ⟨Or.inl ⟨rfl, rfl⟩, by simp [ownL_nil], by simp [ownL_nil], by simp [ownL_nil], by simp [ownL_nil], by simp [ownL_nil], by simp [ownL_nil]⟩
theorem SideI.low {w0 w w' : World} {J g b : Nat} {v va ve : Value} {es : List Int} (h : SideI w0 w J g b v va ve es) (k : Below w.heap.size w w') : SideI w0 w' J g b v va ve es := ⟨h.mr.low k, h.lo, h.nj, h.ng, h.nb, h.nv, h.na⟩
theorem SideI.add {w0 w w' : World} {J g b : Nat} {v v' va ve : Value} {es : List Int} (h : SideI w0 w J g b v va ve es) (k : Only (J :: g :: b :: ownL v) w w') (hq : ∀ q ∈ ownL v', q ∈ ownL v ∨ w.heap.size ≤ q) : SideI w0 w' J g b v' va ve es := by
  have hlt := h.mr.lt
  refine ⟨h.mr.keep k (fun q hq hm => ?_), h.lo, h.nj, h.ng, h.nb, fun q hq2 hm => ?_, h.na⟩
  · rcases List.mem_cons.mp hm with rfl | hm
    · exact h.nj hq
    rcases List.mem_cons.mp hm with rfl | hm
    · exact h.ng hq
    rcases List.mem_cons.mp hm with rfl | hm
    · exact h.nb hq
    · exact h.nv _ hm hq
  · have := hlt q hm
    rcases hq q hq2 with h1 | h1
    · exact h.nv _ h1 hm
    · omega
/-- The row of texts took one. -/
theorem SideI.push {w0 w w1 w' : World} {J g b : Nat} {v va va' ve : Value} {es : List Int} (h : SideI w0 w J g b v va ve es) (k : Below w.heap.size w w1) (ho : Only (ownL va) w1 w') (hq : ∀ q ∈ ownL va', q ∈ ownL va ∨ w1.heap.size ≤ q) : SideI w0 w' J g b v va' ve es := by
  have hlt := h.mr.lt
  have hs := k.size
  refine ⟨(h.mr.low k).keep ho (fun q hq hm => h.na q hm hq), h.lo, h.nj, h.ng, h.nb, h.nv, fun q h1 hm => ?_⟩
  have := hlt q hm
  rcases hq q h1 with h2 | h2
  · exact h.na _ h2 hm
  · omega
/-- The row of numbers took one. -/
theorem SideI.more {w0 w w1 w' : World} {J g b : Nat} {v va ve ve' : Value} {all : List ByteArray} {es es' : List Int} {n : Nat} {r : Int} {L : List Rl} {s : ByteArray} {p : Int} {kk : Bool} {first : ByteArray} {recs : List ByteArray} (h : SideI w0 w J g b v va ve es) (S : Side w0 w J g b v va all) (H : JL w0 w J g b v n r L s p kk first recs) (k : Below w.heap.size w w1) (ho : Only (ownL ve) w1 w') (hm : IntRow w' ve' es') (hq : ∀ q ∈ ownL ve', q ∈ ownL ve ∨ w1.heap.size ≤ q) :
    SideI w0 w' J g b v va ve' es' ∧ Side w0 w' J g b v va all ∧ JL w0 w' J g b v n r L s p kk first recs := by
  have H1 := H.low k
  have S1 := S.low k
  have hJ := H1.js.j.lt
  have hg := H1.js.ch.1.ltg
  have hb := H1.js.ch.1.ltb
  have hv := H1.js.j.mr.lt
  have ha := S1.mr.lt
  have h0 := H1.js.ch.2.1.size
  refine ⟨⟨hm, fun q h2 => ?_, fun h2 => ?_, fun h2 => ?_, fun h2 => ?_, fun q h1 h2 => ?_, fun q h1 h2 => ?_⟩, ⟨S1.mr.keep ho (fun q hq => h.na q hq), S.lo, S.nj, S.ng, S.nb, S.nv⟩, H1.aside ho h.nj h.ng h.nb (fun q hq => h.nv q hq) h.lo⟩
  · rcases hq _ h2 with h3 | h3
    · exact h.lo _ h3
    · omega
  · rcases hq _ h2 with h3 | h3
    · exact h.nj h3
    · omega
  · rcases hq _ h2 with h3 | h3
    · exact h.ng h3
    · omega
  · rcases hq _ h2 with h3 | h3
    · exact h.nb h3
    · omega
  · have := hv q h1
    rcases hq _ h2 with h3 | h3
    · exact h.nv _ h1 h3
    · omega
  · have := ha q h1
    rcases hq _ h2 with h3 | h3
    · exact h.na _ h1 h3
    · omega
/-- The front of a row. -/
theorem MidRow.front {w : World} {a : Option Addr} {c : Nat} {ss : List ByteArray} (h : MidRow w (.slice a ss.length c) ss) {n : Nat} (hn : n ≤ ss.length) : RowAt w a ((ss.take n).map .string) := by
  have hr := h.row
  rcases hr with hr | ⟨b, o, rfl, hb, hc⟩
  · have : ss = [] := by simpa using hr
    subst this
    exact Or.inl (by simp)
  · refine Or.inr ⟨b, o, rfl, hb, fun j u hj => hc j u ?_⟩
    rw [List.getElem?_map] at hj ⊢
    cases h : (ss.take n)[j]? with
    | none => rw [h] at hj; simp at hj
    | some x =>
      rw [h] at hj
      have hjn : j < n := by
        have := (List.getElem?_eq_some_iff.1 h).1
        rw [List.length_take] at this; omega
      rw [List.getElem?_take, if_pos hjn] at h
      rw [h]; exact hj
end Go.Proofs.YtjblbjamceloaaaGreatDoor

/- A row of numbers that begins anywhere in a block of its own; append to it. ChiefJoins, plain: one that asks in is added behind the end of all leases; once it has learnt it is as the others. A row of numbers beside a chief; what holds between two that come in. ChiefJoins: the walk. -/
import Derived.Test.YthiphdcbboapkaaGreatDoorNC
import Derived.Test.YthiphdcbboapkaaGreatDoorH8
import Derived.Test.YthiphdcbboapkaaGreatDoorH7
namespace Go.Proofs.YthiphdcbboapkaaGreatDoor
open Go.RowKit

theorem Tryz.infoInt : (Tryz.prog.info? 3).map (fun i => (i.zero, i.size, i.bytes)) = some (some (.int .i64 0), 1, 8) := by kernel_rfl
theorem infoInt' : ∃ i, Tryz.prog.info? 3 = some i ∧ i.zero = some (.int .i64 0) ∧ i.size = 1 ∧ i.bytes = 8 := by
  have h := Tryz.infoInt
  cases hi : Tryz.prog.info? 3 with
  | none => rw [hi] at h; simp at h
  | some i =>
    rw [hi] at h
    simp only [Option.map_some, Option.some.injEq, Prod.mk.injEq] at h
    exact ⟨i, rfl, h.1, h.2.1, h.2.2⟩
/-- A row of numbers, with room behind it, somewhere in a block. -/
def IntRow (w : World) (v : Value) (ss : List Int) : Prop :=
  (v = .slice none 0 0 ∧ ss = []) ∨ ∃ q o cap, v = .slice (some ⟨q, o, none⟩) ss.length cap ∧ ss.length ≤ cap ∧ cap ≤ maxLen ∧ q < w.heap.size ∧ (∀ j s, ss[j]? = some s → w.cell? ⟨q, o + j, none⟩ = some (.int .i64 s)) ∧
    ∀ j, j < cap → (w.cell? ⟨q, o + j, none⟩).isSome = true ∧ w.frozen? ⟨q, o + j, none⟩ = false
theorem IntRow.lt {w : World} {v : Value} {ss : List Int} (h : IntRow w v ss) : ∀ q ∈ ownL v, q < w.heap.size := by
  rcases h with ⟨rfl, _⟩ | ⟨q, o, cap, rfl, _, _, hq, _⟩
  · intro q hq; simp [ownL_nil] at hq
  · intro q' hq'; rw [ownL_some] at hq'; simp at hq'; omega
theorem IntRow.keep {S : List Nat} {w w' : World} {v : Value} {ss : List Int} (h : IntRow w v ss) (k : Only S w w') (hn : ∀ q ∈ ownL v, q ∉ S) : IntRow w' v ss := by
  rcases h with h | ⟨q, o, cap, rfl, h1, h2, hq, h3, h4⟩
  · exact Or.inl h
  · have hqs : q ∉ S := hn q (by rw [ownL_some]; simp)
    refine Or.inr ⟨q, o, cap, rfl, h1, h2, Nat.lt_of_lt_of_le hq k.size, fun j s hj => k.cellK (p := ⟨q, o + j, none⟩) hqs (h3 j s hj), fun j hj => ?_⟩
    have := h4 j hj
    rw [k.cell (p := ⟨q, o + j, none⟩) hq hqs, k.frozen (p := ⟨q, o + j, none⟩) hq hqs]
    exact this
theorem IntRow.form {w : World} {v : Value} {ss : List Int} (h : IntRow w v ss) : ∃ a c, v = .slice a ss.length c := by
  rcases h with ⟨rfl, rfl⟩ | ⟨q, o, cap, rfl, _⟩
  · exact ⟨_, _, rfl⟩
  · exact ⟨_, _, rfl⟩
theorem IntRow.row {w : World} {a : Option Addr} {c : Nat} {ss : List Int} (h : IntRow w (.slice a ss.length c) ss) : RowAt w a (ss.map (.int .i64)) := by
  rcases h with ⟨_, rfl⟩ | ⟨q, o, cap, e, h1, h2, hq, h3, h4⟩
  · exact Or.inl rfl
  · simp only [Value.slice.injEq] at e
    refine Or.inr ⟨q, o, e.1, hq, fun j u hu => ?_⟩
    rw [List.getElem?_map] at hu
    cases hj : ss[j]? with
    | none => rw [hj] at hu; simp at hu
    | some s =>
      rw [hj] at hu
      simp at hu
      rw [← hu]; exact h3 j s hj
/-- One more number behind a row. -/
theorem IntRow.append {w : World} {v : Value} {ss : List Int} (h : IntRow w v ss) (s : Int) (b : Nat) (hb : w.cell? ⟨b, 0, none⟩ = some (.int .i64 s)) (hl : ss.length < 1000000) (ty : TypeId) :
    ∃ v' w', (Builtin.append_ #[22, 22] ty #[v, .slice (some ⟨b, 0, none⟩) 1 1]).run Tryz.prog w = .ok v' w' ∧ IntRow w' v' (ss ++ [s]) ∧ Only (ownL v) w w' ∧ (∀ q ∈ ownL v', q ∈ ownL v ∨ w.heap.size ≤ q) := by
  obtain ⟨i, hi, hz, hsz, hby⟩ := infoInt'
  have hnew : ∀ j u, [Value.int .i64 s][j]? = some u → w.cell? ((⟨b, 0, none⟩ : Addr).add j) = some u := fun j u hu => by
    have hj : j = 0 := by
      have := (List.getElem?_eq_some_iff.1 hu).1
      simpa using this
    subst hj
    rw [addr_add, Nat.zero_add]
    simp at hu
    rw [← hu]; exact hb
  rcases h with ⟨rfl, rfl⟩ | ⟨q, o, cap, rfl, h1, h2, hq, h3, h4⟩
  · obtain ⟨v', w', hr, hown, hg, -⟩ := run_append_own (P := Tryz.prog) w w.heap.size 22 ty 3 i (.int .i64 0) 1 8 Tryz.underlying22 hi hz hsz hby rfl (by decide) _ 0 [] (World.ownsRow_nil w _ _ _) ⟨b, 0, none⟩ 1 1 [.int .i64 s] rfl hnew (by simp [Value.oneCell']) (by unfold maxLen; omega) (by omega) (Nat.le_refl _)
    refine ⟨v', w', hr, ?_, ⟨hg.os, hg.tape, hg.output, hg.size, fun k hk _ => hg.block k hk (by simp [Value.ownBlock])⟩, ?_⟩
    · rcases hown.2 with ⟨_, hn⟩ | ⟨g, cap, cur, rfl, hbg, hblk, hn, hm, hcs, htk⟩
      · omega
      · refine Or.inr ⟨g, 0, cap, rfl, hn, hm, (Array.getElem?_eq_some_iff.1 hblk).1, fun j u hj => ?_, fun j hj => ?_⟩
        · have hj0 : j = 0 := by
            have := (List.getElem?_eq_some_iff.1 hj).1
            simpa using this
          subst hj0
          simp at hj
          subst hj
          rw [cell_of_row _ _ _ _ _ _ hblk]
          have : cur.toList.take 1 = [Value.int .i64 s] := by simpa using htk
          have h0 : cur.toList[0]? = some (Value.int .i64 s) := by
            have := congrArg (·[0]?) this
            simpa using this
          simpa using h0
        · have hlt : j < cur.size := by omega
          refine ⟨?_, ?_⟩
          · rw [cell_of_row _ _ _ _ _ _ hblk]; simp [hlt]
          · simp [World.frozen?, hblk]
    · intro q hq
      rcases hown.2 with ⟨_, hn⟩ | ⟨g, cap, cur, rfl, hbg, -⟩
      · omega
      · rw [ownL_some] at hq; simp at hq; exact Or.inr (by omega)
  · by_cases hroom : ss.length + 1 ≤ cap
    · have hc := h4 ss.length (by omega)
      have hr := run_append_room_cells (P := Tryz.prog) w 22 ty 3 i Tryz.underlying22 hi q o ss.length cap ⟨b, 0, none⟩ 1 1 [.int .i64 s] (by rw [hsz]; rfl) hnew (by simp [Value.oneCell']) hroom
        (fun j hj => by
          have hj0 : j = 0 := by simpa using hj
          subst hj0
          rw [hsz, Nat.mul_one, Nat.add_zero]; exact hc.1)
        (fun j hj => by
          have hj0 : j = 0 := by simpa using hj
          subst hj0
          rw [hsz, Nat.mul_one, Nat.add_zero]; exact hc.2)
      rw [hsz, Nat.mul_one] at hr
      have ew : w.setCells q (o + ss.length) [.int .i64 s] = w.setCell ⟨q, o + ss.length, none⟩ (.int .i64 s) := rfl
      rw [ew] at hr
      have ho : Only [q] w (w.setCell ⟨q, o + ss.length, none⟩ (.int .i64 s)) := (Only.refl _ _).setCell (Or.inl (by simp)) _
      refine ⟨_, _, hr, ?_, ho, fun q' hq' => Or.inl hq'⟩
      refine Or.inr ⟨q, o, cap, by simp, by simpa using hroom, h2, by simpa using hq, fun j u hj => ?_, fun j hj => ?_⟩
      · by_cases e : j = ss.length
        · subst e
          simp at hj
          subst hj
          exact set_same hc.1
        · have hj2 : ss[j]? = some u := by
            rw [List.getElem?_append] at hj
            split at hj
            · exact hj
            · rename_i hge
              exfalso
              have : j - ss.length ≠ 0 := by omega
              have := (List.getElem?_eq_some_iff.1 hj).1
              simp at this; omega
          rw [World.cell?_setCell_other _ _ _ _ (by intro q2; have := congrArg Addr.off q2; simp at this; omega)]
          exact h3 j u hj2
      · have h5 := h4 j hj
        refine ⟨?_, by rw [World.frozen?_setCell]; exact h5.2⟩
        by_cases e : j = ss.length
        · subst e; rw [set_same hc.1]; rfl
        · rw [World.cell?_setCell_other _ _ _ _ (by intro q2; have := congrArg Addr.off q2; simp at this; omega)]; exact h5.1
    · obtain ⟨v', w', hr, hown, hg⟩ := run_append_arg_grows (P := Tryz.prog) w 22 ty 3 i (.int .i64 0) 1 8 Tryz.underlying22 hi hz hsz hby rfl (by decide) ⟨q, o, none⟩ ss.length cap (ss.map (.int .i64)) (by simp)
        (fun j u hu => by
          rw [addr_add]
          rw [List.getElem?_map] at hu
          cases hj : ss[j]? with
          | none => rw [hj] at hu; simp at hu
          | some s' =>
            rw [hj] at hu
            simp at hu
            rw [← hu]; exact h3 j s' hj) ⟨b, 0, none⟩ 1 1 [.int .i64 s] rfl hnew (by omega) (by unfold maxLen; omega) (by omega)
      refine ⟨v', w', hr, ?_, ⟨hg.os, hg.tape, hg.output, hg.size, fun k hk _ => hg.block k hk (by simp)⟩, ?_⟩
      · rcases hown.2 with ⟨_, hn⟩ | ⟨g, cap', cur, rfl, hbg, hblk, hn, hm, hcs, htk⟩
        · omega
        · refine Or.inr ⟨g, 0, cap', by simp, by simpa using hn, hm, (Array.getElem?_eq_some_iff.1 hblk).1, fun j u hj => ?_, fun j hj => ?_⟩
          · rw [Nat.zero_add, cell_of_row _ _ _ _ _ _ hblk]
            have hlt : j < (ss ++ [s]).length := (List.getElem?_eq_some_iff.1 hj).1
            have e1 : (ss.map (Value.int .i64) ++ [.int .i64 s])[j]? = some (.int .i64 u) := by
              have : ss.map (Value.int .i64) ++ [.int .i64 s] = (ss ++ [s]).map (Value.int .i64) := by simp
              rw [this, List.getElem?_map, hj]; rfl
            have e2 : cur.toList.take (ss.length + 1) = ss.map (Value.int .i64) ++ [.int .i64 s] := by simpa using htk
            rw [← e2, List.getElem?_take] at e1
            have hlt2 : j < ss.length + 1 := by simpa using hlt
            rw [if_pos hlt2] at e1
            simpa using e1
          · have hlt : j < cur.size := by omega
            refine ⟨?_, ?_⟩
            · rw [Nat.zero_add, cell_of_row _ _ _ _ _ _ hblk]; simp [hlt]
            · simp [World.frozen?, hblk]
      · intro q' hq'
        rcases hown.2 with ⟨_, hn⟩ | ⟨g, cap', cur, rfl, hbg, -⟩
        · omega
        · rw [ownL_some] at hq'; simp at hq'; exact Or.inr (by omega)
/-- One more number behind a row, at the operation. -/
theorem wpList_moreI {w : World} {ops : Array Oper} {rest : List Oper} {o : Oper} {a : Act} {Q : Exit → Act → World → Prop} (hg : o.guard = none) (s x : Operand)
    (ho : o.op = .call { callee := .builtin .append, args := #[s, x], argTypes := #[22, 22] }) (v : Value) (ss : List Int) (hs : a.eval s = v) (hm : IntRow w v ss) (u : Int) (b : Nat) (hx : a.eval x = .slice (some ⟨b, 0, none⟩) 1 1) (hb : w.cell? ⟨b, 0, none⟩ = some (.int .i64 u)) (hl : ss.length < 1000000)
    (hK : ∀ v' w', IntRow w' v' (ss ++ [u]) → Only (ownL v) w w' → (∀ q ∈ ownL v', q ∈ ownL v ∨ w.heap.size ≤ q) → wpList Tryz.prog ops Q rest (a.put o.dst v') w') : wpList Tryz.prog ops Q (o :: rest) a w := by
  refine wpList_plain hg fun K' hK' => ?_
  obtain ⟨v', w', hrun, r1, r2, r3⟩ := hm.append u b hb hl o.type
  unfold Oper.wp execOp
  simp only [ho, resolve, invoke, builtin, Sem.run_bind, Sem.run_pure, Result.andThen_ok, List.map_toArray, List.map_cons, List.map_nil, hs, hx, hrun]
  exact hK' _ _ (hK v' w' r1 r2 r3)
theorem IntRow.low {w w' : World} {v : Value} {ss : List Int} (h : IntRow w v ss) (k : Below w.heap.size w w') : IntRow w' v ss := h.keep (S := []) (Only.of_below k) (by simp)
/-- A row of one number, made anew. -/
theorem IntRow.one (w : World) (n : Int) (ty : TypeId) : IntRow (w.alloc (.cells #[.int .i64 n] ty)) (.slice (some ⟨w.heap.size, 0, none⟩) 1 1) [n] := by
  refine Or.inr ⟨w.heap.size, 0, 1, rfl, by simp, by unfold maxLen; omega, by simp, fun j s hj => ?_, fun j hj => ?_⟩
  · have hj0 : j = 0 := by
      have := (List.getElem?_eq_some_iff.1 hj).1
      simpa using this
    subst hj0
    simp at hj
    subst hj
    simp
  · obtain rfl : j = 0 := by omega
    simp
theorem IntRow.at {w : World} {a : Option Addr} {c : Nat} {es : List Int} (h : IntRow w (.slice a es.length c) es) {i : Nat} {e : Int} (hi : es[i]? = some e) : ∃ q o, a = some ⟨q, o, none⟩ ∧ w.cell? ⟨q, o + i, none⟩ = some (.int .i64 e) := by
  rcases h with ⟨_, h⟩ | ⟨q, o, cap, e', _, _, _, h3, _⟩
  · subst h; simp at hi
  · simp only [Value.slice.injEq] at e'
    exact ⟨q, o, e'.1, h3 i _ hi⟩
end Go.Proofs.YthiphdcbboapkaaGreatDoor
namespace Go.Proofs.YthiphdcbboapkaaGreatDoor
open Go.RowKit

/-- Between two that come. -/
structure Rest (ins : List Int) (t : Int) (S : St) : Prop where
  ok : OkS S t
  zs : S.zs = ins
  e : S.e = (ins.length : Int)
  nw : S.nw = 0
  e2 : S.e2 = 0
  asks : S.asks = 0
  lost : S.lost = false
  hd : ∀ m ∈ ins, t ≤ S.hd m
/-! phases: one that is in; one that asks; one that is to be; one that is -/
def PhI (ins : List Int) (n : Int) (S : St) : Prop := n ∈ ins ∧ S.zs = ins ∧ S.e = (ins.length : Int) ∧ S.nw = 0 ∧ S.e2 = 0 ∧ S.asks = 0
def PhQ (ins : List Int) (n : Int) (r s : Nat) (S : St) : Prop := n ∉ ins ∧ S.zs = ins ∧ S.e = (ins.length : Int) ∧ S.nw = 0 ∧ S.e2 = 0 ∧ S.asks = (if s = 0 then 0 else n) ∧ r ≤ 1
def PhW (ins : List Int) (n t0 : Int) (r : Nat) (S : St) : Prop := n ∉ ins ∧ S.zs = ins ∧ S.e = (ins.length : Int) ∧ S.nw = 0 ∧ S.e2 = (ins.length : Int) + 1 ∧ S.zs2 = ins ++ [n] ∧ S.nw2 = n ∧ S.un ≤ t0 + 7 ∧ 2 ≤ r ∧ r ≤ 7
def PhT (ins : List Int) (n t0 : Int) (r s : Nat) (S : St) : Prop := n ∉ ins ∧ S.zs = ins ++ [n] ∧ S.e = (ins.length : Int) + 1 ∧ S.nw = n ∧ S.e2 = 0 ∧ S.asks = 0 ∧ 3 ≤ r ∧ (s = r → t0 + (r : Int) ≤ S.hd n)
/-- In round r: so many members' beats done; s is the number of the newcomer's beats. -/
structure Jn (ins : List Int) (n t0 : Int) (r s j : Nat) (S : St) : Prop where
  ok : OkS S (t0 + (r : Int))
  lost : S.lost = false
  old : ∀ m ∈ S.zs, t0 ≤ S.hd m
  hd : ∀ i, i < j → t0 + (r : Int) ≤ S.hd (nthI ins i)
  ph : PhI ins n S ∨ PhQ ins n r s S ∨ PhW ins n t0 r S ∨ PhT ins n t0 r s S
theorem jn_start {ins : List Int} {n t0 : Int} {S : St} (h : Rest ins t0 S) : Jn ins n t0 0 0 ins.length S := by
  refine ⟨by simpa using h.ok, h.lost, fun m hm => h.hd m (h.zs ▸ hm), fun i hi => by have := h.hd _ (nthI_mem ins i hi); simpa using this, ?_⟩
  by_cases hn : n ∈ ins
  · exact Or.inl ⟨hn, h.zs, h.e, h.nw, h.e2, h.asks⟩
  · exact Or.inr (Or.inl ⟨hn, h.zs, h.e, h.nw, h.e2, by rw [if_pos rfl]; exact h.asks, by omega⟩)
theorem jn_tick {ins : List Int} {n t0 : Int} {r : Nat} {S : St} (hr : r + 1 ≤ 9) (h1 : 1 ≤ n) (h5 : n ≤ 5) (ht : 0 ≤ t0) (h : Jn ins n t0 r r ins.length S) : Jn ins n t0 (r + 1) r 0 (tickS S (t0 + ((r + 1 : Nat) : Int))) := by
  have hn : t0 + ((r + 1 : Nat) : Int) = t0 + (r : Int) + 1 := by omega
  have hmute : muteL S.zs S.hd (t0 + ((r + 1 : Nat) : Int)) = 0 := mute_none (fun i hi => by have := h.old i hi; omega)
  have hok' : OkS (tickS S (t0 + ((r + 1 : Nat) : Int))) (t0 + ((r + 1 : Nat) : Int)) := tickS_ok (h.ok.mono (by omega)) (by omega)
  have hidle : ∀ (S' : St), S.e2 = 0 → S.asks = 0 → tickS S (t0 + ((r + 1 : Nat) : Int)) = S' → S' = { S with lost := false } := fun S' a b c => by
    rw [← c]
    unfold tickS
    rw [if_neg (by omega), hmute, if_neg (by omega), if_neg (by omega)]
  obtain ⟨S', hS'⟩ : ∃ S', tickS S (t0 + ((r + 1 : Nat) : Int)) = S' := ⟨_, rfl⟩
  rw [hS'] at hok' ⊢
  rcases h.ph with ⟨p1, p2, p3, p4, p5, p6⟩ | ⟨p1, p2, p3, p4, p5, p6, p7⟩ | ⟨p1, p2, p3, p4, p5, p6, p7, p8, p9, p10⟩ | ⟨p1, p2, p3, p4, p5, p6, p7, p8⟩
  · obtain rfl := hidle S' p5 p6 hS'
    exact ⟨hok', rfl, h.old, fun i hi => absurd hi (by omega), Or.inl ⟨p1, p2, p3, p4, p5, p6⟩⟩
  · by_cases hr0 : r = 0
    · rw [if_pos hr0] at p6
      obtain rfl := hidle S' p5 p6 hS'
      exact ⟨hok', rfl, h.old, fun i hi => absurd hi (by omega), Or.inr (Or.inl ⟨p1, p2, p3, p4, p5, by rw [if_pos hr0]; exact p6, by omega⟩)⟩
    · rw [if_neg hr0] at p6
      have hmay := h.ok.may
      rw [p4] at hmay
      have hlen := (mayB_mayL hmay).2.2
      rw [p2] at hlen
      have hadd : addF S.e S.zs S.nw S.asks = (S.e + 1, S.zs ++ [n], n, true) := by
        rw [p4, p6]
        exact addF_yes hmay (by omega) (by rw [p2, idx_no p1]; omega) h1 h5
      have hS2 : S' = nextS { S with lost := false } (S.e + 1, S.zs ++ [n], n, true) := by
        rw [← hS', ← hadd]
        unfold tickS
        rw [if_neg (by omega), hmute, if_neg (by omega), if_pos (by omega)]
      have hu := h.ok.un.2
      subst hS2
      exact ⟨hok', rfl, h.old, fun i hi => absurd hi (by omega), Or.inr (Or.inr (Or.inl ⟨p1, p2, p3, p4, by show S.e + 1 = _; omega, by show S.zs ++ [n] = _; rw [p2], rfl, by show S.un ≤ _; omega, by omega, by omega⟩))⟩
  · by_cases hu : S.un < t0 + ((r + 1 : Nat) : Int)
    · have hS2 : S' = roundS S (t0 + ((r + 1 : Nat) : Int)) := by
        rw [← hS']
        unfold tickS
        rw [if_pos (by omega), if_pos hu]
      subst hS2
      refine ⟨hok', h.lost, fun m hm => ?_, fun i hi => absurd hi (by omega), Or.inr (Or.inr (Or.inr ⟨p1, p6, p5, p7, rfl, rfl, by omega, fun e => by omega⟩))⟩
      have hm2 : m ∈ S.zs2 := hm
      show t0 ≤ (if m ∈ S.zs2 then t0 + ((r + 1 : Nat) : Int) else 0)
      rw [if_pos hm2]; omega
    · have hS2 : S' = S := by
        rw [← hS']
        unfold tickS
        rw [if_pos (by omega), if_neg hu]
      subst hS2
      exact ⟨hok', h.lost, h.old, fun i hi => absurd hi (by omega), Or.inr (Or.inr (Or.inl ⟨p1, p2, p3, p4, p5, p6, p7, p8, by omega, by omega⟩))⟩
  · obtain rfl := hidle S' p5 p6 hS'
    exact ⟨hok', rfl, h.old, fun i hi => absurd hi (by omega), Or.inr (Or.inr (Or.inr ⟨p1, p2, p3, p4, p5, p6, by omega, fun e => by omega⟩))⟩
/-- What a beat of a member leaves. -/
theorem step_mem {S : St} {m ep now : Int} (hm : mayB S.e S.zs S.nw = true) (h : m ∈ S.zs) : stepS S 1 m 0 ep now = beatS S m now := by
  have h3 := (mayB_ok hm).2.2.2.2.1 m h
  unfold stepS
  rw [if_neg (by omega), if_pos rfl, if_neg (by have := idx_in h; omega)]
theorem beatS_same (S : St) (m now : Int) : (beatS S m now).zs = S.zs ∧ (beatS S m now).e = S.e ∧ (beatS S m now).nw = S.nw ∧ (beatS S m now).e2 = S.e2 ∧ (beatS S m now).zs2 = S.zs2 ∧ (beatS S m now).nw2 = S.nw2 ∧ (beatS S m now).asks = S.asks ∧ (beatS S m now).lost = S.lost ∧ (beatS S m now).hd = upd S.hd m now ∧ (0 < S.e2 → (beatS S m now).un = S.un) := by
  unfold beatS
  split
  · exact ⟨rfl, rfl, rfl, rfl, rfl, rfl, rfl, rfl, rfl, fun _ => rfl⟩
  · rename_i h; exact ⟨rfl, rfl, rfl, rfl, rfl, rfl, rfl, rfl, rfl, fun h2 => absurd h2 h⟩
theorem upd_ge {h : Int → Int} {m now c : Int} {i : Int} (hi : c ≤ h i) (hc : c ≤ now) : c ≤ upd h m now i := by
  unfold upd; split
  · exact hc
  · exact hi
theorem upd_self (h : Int → Int) (m now : Int) : upd h m now m = now := if_pos rfl
theorem Jn.ins_in {ins : List Int} {n t0 : Int} {r s j : Nat} {S : St} (h : Jn ins n t0 r s j S) {m : Int} (hm : m ∈ ins) : m ∈ S.zs := by
  rcases h.ph with p | p | p | p
  · rw [p.2.1]; exact hm
  · rw [p.2.1]; exact hm
  · rw [p.2.1]; exact hm
  · rw [p.2.1]; exact List.mem_append_left _ hm
theorem jn_beat {ins : List Int} {n t0 ep : Int} {r s j : Nat} {S : St} (ht : 0 ≤ t0) (hj : j < ins.length) (h : Jn ins n t0 r s j S) : Jn ins n t0 r s (j + 1) (stepS S 1 (nthI ins j) 0 ep (t0 + (r : Int))) := by
  have hin := h.ins_in (nthI_mem ins j hj)
  have hok' : OkS (stepS S 1 (nthI ins j) 0 ep (t0 + (r : Int))) (t0 + (r : Int)) := stepS_ok h.ok (by omega)
  rw [step_mem h.ok.may hin] at hok' ⊢
  obtain ⟨b1, b2, b3, b4, b5, b6, b7, b8, b9, b10⟩ := beatS_same S (nthI ins j) (t0 + (r : Int))
  refine ⟨hok', b8.trans h.lost, fun m hm => ?_, fun i hi => ?_, ?_⟩
  · rw [b9]; rw [b1] at hm; exact upd_ge (h.old m hm) (by omega)
  · rw [b9]
    by_cases e : i = j
    · subst e; rw [upd_self]; exact Int.le_refl _
    · exact upd_ge (h.hd i (by omega)) (Int.le_refl _)
  · rcases h.ph with ⟨p1, p2, p3, p4, p5, p6⟩ | ⟨p1, p2, p3, p4, p5, p6, p7⟩ | ⟨p1, p2, p3, p4, p5, p6, p7, p8, p9, p10⟩ | ⟨p1, p2, p3, p4, p5, p6, p7, p8⟩
    · exact Or.inl ⟨p1, b1.trans p2, b2.trans p3, b3.trans p4, b4.trans p5, b7.trans p6⟩
    · exact Or.inr (Or.inl ⟨p1, b1.trans p2, b2.trans p3, b3.trans p4, b4.trans p5, b7.trans p6, p7⟩)
    · exact Or.inr (Or.inr (Or.inl ⟨p1, b1.trans p2, b2.trans p3, b3.trans p4, b4.trans p5, b5.trans p6, b6.trans p7, by rw [b10 (by omega)]; exact p8, p9, p10⟩))
    · exact Or.inr (Or.inr (Or.inr ⟨p1, b1.trans p2, b2.trans p3, b3.trans p4, b4.trans p5, b7.trans p6, p7, fun e => by rw [b9]; exact upd_ge (p8 e) (Int.le_refl _)⟩))
theorem jn_ask {ins : List Int} {n t0 : Int} {r : Nat} {S : St} (h1 : 1 ≤ n) (h5 : n ≤ 5) (ht : 0 ≤ t0) (h : Jn ins n t0 (r + 1) r ins.length S) : Jn ins n t0 (r + 1) (r + 1) ins.length (stepS S 1 n 0 0 (t0 + ((r + 1 : Nat) : Int))) := by
  have hok' : OkS (stepS S 1 n 0 0 (t0 + ((r + 1 : Nat) : Int))) (t0 + ((r + 1 : Nat) : Int)) := stepS_ok h.ok (by omega)
  have hout : n ∉ S.zs → stepS S 1 n 0 0 (t0 + ((r + 1 : Nat) : Int)) = { S with asks := n } := fun hn => by
    unfold stepS
    rw [if_neg (by omega), if_pos rfl, if_pos (by rw [idx_no hn]; omega)]
  have hbt : n ∈ S.zs → stepS S 1 n 0 0 (t0 + ((r + 1 : Nat) : Int)) = beatS S n (t0 + ((r + 1 : Nat) : Int)) := fun hn => step_mem h.ok.may hn
  obtain ⟨b1, b2, b3, b4, b5, b6, b7, b8, b9, b10⟩ := beatS_same S n (t0 + ((r + 1 : Nat) : Int))
  have hold : ∀ m ∈ (beatS S n (t0 + ((r + 1 : Nat) : Int))).zs, t0 ≤ (beatS S n (t0 + ((r + 1 : Nat) : Int))).hd m := fun m hm => by
    rw [b9]; rw [b1] at hm; exact upd_ge (h.old m hm) (by omega)
  have hhd : ∀ i, i < ins.length → t0 + ((r + 1 : Nat) : Int) ≤ (beatS S n (t0 + ((r + 1 : Nat) : Int))).hd (nthI ins i) := fun i hi => by
    rw [b9]; exact upd_ge (h.hd i hi) (Int.le_refl _)
  rcases h.ph with ⟨p1, p2, p3, p4, p5, p6⟩ | ⟨p1, p2, p3, p4, p5, p6, p7⟩ | ⟨p1, p2, p3, p4, p5, p6, p7, p8, p9, p10⟩ | ⟨p1, p2, p3, p4, p5, p6, p7, p8⟩
  · rw [hbt (by rw [p2]; exact p1)] at hok' ⊢
    exact ⟨hok', b8.trans h.lost, hold, hhd, Or.inl ⟨p1, b1.trans p2, b2.trans p3, b3.trans p4, b4.trans p5, b7.trans p6⟩⟩
  · rw [hout (by rw [p2]; exact p1)] at hok' ⊢
    exact ⟨hok', h.lost, h.old, h.hd, Or.inr (Or.inl ⟨p1, p2, p3, p4, p5, by rw [if_neg (by omega)], p7⟩)⟩
  · rw [hout (by rw [p2]; exact p1)] at hok' ⊢
    exact ⟨hok', h.lost, h.old, h.hd, Or.inr (Or.inr (Or.inl ⟨p1, p2, p3, p4, p5, p6, p7, p8, p9, p10⟩))⟩
  · rw [hbt (by rw [p2]; simp)] at hok' ⊢
    refine ⟨hok', b8.trans h.lost, hold, hhd, Or.inr (Or.inr (Or.inr ⟨p1, b1.trans p2, b2.trans p3, b3.trans p4, b4.trans p5, b7.trans p6, p7, fun _ => ?_⟩))⟩
    rw [b9, upd_self]; exact Int.le_refl _
theorem jn_in {ins : List Int} {n t0 : Int} {S : St} (hn : n ∈ ins) (h : Jn ins n t0 9 9 ins.length S) : Rest ins (t0 + 9) S := by
  have hh : ∀ m ∈ ins, t0 + 9 ≤ S.hd m := fun m hm => by
    obtain ⟨i, hi, e⟩ := List.getElem_of_mem hm
    have h2 := h.hd i hi
    have h3 : nthI ins i = m := by unfold nthI; simp [List.getD, hi, e]
    rw [h3] at h2
    exact h2
  rcases h.ph with ⟨p1, p2, p3, p4, p5, p6⟩ | ⟨p1, _⟩ | ⟨p1, _⟩ | ⟨p1, _⟩
  · exact ⟨h.ok, p2, p3, p4, p5, p6, h.lost, hh⟩
  · exact absurd hn p1
  · exact absurd hn p1
  · exact absurd hn p1
theorem jn_new {ins : List Int} {n t0 : Int} {S : St} (h1 : 1 ≤ n) (h5 : n ≤ 5) (ht : 0 ≤ t0) (hn : n ∉ ins) (h : Jn ins n t0 9 9 ins.length S) :
    S.nw = n ∧ S.zs = ins ++ [n] ∧ S.e = (ins.length : Int) + 1 ∧ stepS S 11 n 0 (S.e - 1) (t0 + 9) = S ∧ Rest (ins ++ [n]) (t0 + 9) (stepS S 11 n 0 S.e (t0 + 9)) := by
  rcases h.ph with ⟨p1, _⟩ | ⟨_, _, _, _, _, _, p7⟩ | ⟨_, _, _, _, _, _, _, _, _, p10⟩ | ⟨p1, p2, p3, p4, p5, p6, p7, p8⟩
  · exact absurd p1 hn
  · omega
  · omega
  · have hok : OkS S (t0 + 9) := h.ok
    have hok' : OkS (stepS S 11 n 0 S.e (t0 + 9)) (t0 + 9) := stepS_ok hok (by omega)
    have e2 : stepS S 11 n 0 S.e (t0 + 9) = setR S S.e S.zs 0 := by
      unfold stepS
      rw [if_neg (by omega), if_neg (by omega), if_pos ⟨rfl, p4.symm, rfl, by omega⟩]
    refine ⟨p4, p2, p3, ?_, ?_⟩
    · unfold stepS
      rw [if_neg (by omega), if_neg (by omega), if_neg (fun hc => by have := hc.2.2.1; omega)]
    · rw [e2] at hok' ⊢
      refine ⟨hok', p2, by show S.e = _; rw [p3]; simp, rfl, p5, p6, h.lost, fun m hm => ?_⟩
      rcases List.mem_append.1 hm with hm | hm
      · obtain ⟨i, hi, e⟩ := List.getElem_of_mem hm
        have h2 := h.hd i hi
        have h3 : nthI ins i = m := by unfold nthI; simp [List.getD, hi, e]
        rw [h3] at h2
        exact h2
      · have := p8 rfl
        simp at hm; subst hm; exact this
theorem rest_new : Rest [1] 0 (newS 1 [1] 0) := ⟨newS_ok (by decide) (by decide), rfl, rfl, rfl, rfl, rfl, rfl, fun m hm => by simp at hm; subst hm; decide⟩
end Go.Proofs.YthiphdcbboapkaaGreatDoor
namespace Go.Proofs.YthiphdcbboapkaaGreatDoor
open Go.RowKit Go.Maps

set_option maxRecDepth 100000
/-- A chief and a row of numbers beside it. -/
structure JsW (w wr : World) (x : Nat) (S : St) (f : Ft) (v : Value) (ins : List Int) (k m : Nat) : Prop where
  ch : CH w wr x S f
  row : IntRow wr v ins
  nq : ∀ q ∈ ownL v, q ∉ foot x f
  lo : ∀ q ∈ ownL v, w.heap.size ≤ q
  kk : S.k ≤ k
  mm : S.m ≤ m
theorem JsW.low {w wr w' : World} {x : Nat} {S : St} {f : Ft} {v : Value} {ins : List Int} {k m : Nat} (h : JsW w wr x S f v ins k m) (hb : Below wr.heap.size wr w') : JsW w w' x S f v ins k m :=
  ⟨h.ch.low hb, h.row.low hb, h.nq, h.lo, h.kk, h.mm⟩
theorem JsW.more {w wr : World} {x : Nat} {S : St} {f : Ft} {v : Value} {ins : List Int} {k m k' m' : Nat} (h : JsW w wr x S f v ins k m) (hk : k ≤ k') (hm : m ≤ m') : JsW w wr x S f v ins k' m' :=
  ⟨h.ch, h.row, h.nq, h.lo, Nat.le_trans h.kk hk, Nat.le_trans h.mm hm⟩
theorem JsW.post {w wr w' : World} {x : Nat} {S S' : St} {f f' : Ft} {v : Value} {ins : List Int} {k m k' m' : Nat} (h : JsW w wr x S f v ins k m) (hp : PostF w wr x f S' f' w') (hk : S'.k ≤ k') (hm : S'.m ≤ m') : JsW w w' x S' f' v ins k' m' where
  ch := hp.ch
  row := h.row.keep hp.only (fun q hq hm => h.nq q hq (own_foot hm))
  nq := fun q hq hm => hp.aside (T := [q]) (fun i hi hj => by simp at hj; subst hj; exact h.nq i hq hi) (fun i hi => by simp at hi; subst hi; exact h.row.lt i hq) q hm (by simp)
  lo := h.lo
  kk := hk
  mm := hm
/-- One number more in the row. -/
theorem JsW.push {w wr w1 w' : World} {x : Nat} {S : St} {f : Ft} {v v' : Value} {ins ins' : List Int} {k m : Nat} (h : JsW w wr x S f v ins k m) (hb : Below wr.heap.size wr w1) (ho : Only (ownL v) w1 w') (hm : IntRow w' v' ins') (hq : ∀ q ∈ ownL v', q ∈ ownL v ∨ w1.heap.size ≤ q) : JsW w w' x S f v' ins' k m := by
  have h1 := h.low hb
  have hsz := h1.ch.below.size
  refine ⟨h1.ch.keep ho (fun q hf hm => h.nq q hm hf) h.lo, hm, fun q hv hf => ?_, fun q hv => ?_, h.kk, h.mm⟩
  · rcases hq q hv with h2 | h2
    · exact h.nq q h2 hf
    · have := h1.ch.lt q hf; omega
  · rcases hq q hv with h2 | h2
    · exact h.lo q h2
    · omega
/-- Is it in it? -/
def hasB (ins : List Int) (n : Int) (k : Nat) : Bool := decide (n ∈ ins.take k)
theorem hasB_zero (ins : List Int) (n : Int) : hasB ins n 0 = false := by simp [hasB]
theorem hasB_next {ins : List Int} {n : Int} {k : Nat} (h : k < ins.length) : hasB ins n (k + 1) = (hasB ins n k || decide (nthI ins k = n)) := by
  unfold hasB nthI
  rw [List.take_succ_eq_append_getElem h]
  simp only [List.mem_append, List.mem_singleton, List.getD_eq_getElem?_getD, List.getElem?_eq_getElem h, Option.getD_some]
  by_cases h1 : n ∈ ins.take k
  · simp [h1]
  · simp [h1, eq_comm]
theorem hasB_all (ins : List Int) (n : Int) : hasB ins n ins.length = decide (n ∈ ins) := by simp [hasB]
theorem nthI_get {ins : List Int} {k : Nat} (h : k < ins.length) : ins[k]? = some (nthI ins k) := by simp [nthI, List.getD, h]
theorem rest_len {ins : List Int} {t : Int} {S : St} (h : Rest ins t S) : 1 ≤ ins.length ∧ ins.length ≤ 5 := by
  have := (mayB_mayL h.ok.may).2
  rw [h.zs] at this
  exact this
theorem jn_bud {S : St} {T : Int} (h : OkS S T) (now : Int) : (tickS S now).k ≤ S.k + 1 ∧ (tickS S now).m ≤ S.m + 5 := by
  have h1 := tickS_k S now
  have h2 := lo_k h
  omega
end Go.Proofs.YthiphdcbboapkaaGreatDoor
namespace Go.Proofs.YthiphdcbboapkaaGreatDoor
open Go.RowKit Go.Maps

set_option maxRecDepth 100000
set_option maxHeartbeats 25600000 in
theorem chiefJoins_walk (a : Option Addr) (c : Nat) (L : List Int) (w : World) (hz : IntsAt w a L) (LA : Laid w) : Calls Tryz.prog 9 #[.slice a L.length c] w fun e w' => e = .returned (.bool true) ∧ Below w.heap.size w w' := by
  have HL := Lib.hid LA
  have HZ := Lib.hid hz
  clear LA hz
  go_enter Tryz.func9, Tryz.ntmps9
  go_wp2_with fail
  refine (begun10_any _ HL.out).mono ?_
  rintro e w1 ⟨rfl, hb⟩
  have HB1 := Lib.hid hb
  clear hb
  go_wp2_with fail
  refine (new_S (w0 := w) HB1.out 1048576 1048576 (by decide)).mono ?_
  rintro e w2 ⟨g, b, rfl, hs, -, -, -⟩
  have HCs := Lib.hid hs
  clear hs
  go_wp2_with fail
  have hb3 := below_alloc (Below.refl w2.heap.size w2) (.cells #[.int .i64 1] 3)
  refine (chopen_is HL.out (HCs.out.low hb3) (zs := [1]) (n := 1) rfl (e := 1) (by decide) (ints_litW w2 [1] 3) (fun q hq => by
    have h1 := HCs.out.1.ltg
    have h2 := HCs.out.1.ltb
    simp [rowB] at hq
    omega) (now := 0) (fitI_of (by omega))).mono ?_
  rintro e w3 ⟨x, f, rfl, hc, -⟩
  have HI : Hid (JsW w (w3.alloc (.cells #[.int .i64 1] 3)) x (newS 1 [1] 0) f (.slice (some ⟨w3.heap.size, 0, none⟩) 1 1) [1] 1 10) := Lib.hid (by
    have h1 := hc.below.size
    refine ⟨hc.low (below_alloc (Below.refl _ _) _), IntRow.one _ _ _, fun q hq hf => ?_, fun q hq => ?_, by decide, by decide⟩
    · rw [ownL_some] at hq; simp at hq; have := hc.lt q hf; omega
    · rw [ownL_some] at hq; simp at hq; omega)
  clear hc hb3 HCs HB1
  go_wp2_with fail
  go_loopw [6, 7, 8] (fun n6 n7 n8 wr => ∃ (i : Nat) (t : Int) (ins : List Int) (a' : Option Addr) (c' : Nat) (S : St) (f : Ft), n6 = .int .i64 t ∧ n7 = .slice a' ins.length c' ∧ n8 = .int .i64 (i : Int) ∧ i ≤ L.length ∧ i ≤ 6 ∧ t = 9 * (i : Int) ∧ Rest ins t S ∧ JsW w wr x S f (.slice a' ins.length c') ins (1 + 20 * i) (10 + 200 * i)) (fun _ _ n8 _ => 7 - (intOf n8).toNat)
  case atStart => exact ⟨0, 0, [1], _, _, _, f, rfl, rfl, rfl, Nat.zero_le _, by decide, by decide, rest_new, HI.out⟩
  case round =>
    obtain ⟨i, t, ins, a', c', S, f2, rfl, rfl, rfl, hi, hi6, ht, hrest, hj⟩ := hrel
    have HR := Lib.hid hrest
    have HJ := Lib.hid hj
    have HT := Lib.hid ht
    have ht0 : 0 ≤ t := by omega
    have ht54 : t ≤ 54 := by omega
    clear hrest hj HI ht
    by_cases hlt : i < L.length ∧ i < 6
    · obtain ⟨hlt, h6⟩ := hlt
      have p1 : decide ((i : Int) < (L.length : Int)) = true := decide_eq_true (by omega)
      have p2 : decide ((i : Int) < 6) = true := decide_eq_true (by omega)
      rcases HZ.out with h | ⟨q, o, rfl, hq, hcs⟩
      · exfalso; rw [h] at hlt; simp at hlt
      have hv0 := hcs i hlt
      have hv1 : wr.cell? ⟨q, o + i, none⟩ = some (.int .i64 (nthI L i)) := cell_keep HJ.out.ch.below hv0
      obtain ⟨d, j, m1, m2, m3, m4, m5, m6, m7, m8⟩ := five (nthI L i)
      obtain ⟨n, hn⟩ : ∃ n, 1 + j = n := ⟨_, rfl⟩
      have n1 : IntKind.i64.wrap (d + 5) = d + 5 := IntWalk.i64_in _ (by omega)
      have n2 : IntKind.i64.wrap (1 + j) = n := (IntWalk.i64_in _ (by omega)).trans hn
      have n3 : IntKind.i64.wrap d = d := IntWalk.i64_in _ (by omega)
      have n4 : IntKind.i64.wrap j = j := IntWalk.i64_in _ (by omega)
      have hn1 : 1 ≤ n := by omega
      have hn5 : n ≤ 5 := by omega
      have hrl := rest_len HR.out
      generalize nthI L i = vv at hv1 m1
      clear hcs hv0 hq
      go_wp2_with fail
      clear m1 m2 m3 m4 m5 m6 m7 m8 hn n1 n2 n3 n4 hv1 p1 p2
      go_loopw [10, 11] (fun n10 n11 wi => ∃ k : Nat, n10 = .bool (hasB ins n k) ∧ n11 = .int .i64 (k : Int) ∧ k ≤ ins.length ∧ JsW w wi x S f2 (.slice a' ins.length c') ins (1 + 20 * i) (10 + 200 * i)) (fun _ n11 _ => ins.length - (intOf n11).toNat)
      case atStart => exact ⟨0, congrArg Value.bool (hasB_zero ins n).symm, rfl, Nat.zero_le _, HJ.out⟩
      case round =>
        obtain ⟨k, rfl, rfl, hk, hj2⟩ := hrel
        have HJ2 := Lib.hid hj2
        clear hj2 HJ
        by_cases hkl : k < ins.length
        · have p3 : decide ((k : Int) < (ins.length : Int)) = true := decide_eq_true (by omega)
          obtain ⟨q2, o2, rfl, hc⟩ := HJ2.out.row.at (nthI_get hkl)
          have hw2 : IntKind.i64.wrap ((k : Int) + 1) = (k : Int) + 1 := IntWalk.i64_in _ (by omega)
          obtain ⟨hb, hhb⟩ : ∃ hb, hasB ins n k = hb := ⟨_, rfl⟩
          obtain ⟨he, hhe⟩ : ∃ he, (nthI ins k == n) = he := ⟨_, rfl⟩
          have HNx : Hid (hasB ins n (k + 1) = (hb || he)) := Lib.hid (by rw [hasB_next hkl, hhb, ← hhe]; rfl)
          rw [hhb]
          clear hhb
          cases hb with
          | true =>
            go_wp2_with fail
            go_roundw
            case rel => exact ⟨k + 1, by rw [HNx.out]; rfl, by go_num, by omega, HJ2.out⟩
            case measure => simp [intOf]; omega
          | false =>
            go_wp2_with fail
            go_roundw
            case rel => exact ⟨k + 1, by rw [HNx.out]; rfl, by go_num, by omega, HJ2.out⟩
            case measure => simp [intOf]; omega
        · obtain rfl : k = ins.length := by omega
          have p3 : decide ((ins.length : Int) < (ins.length : Int)) = false := decide_eq_false (by omega)
          obtain ⟨hs, hhs⟩ : ∃ hs, decide (n ∈ ins) = hs := ⟨_, rfl⟩
          rw [hasB_all, hhs]
          have HHs := Lib.hid hhs
          clear hhs hk hkl
          go_wp2_with fail
          clear p3
          go_loopw [6, 12] (fun n6 n12 wi => ∃ (r : Nat) (S : St) (f : Ft), n6 = .int .i64 (t + (r : Int)) ∧ n12 = .int .i64 (r : Int) ∧ r ≤ 9 ∧ Jn ins n t r r ins.length S ∧ JsW w wi x S f (.slice a' ins.length c') ins (1 + 20 * i + r) (10 + 200 * i + 11 * r)) (fun _ n12 _ => 9 - (intOf n12).toNat)
          case atStart => exact ⟨0, S, f2, by simp, rfl, by omega, jn_start HR.out, HJ2.out⟩
          case round =>
            obtain ⟨r, S3, f3, rfl, rfl, hr9, hjn, hj3⟩ := hrel
            have HN3 := Lib.hid hjn
            have HJ3 := Lib.hid hj3
            clear hjn hj3 HJ2 HR
            by_cases hr : r < 9
            · have p4 : decide ((r : Int) < 9) = true := decide_eq_true (by omega)
              have e1 : t + ((r + 1 : Nat) : Int) = t + (r : Int) + 1 := by omega
              have HE1 := Lib.hid e1
              have hw3 : IntKind.i64.wrap (t + (r : Int) + 1) = t + (r : Int) + 1 := IntWalk.i64_in _ (by omega)
              have hw4 : IntKind.i64.wrap ((r : Int) + 1) = (r : Int) + 1 := IntWalk.i64_in _ (by omega)
              have HTk := Lib.hid (tick_any HL.out HJ3.out.ch (HN3.out.ok.mono (show t + (r : Int) ≤ t + (r : Int) + 1 by omega)) (by omega) (by have := HJ3.out.kk; omega) (now := t + (r : Int) + 1) ⟨by omega, Int.le_refl _⟩)
              have hN4 := jn_tick (by omega) hn1 hn5 (by omega) HN3.out
              rw [e1] at hN4
              have hB4 := jn_bud HN3.out.ok (t + (r : Int) + 1)
              obtain ⟨S4, hS4⟩ : ∃ S4, tickS S3 (t + (r : Int) + 1) = S4 := ⟨_, rfl⟩
              rw [hS4] at HTk hN4 hB4
              have HN4 := Lib.hid hN4
              have HB4 := Lib.hid hB4
              clear hN4 hB4 hS4 e1
              go_wp2_with (go_at_call 20; refine HTk.out.mono ?_; rintro e' w5 ⟨rfl, f5, hp5, -⟩; have HJ5 : Hid (JsW w w5 x S4 f5 (.slice a' ins.length c') ins (1 + 20 * i + r + 1) (10 + 200 * i + 11 * r + 5)) := Lib.hid (HJ3.out.post hp5 (by have := HJ3.out.kk; have := HB4.out.1; omega) (by have := HJ3.out.mm; have := HB4.out.2; omega)); clear hp5)
              go_loopw [73] (fun n73 wm => ∃ (jj : Nat) (S : St) (f : Ft), n73 = .int .i64 (jj : Int) ∧ jj ≤ ins.length ∧ Jn ins n t (r + 1) r jj S ∧ JsW w wm x S f (.slice a' ins.length c') ins (1 + 20 * i + r + 1) (10 + 200 * i + 11 * r + 5 + jj)) (fun n73 _ => ins.length - (intOf n73).toNat)
              case atStart => exact ⟨0, S4, f5, rfl, Nat.zero_le _, HN4.out, HJ5.out⟩
              case round =>
                obtain ⟨jj, S6, f6, rfl, hjl, hjn6, hj6⟩ := hrel
                have HN6 := Lib.hid hjn6
                have HJ6 := Lib.hid hj6
                have hok6 : OkS S6 (t + (r : Int) + 1) := by rw [← HE1.out]; exact hjn6.ok
                have HO6 := Lib.hid hok6
                clear hjn6 hj6 HJ5 HN4 HTk HJ3 HN3 HB4 hok6
                by_cases hjt : jj < ins.length
                · have p5 : decide ((jj : Int) < (ins.length : Int)) = true := decide_eq_true (by omega)
                  obtain ⟨q4, o4, rfl, hc4⟩ := HJ6.out.row.at (nthI_get hjt)
                  have hw5 : IntKind.i64.wrap ((jj : Int) + 1) = (jj : Int) + 1 := IntWalk.i64_in _ (by omega)
                  have hl6 : S6.zs.length ≤ 5 := (mayB_mayL HO6.out.may).2.2
                  have hf0 := run_ros0
                  go_wp2_with fail
                  refine (chroster_is HJ6.out.ch rfl rfl rfl rfl hl6).mono ?_
                  rintro e7 w7 ⟨ra, rc, rfl, -, hb7⟩
                  have HJ7 := Lib.hid (HJ6.out.low hb7)
                  clear hb7
                  go_wp2_with fail
                  refine (step_any HL.out HJ7.out.ch HO6.out (by omega) (by have := HJ7.out.kk; omega) (by have := HJ7.out.mm; omega) (wd 1 (nthI ins jj) S6.e) (now := t + (r : Int) + 1) ⟨by omega, Int.le_refl _⟩).mono ?_
                  rintro e8 w8 ⟨v8, f8, rfl, hp8, -, -⟩
                  have hk8 := stepS_k S6 1 (nthI ins jj) 0 S6.e (t + (r : Int) + 1)
                  have HN8 : Hid (Jn ins n t (r + 1) r (jj + 1) (stepS S6 1 (nthI ins jj) 0 S6.e (t + (r : Int) + 1))) := Lib.hid (by rw [← HE1.out]; exact jn_beat (by omega) hjt HN6.out)
                  have HJ8 : Hid (JsW w w8 x (stepS S6 1 (nthI ins jj) 0 S6.e (t + (r : Int) + 1)) f8 (.slice (some ⟨q4, o4, none⟩) ins.length c') ins (1 + 20 * i + r + 1) (10 + 200 * i + 11 * r + 5 + (jj + 1))) := Lib.hid (HJ7.out.post hp8 (by have := HJ7.out.kk; have := hk8.2.2 (by decide); omega) (by have := HJ7.out.mm; have := hk8.2.1; omega))
                  clear hp8 hk8
                  go_wp2_with fail
                  go_roundw
                  case rel => exact ⟨jj + 1, _, f8, by go_num, by omega, HN8.out, HJ8.out⟩
                  case measure => simp [intOf]; omega
                · obtain rfl : jj = ins.length := by omega
                  have p5 : decide ((ins.length : Int) < (ins.length : Int)) = false := decide_eq_false (by omega)
                  go_wp2_with fail
                  refine (step_any HL.out HJ6.out.ch HO6.out (by omega) (by have := HJ6.out.kk; omega) (by have := HJ6.out.mm; omega) (wd 1 n 0) (now := t + (r : Int) + 1) ⟨by omega, Int.le_refl _⟩).mono ?_
                  rintro e8 w8 ⟨v8, f8, rfl, hp8, -, -⟩
                  have hk8 := stepS_k S6 1 n 0 0 (t + (r : Int) + 1)
                  have HN8 : Hid (Jn ins n t (r + 1) (r + 1) ins.length (stepS S6 1 n 0 0 (t + (r : Int) + 1))) := Lib.hid (by rw [← HE1.out]; exact jn_ask hn1 hn5 (by omega) HN6.out)
                  have HJ8 : Hid (JsW w w8 x (stepS S6 1 n 0 0 (t + (r : Int) + 1)) f8 (.slice a' ins.length c') ins (1 + 20 * i + (r + 1)) (10 + 200 * i + 11 * (r + 1))) := Lib.hid (HJ6.out.post hp8 (by have := HJ6.out.kk; have := hk8.2.2 (by decide); omega) (by have := HJ6.out.mm; have := hk8.2.1; omega))
                  clear hp8 hk8
                  go_wp2_with fail
                  go_roundw
                  case rel => exact ⟨r + 1, _, f8, by rw [HE1.out], by go_num, by omega, HN8.out, HJ8.out⟩
                  case measure => simp [intOf]; omega
            · obtain rfl : r = 9 := by omega
              have p4 : decide (((9 : Nat) : Int) < 9) = false := by decide
              have hw8 : IntKind.i64.wrap ((i : Int) + 1) = (i : Int) + 1 := IntWalk.i64_in _ (by omega)
              cases hs with
              | true =>
                have HR9 : Hid (Rest ins (t + 9) S3) := Lib.hid (jn_in (of_decide_eq_true HHs.out) HN3.out)
                go_wp2_with fail
                go_roundw
                case rel => exact ⟨i + 1, t + 9, ins, a', c', S3, f3, rfl, rfl, by go_num, by omega, by omega, by have := HT.out; omega, HR9.out, HJ3.out.more (by omega) (by omega)⟩
                case measure => simp [intOf]; omega
              | false =>
                obtain ⟨x1, x2, x3, x4, x5⟩ := jn_new hn1 hn5 (by omega) (of_decide_eq_false HHs.out) HN3.out
                have hl3 : S3.zs.length ≤ 5 := (mayB_mayL HN3.out.ok.may).2.2
                have hok9 : OkS S3 (t + 9) := HN3.out.ok
                have HO9 := Lib.hid hok9
                have pA : (S3.nw != n) = false := by simp [x1]
                have pB : ((S3.zs.length : Int) != (ins.length : Int) + 1) = false := by simp [x2]
                have pC : (S3.e != (ins.length : Int) + 1) = false := by simp [x3]
                have hw9 : IntKind.i64.wrap ((ins.length : Int) + 1) = (ins.length : Int) + 1 := IntWalk.i64_in _ (by omega)
                have hw10 : IntKind.i64.wrap (S3.e - 1) = S3.e - 1 := IntWalk.i64_in _ (by omega)
                have hf2 := run_ros2
                have HX4 := Lib.hid x4
                have HX5 := Lib.hid x5
                have hk5 := stepS_k S3 11 n 0 S3.e (t + 9)
                obtain ⟨S5, hS5⟩ : ∃ S5, stepS S3 11 n 0 S3.e (t + 9) = S5 := ⟨_, rfl⟩
                rw [hS5] at HX5 hk5
                have HS5 := Lib.hid hS5
                have HK5 := Lib.hid hk5
                clear x1 x2 x3 x4 x5 hok9 hS5 hk5
                go_wp2_with fail
                refine (chroster_is HJ3.out.ch rfl rfl rfl rfl hl3).mono ?_
                rintro e7 w7 ⟨ra, rc, rfl, -, hb7⟩
                have HX8 := Lib.hid (B3.new w7 (.int .i64 S3.e) (.slice ra S3.zs.length rc) (.int .i64 S3.nw) 24)
                have HJ8 := Lib.hid ((HJ3.out.low hb7).low (below_alloc (Below.refl _ _) (.cells #[.int .i64 S3.e, .slice ra S3.zs.length rc, .int .i64 S3.nw] 24)))
                have HNf : Hid (∀ q ∈ own x f3, ¬ (w7.heap.size = q)) := Lib.hid (fun q hq e => by have := (HJ3.out.low hb7).ch.lt q (own_foot hq); omega)
                clear hb7
                go_upto_region 30 with fail
                generalize w7.alloc (.cells #[.int .i64 S3.e, .slice ra S3.zs.length rc, .int .i64 S3.nw] 24) = W8 at HX8 HJ8 ⊢
                generalize w7.heap.size = r8 at HX8 HNf ⊢
                obtain ⟨y0, y1, y2, -⟩ := HX8.out
                have HY0 := Lib.hid y0
                go_wp2_with fail
                refine (step_any HL.out HJ8.out.ch HO9.out (by omega) (by have := HJ8.out.kk; omega) (by have := HJ8.out.mm; omega) (wd 11 n (S3.e - 1)) (now := t + 9) ⟨by omega, Int.le_refl _⟩).mono ?_
                rintro e8 w9 ⟨v8, f9, rfl, hp9, -, -⟩
                have hS9 : stepS S3 (wd 11 n (S3.e - 1)).kind (wd 11 n (S3.e - 1)).fr (wd 11 n (S3.e - 1)).tt (wd 11 n (S3.e - 1)).ep (t + 9) = S3 := HX4.out
                rw [hS9] at hp9
                have HJ9 := Lib.hid (HJ8.out.post hp9 HJ8.out.kk HJ8.out.mm)
                have y0' : w9.cell? ⟨r8, 0, none⟩ = some (.int .i64 S3.e) := hp9.only.cellK (p := ⟨r8, 0, none⟩) (fun hm => HNf.out r8 hm rfl) HY0.out
                have HY9 := Lib.hid y0'
                clear hp9 hS9 y0 y1 y2 y0' HX8 HY0 pB pC
                go_wp2_with fail
                refine (chroster_is HJ9.out.ch rfl rfl rfl rfl hl3).mono ?_
                rintro e10 w10 ⟨ra2, rc2, rfl, -, hb10⟩
                have HJ10 := Lib.hid (HJ9.out.low hb10)
                have y0 : w10.cell? ⟨r8, 0, none⟩ = some (.int .i64 S3.e) := cell_keep hb10 HY9.out
                clear hb10
                go_wp2_with fail
                refine (step_any HL.out HJ10.out.ch HO9.out (by omega) (by have := HJ10.out.kk; omega) (by have := HJ10.out.mm; omega) (wd 11 n S3.e) (now := t + 9) ⟨by omega, Int.le_refl _⟩).mono ?_
                rintro e11 w11 ⟨v11, f11, rfl, hp11, -, -⟩
                have hS11 : stepS S3 (wd 11 n S3.e).kind (wd 11 n S3.e).fr (wd 11 n S3.e).tt (wd 11 n S3.e).ep (t + 9) = S5 := HS5.out
                rw [hS11] at hp11
                have HJ11 : Hid (JsW w w11 x S5 f11 (.slice a' ins.length c') ins (1 + 20 * (i + 1)) (10 + 200 * (i + 1))) := Lib.hid (HJ10.out.post hp11 (by have := HJ10.out.kk; have := HK5.out.1; omega) (by have := HJ10.out.mm; have := HK5.out.2.1; omega))
                have hl11 : S5.zs.length ≤ 5 := (mayB_mayL HX5.out.ok.may).2.2
                have pD : (S5.nw != 0) = false := by simp [HX5.out.nw]
                clear hp11 hS11 y0 HY9 pA
                go_wp2_with fail
                refine (chroster_is HJ11.out.ch rfl rfl rfl rfl hl11).mono ?_
                rintro e12 w12 ⟨ra3, rc3, rfl, -, hb12⟩
                have HJ12 := Lib.hid (HJ11.out.low hb12)
                have HM : Hid (∀ o, IntRow (w12.alloc o) (.slice a' ins.length c') ins) := Lib.hid (fun o => HJ12.out.row.low (below_alloc (Below.refl _ _) _))
                have hl2 : Hid (ins.length < 1000000) := Lib.hid (by omega)
                clear hb12
                go_wp2_with (at_builtin; refine wpList_moreI rfl _ _ rfl (.slice a' ins.length c') ins rfl (HM.out _) n w12.heap.size rfl (by simp) hl2.out ?_; intro v' w13 hm ho hq; obtain ⟨a2', c2', rfl⟩ := hm.form; have HJ13 := Lib.hid (HJ12.out.push (below_alloc (Below.refl _ _) _) ho hm hq); clear hm ho hq)
                go_roundw
                case rel => exact ⟨i + 1, t + 9, ins ++ [n], a2', c2', S5, f11, rfl, by simp, by go_num, by omega, by omega, by have := HT.out; omega, HX5.out, HJ13.out⟩
                case measure => simp [intOf]; omega
    · have HLo : Hid ((S.lost && !decide (0 < S.e2)) = false) := Lib.hid (by rw [HR.out.lost]; rfl)
      by_cases h1 : i < L.length
      · have p1 : decide ((i : Int) < (L.length : Int)) = true := decide_eq_true (by omega)
        have p2 : decide ((i : Int) < 6) = false := decide_eq_false (by omega)
        clear hlt
        go_wp2_with (go_at_call 27; refine (lost_is HJ.out.ch HLo.out).mono ?_; rintro e' w' ⟨rfl, rfl⟩)
        go_ret
        exact ⟨rfl, HJ.out.ch.below⟩
      · have p1 : decide ((i : Int) < (L.length : Int)) = false := decide_eq_false (by omega)
        clear hlt
        go_wp2_with (go_at_call 27; refine (lost_is HJ.out.ch HLo.out).mono ?_; rintro e' w' ⟨rfl, rfl⟩)
        go_ret
        exact ⟨rfl, HJ.out.ch.below⟩
end Go.Proofs.YthiphdcbboapkaaGreatDoor

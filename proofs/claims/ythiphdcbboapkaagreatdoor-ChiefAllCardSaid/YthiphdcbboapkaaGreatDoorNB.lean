/- A row of texts that begins anywhere in a block of its own; append to it. A journal in memory. A journal in memory; walks of First, Records, told, writes, Press, Long. -/
import Derived.Test.YthiphdcbboapkaaGreatDoorNA
import Derived.ArgAppend
namespace Go.Proofs.YthiphdcbboapkaaGreatDoor
open Go.RowKit

theorem Tryz.infoStr : (Tryz.prog.info? 9).map (fun i => (i.zero, i.size, i.bytes)) = some (some (.string ⟨#[]⟩), 1, 16) := by kernel_rfl
theorem infoStr' : ∃ i, Tryz.prog.info? 9 = some i ∧ i.zero = some (.string ⟨#[]⟩) ∧ i.size = 1 ∧ i.bytes = 16 := by
  have h := Tryz.infoStr
  cases hi : Tryz.prog.info? 9 with
  | none => rw [hi] at h; simp at h
  | some i =>
    rw [hi] at h
    simp only [Option.map_some, Option.some.injEq, Prod.mk.injEq] at h
    exact ⟨i, rfl, h.1, h.2.1, h.2.2⟩
/-- A row of texts, with room behind it, somewhere in a block. -/
def MidRow (w : World) (v : Value) (ss : List ByteArray) : Prop :=
  (v = .slice none 0 0 ∧ ss = []) ∨ ∃ q o cap, v = .slice (some ⟨q, o, none⟩) ss.length cap ∧ ss.length ≤ cap ∧ cap ≤ maxLen ∧ q < w.heap.size ∧ (∀ j s, ss[j]? = some s → w.cell? ⟨q, o + j, none⟩ = some (.string s)) ∧
    ∀ j, j < cap → (w.cell? ⟨q, o + j, none⟩).isSome = true ∧ w.frozen? ⟨q, o + j, none⟩ = false
def ownL (v : Value) : List Nat := v.ownBlock.toList
theorem ownL_nil : ownL (.slice none 0 0) = [] := rfl
theorem ownL_some (q o n c : Nat) : ownL (.slice (some ⟨q, o, none⟩) n c) = [q] := rfl
theorem MidRow.lt {w : World} {v : Value} {ss : List ByteArray} (h : MidRow w v ss) : ∀ q ∈ ownL v, q < w.heap.size := by
  rcases h with ⟨rfl, _⟩ | ⟨q, o, cap, rfl, _, _, hq, _⟩
  · intro q hq; simp [ownL_nil] at hq
  · intro q' hq'; rw [ownL_some] at hq'; simp at hq'; omega
theorem MidRow.keep {S : List Nat} {w w' : World} {v : Value} {ss : List ByteArray} (h : MidRow w v ss) (k : Only S w w') (hn : ∀ q ∈ ownL v, q ∉ S) : MidRow w' v ss := by
  rcases h with h | ⟨q, o, cap, rfl, h1, h2, hq, h3, h4⟩
  · exact Or.inl h
  · have hqs : q ∉ S := hn q (by rw [ownL_some]; simp)
    refine Or.inr ⟨q, o, cap, rfl, h1, h2, Nat.lt_of_lt_of_le hq k.size, fun j s hj => k.cellK (p := ⟨q, o + j, none⟩) hqs (h3 j s hj), fun j hj => ?_⟩
    have := h4 j hj
    rw [k.cell (p := ⟨q, o + j, none⟩) hq hqs, k.frozen (p := ⟨q, o + j, none⟩) hq hqs]
    exact this
theorem MidRow.form {w : World} {v : Value} {ss : List ByteArray} (h : MidRow w v ss) : ∃ a c, v = .slice a ss.length c := by
  rcases h with ⟨rfl, rfl⟩ | ⟨q, o, cap, rfl, _⟩
  · exact ⟨_, _, rfl⟩
  · exact ⟨_, _, rfl⟩
theorem MidRow.row {w : World} {a : Option Addr} {c : Nat} {ss : List ByteArray} (h : MidRow w (.slice a ss.length c) ss) : RowAt w a (ss.map .string) := by
  rcases h with ⟨_, rfl⟩ | ⟨q, o, cap, e, h1, h2, hq, h3, h4⟩
  · exact Or.inl rfl
  · simp only [Value.slice.injEq] at e
    refine Or.inr ⟨q, o, e.1, hq, fun j u hu => ?_⟩
    rw [List.getElem?_map] at hu
    cases hj : ss[j]? with
    | none => rw [hj] at hu; simp at hu
    | some s =>
      rw [hj] at hu
      simp at hu
      rw [← hu]; exact h3 j s hj
theorem addr_add (q o j : Nat) : (⟨q, o, none⟩ : Addr).add j = ⟨q, o + j, none⟩ := by unfold Addr.add; split <;> simp_all
/-- One more text behind a row. -/
theorem MidRow.append {w : World} {v : Value} {ss : List ByteArray} (h : MidRow w v ss) (s : ByteArray) (b : Nat) (hb : w.cell? ⟨b, 0, none⟩ = some (.string s)) (hl : ss.length < 1000000) (ty : TypeId) :
    ∃ v' w', (Builtin.append_ #[77, 77] ty #[v, .slice (some ⟨b, 0, none⟩) 1 1]).run Tryz.prog w = .ok v' w' ∧ MidRow w' v' (ss ++ [s]) ∧ Only (ownL v) w w' ∧ (∀ q ∈ ownL v', q ∈ ownL v ∨ w.heap.size ≤ q) := by
  obtain ⟨i, hi, hz, hsz, hby⟩ := infoStr'
  have hnew : ∀ j u, [Value.string s][j]? = some u → w.cell? ((⟨b, 0, none⟩ : Addr).add j) = some u := fun j u hu => by
    have hj : j = 0 := by
      have := (List.getElem?_eq_some_iff.1 hu).1
      simpa using this
    subst hj
    rw [addr_add, Nat.zero_add]
    simp at hu
    rw [← hu]; exact hb
  rcases h with ⟨rfl, rfl⟩ | ⟨q, o, cap, rfl, h1, h2, hq, h3, h4⟩
  · obtain ⟨v', w', hr, hown, hg, -⟩ := run_append_own (P := Tryz.prog) w w.heap.size 77 ty 9 i (.string ⟨#[]⟩) 1 16 Tryz.underlying77 hi hz hsz hby rfl (by decide) _ 0 [] (World.ownsRow_nil w _ _ _) ⟨b, 0, none⟩ 1 1 [.string s] rfl hnew (by simp [Value.oneCell']) (by unfold maxLen; omega) (by omega) (Nat.le_refl _)
    refine ⟨v', w', hr, ?_, ⟨hg.os, hg.tape, hg.output, hg.size, fun k hk _ => hg.block k hk (by simp [Value.ownBlock])⟩, ?_⟩
    · rcases hown.2 with ⟨_, hn⟩ | ⟨g, cap, cur, rfl, hbg, hblk, hn, hm, hcs, htk⟩
      · omega
      · refine Or.inr ⟨g, 0, cap, rfl, hn, hm, (Array.getElem?_eq_some_iff.1 hblk).1, fun j u hj => ?_, fun j hj => ?_⟩
        · have hj0 : j = 0 := by
            have := (List.getElem?_eq_some_iff.1 hj).1
            simpa using this
          subst hj0
          simp at hj
          subst hj
          rw [cell_of_row _ _ _ _ _ _ hblk]
          have : cur.toList.take 1 = [Value.string s] := by simpa using htk
          have h0 : cur.toList[0]? = some (Value.string s) := by
            have := congrArg (·[0]?) this
            simpa using this
          simpa using h0
        · have hlt : j < cur.size := by omega
          refine ⟨?_, ?_⟩
          · rw [cell_of_row _ _ _ _ _ _ hblk]; simp [hlt]
          · simp [World.frozen?, hblk]
    · intro q hq
      rcases hown.2 with ⟨_, hn⟩ | ⟨g, cap, cur, rfl, hbg, -⟩
      · omega
      · rw [ownL_some] at hq; simp at hq; exact Or.inr (by omega)
  · by_cases hroom : ss.length + 1 ≤ cap
    · have hc := h4 ss.length (by omega)
      have hr := run_append_room_cells (P := Tryz.prog) w 77 ty 9 i Tryz.underlying77 hi q o ss.length cap ⟨b, 0, none⟩ 1 1 [.string s] (by rw [hsz]; rfl) hnew (by simp [Value.oneCell']) hroom
        (fun j hj => by
          have hj0 : j = 0 := by simpa using hj
          subst hj0
          rw [hsz, Nat.mul_one, Nat.add_zero]; exact hc.1)
        (fun j hj => by
          have hj0 : j = 0 := by simpa using hj
          subst hj0
          rw [hsz, Nat.mul_one, Nat.add_zero]; exact hc.2)
      rw [hsz, Nat.mul_one] at hr
      have ew : w.setCells q (o + ss.length) [.string s] = w.setCell ⟨q, o + ss.length, none⟩ (.string s) := rfl
      rw [ew] at hr
      have ho : Only [q] w (w.setCell ⟨q, o + ss.length, none⟩ (.string s)) := (Only.refl _ _).setCell (Or.inl (by simp)) _
      refine ⟨_, _, hr, ?_, ho, fun q' hq' => Or.inl hq'⟩
      refine Or.inr ⟨q, o, cap, by simp, by simpa using hroom, h2, by simpa using hq, fun j u hj => ?_, fun j hj => ?_⟩
      · by_cases e : j = ss.length
        · subst e
          simp at hj
          subst hj
          exact set_same hc.1
        · have hj2 : ss[j]? = some u := by
            rw [List.getElem?_append] at hj
            split at hj
            · exact hj
            · rename_i hge
              exfalso
              have : j - ss.length ≠ 0 := by omega
              have := (List.getElem?_eq_some_iff.1 hj).1
              simp at this; omega
          rw [World.cell?_setCell_other _ _ _ _ (by intro q2; have := congrArg Addr.off q2; simp at this; omega)]
          exact h3 j u hj2
      · have h5 := h4 j hj
        refine ⟨?_, by rw [World.frozen?_setCell]; exact h5.2⟩
        by_cases e : j = ss.length
        · subst e; rw [set_same hc.1]; rfl
        · rw [World.cell?_setCell_other _ _ _ _ (by intro q2; have := congrArg Addr.off q2; simp at this; omega)]; exact h5.1
    · obtain ⟨v', w', hr, hown, hg⟩ := run_append_arg_grows (P := Tryz.prog) w 77 ty 9 i (.string ⟨#[]⟩) 1 16 Tryz.underlying77 hi hz hsz hby rfl (by decide) ⟨q, o, none⟩ ss.length cap (ss.map .string) (by simp)
        (fun j u hu => by
          rw [addr_add]
          rw [List.getElem?_map] at hu
          cases hj : ss[j]? with
          | none => rw [hj] at hu; simp at hu
          | some s' =>
            rw [hj] at hu
            simp at hu
            rw [← hu]; exact h3 j s' hj) ⟨b, 0, none⟩ 1 1 [.string s] rfl hnew (by omega) (by unfold maxLen; omega) (by omega)
      refine ⟨v', w', hr, ?_, ⟨hg.os, hg.tape, hg.output, hg.size, fun k hk _ => hg.block k hk (by simp)⟩, ?_⟩
      · rcases hown.2 with ⟨_, hn⟩ | ⟨g, cap', cur, rfl, hbg, hblk, hn, hm, hcs, htk⟩
        · omega
        · refine Or.inr ⟨g, 0, cap', by simp, by simpa using hn, hm, (Array.getElem?_eq_some_iff.1 hblk).1, fun j u hj => ?_, fun j hj => ?_⟩
          · rw [Nat.zero_add, cell_of_row _ _ _ _ _ _ hblk]
            have hlt : j < (ss ++ [s]).length := (List.getElem?_eq_some_iff.1 hj).1
            have e1 : (ss.map Value.string ++ [.string s])[j]? = some (.string u) := by
              have : ss.map Value.string ++ [.string s] = (ss ++ [s]).map Value.string := by simp
              rw [this, List.getElem?_map, hj]; rfl
            have e2 : cur.toList.take (ss.length + 1) = ss.map Value.string ++ [.string s] := by simpa using htk
            rw [← e2, List.getElem?_take] at e1
            have hlt2 : j < ss.length + 1 := by simpa using hlt
            rw [if_pos hlt2] at e1
            simpa using e1
          · have hlt : j < cur.size := by omega
            refine ⟨?_, ?_⟩
            · rw [Nat.zero_add, cell_of_row _ _ _ _ _ _ hblk]; simp [hlt]
            · simp [World.frozen?, hblk]
      · intro q' hq'
        rcases hown.2 with ⟨_, hn⟩ | ⟨g, cap', cur, rfl, hbg, -⟩
        · omega
        · rw [ownL_some] at hq'; simp at hq'; exact Or.inr (by omega)
end Go.Proofs.YthiphdcbboapkaaGreatDoor
namespace Go.Proofs.YthiphdcbboapkaaGreatDoor
open Go.RowKit

/-- A journal in memory. -/
structure JAt (w : World) (J g : Nat) (v : Value) (first : ByteArray) (recs : List ByteArray) (down : Bool) : Prop where
  c0 : w.cell? ⟨J, 0, none⟩ = some (.pointer (some ⟨g, 0, none⟩))
  c1 : w.cell? ⟨J, 1, none⟩ = some (.string first)
  c2 : w.cell? ⟨J, 2, none⟩ = some v
  c3 : w.cell? ⟨J, 3, none⟩ = some (.bool down)
  f1 : w.frozen? ⟨J, 1, none⟩ = false
  f2 : w.frozen? ⟨J, 2, none⟩ = false
  f3 : w.frozen? ⟨J, 3, none⟩ = false
  mr : MidRow w v recs
  nq : J ∉ ownL v
theorem JAt.lt {w : World} {J g : Nat} {v : Value} {first : ByteArray} {recs : List ByteArray} {down : Bool} (h : JAt w J g v first recs down) : J < w.heap.size := cell_old h.c0
theorem JAt.keep {S : List Nat} {w w' : World} {J g : Nat} {v : Value} {first : ByteArray} {recs : List ByteArray} {down : Bool} (h : JAt w J g v first recs down) (k : Only S w w') (hJ : J ∉ S) (hv : ∀ q ∈ ownL v, q ∉ S) : JAt w' J g v first recs down :=
  ⟨k.cellK hJ h.c0, k.cellK hJ h.c1, k.cellK hJ h.c2, k.cellK hJ h.c3, k.frozenK hJ h.c1 h.f1, k.frozenK hJ h.c2 h.f2, k.frozenK hJ h.c3 h.f3, h.mr.keep k hv, h.nq⟩
theorem JAt.low {w w' : World} {J g : Nat} {v : Value} {first : ByteArray} {recs : List ByteArray} {down : Bool} (h : JAt w J g v first recs down) (k : Below w.heap.size w w') : JAt w' J g v first recs down := h.keep (S := []) (Only.of_below k) (by simp) (by simp)
theorem JAt.tell {w : World} {J g : Nat} {v : Value} {first : ByteArray} {recs : List ByteArray} {down : Bool} (h : JAt w J g v first recs down) (d : Bool) : JAt (w.setCell ⟨J, 3, none⟩ (.bool d)) J g v first recs d := by
  have ho : Only [J] w (w.setCell ⟨J, 3, none⟩ (.bool d)) := (Only.refl _ _).setCell (Or.inl (by simp)) _
  refine ⟨?_, ?_, ?_, World.cell?_setCell_same _ _ _ h.c3, by rw [World.frozen?_setCell]; exact h.f1, by rw [World.frozen?_setCell]; exact h.f2, by rw [World.frozen?_setCell]; exact h.f3, h.mr.keep ho (fun q hq => by simp; rintro rfl; exact h.nq hq), h.nq⟩
  · rw [World.cell?_setCell_other _ _ _ _ (by simp)]; exact h.c0
  · rw [World.cell?_setCell_other _ _ _ _ (by simp)]; exact h.c1
  · rw [World.cell?_setCell_other _ _ _ _ (by simp)]; exact h.c2
/-- The state laid anew. -/
theorem JAt.state {w : World} {J g : Nat} {v : Value} {first : ByteArray} {recs : List ByteArray} {down : Bool} (h : JAt w J g v first recs down) (s : ByteArray) : JAt ((w.setCell ⟨J, 1, none⟩ (.string s)).setCell ⟨J, 2, none⟩ (.slice none 0 0)) J g (.slice none 0 0) s [] down := by
  refine ⟨?_, ?_, ?_, ?_, ?_, ?_, ?_, Or.inl ⟨rfl, rfl⟩, by simp [ownL_nil]⟩
  · rw [World.cell?_setCell_other _ _ _ _ (by simp), World.cell?_setCell_other _ _ _ _ (by simp)]; exact h.c0
  · rw [World.cell?_setCell_other _ _ _ _ (by simp)]; exact World.cell?_setCell_same _ _ _ h.c1
  · exact World.cell?_setCell_same _ _ _ (by rw [World.cell?_setCell_other _ _ _ _ (by simp)]; exact h.c2)
  · rw [World.cell?_setCell_other _ _ _ _ (by simp), World.cell?_setCell_other _ _ _ _ (by simp)]; exact h.c3
  · rw [World.frozen?_setCell, World.frozen?_setCell]; exact h.f1
  · rw [World.frozen?_setCell, World.frozen?_setCell]; exact h.f2
  · rw [World.frozen?_setCell, World.frozen?_setCell]; exact h.f3
/-- The row stored back. -/
theorem JAt.more {w w' : World} {J g : Nat} {v v' : Value} {first : ByteArray} {recs recs' : List ByteArray} {down : Bool} (h : JAt w J g v first recs down) (k : Only (ownL v) w w') (hm : MidRow w' v' recs') (hq : J ∉ ownL v') : JAt (w'.setCell ⟨J, 2, none⟩ v') J g v' first recs' down := by
  have ho : Only [J] w' (w'.setCell ⟨J, 2, none⟩ v') := (Only.refl _ _).setCell (Or.inl (by simp)) _
  refine ⟨?_, ?_, World.cell?_setCell_same _ _ _ (k.cellK h.nq h.c2), ?_, by rw [World.frozen?_setCell]; exact k.frozenK h.nq h.c1 h.f1, by rw [World.frozen?_setCell]; exact k.frozenK h.nq h.c2 h.f2, by rw [World.frozen?_setCell]; exact k.frozenK h.nq h.c3 h.f3, hm.keep ho (fun q hq2 => by simp; rintro rfl; exact hq hq2), hq⟩
  · rw [World.cell?_setCell_other _ _ _ _ (by simp)]; exact k.cellK h.nq h.c0
  · rw [World.cell?_setCell_other _ _ _ _ (by simp)]; exact k.cellK h.nq h.c1
  · rw [World.cell?_setCell_other _ _ _ _ (by simp)]; exact k.cellK h.nq h.c3
set_option maxRecDepth 100000 in
theorem first_any {w : World} {J g : Nat} {v : Value} {first : ByteArray} {recs : List ByteArray} {down : Bool} (h : JAt w J g v first recs down) :
    Calls Tryz.prog 68 #[.pointer (some ⟨J, 0, none⟩)] w fun e w' => e = .returned (.string first) ∧ w = w' := by
  have c1 := h.c1
  clear h
  go_enter Tryz.func68, Tryz.ntmps68
  go_wp2_with fail
  go_ret
  exact ⟨rfl, rfl⟩
set_option maxRecDepth 100000 in
theorem first_nil (w : World) : Calls Tryz.prog 68 #[.pointer none] w fun e w' => e = .returned (.string ⟨#[]⟩) ∧ Below w.heap.size w w' := by
  go_enter Tryz.func68, Tryz.ntmps68
  go_wp2_with fail
  go_ret
  exact ⟨rfl, Below.refl _ _⟩
theorem clone_row {w : World} {a : Option Addr} {c : Nat} {ss : List ByteArray} (h : RowAt w a (ss.map .string)) (hl : ss.length < 1000000) :
    Calls Tryz.prog 55 #[.slice a ss.length c] w fun e w' => ∃ a' c', e = .returned (.slice a' ss.length c') ∧ RowAt w' a' (ss.map .string) ∧ Below w.heap.size w w' := by
  rcases a with _ | a
  · refine (Tryz.slices_Clone_string_nil ss.length c w).mono ?_
    rintro e w' ⟨rfl, rfl⟩
    rcases h with h | ⟨q, o, e, _⟩
    · have : ss = [] := by simpa using h
      subst this
      exact ⟨none, 0, rfl, Or.inl rfl, Below.refl _ _⟩
    · cases e
  · rcases h with h | ⟨q, o, e, hq, hc⟩
    · have : ss = [] := by simpa using h
      subst this
      refine (Tryz.slices_Clone_string_zero a c w).mono ?_
      rintro e w' ⟨v', rfl, hown, -, hb⟩
      obtain ⟨a', c', rfl, _⟩ := ownsRow_row hown
      exact ⟨a', c', rfl, Or.inl rfl, hb⟩
    · cases e
      refine (Tryz.slices_Clone_string q o ss.length c ss w (Nat.le_refl _) (by omega) (fun j hj => hc j _ (by rw [List.getElem?_map, List.getElem?_eq_getElem hj, List.getD_eq_getElem?_getD, List.getElem?_eq_getElem hj]; rfl))).mono ?_
      rintro e w' ⟨v', rfl, hown, -, hb⟩
      rw [List.take_length] at hown
      obtain ⟨a', c', rfl, hr⟩ := ownsRow_row hown
      exact ⟨a', c', rfl, hr, hb⟩
set_option maxRecDepth 100000 in
theorem records_any {w : World} {J g : Nat} {v : Value} {first : ByteArray} {recs : List ByteArray} {down : Bool} (h : JAt w J g v first recs down) (hl : recs.length < 1000000) :
    Calls Tryz.prog 33 #[.pointer (some ⟨J, 0, none⟩)] w fun e w' => ∃ a c, e = .returned (.slice a recs.length c) ∧ RowAt w' a (recs.map .string) ∧ Below w.heap.size w w' := by
  obtain ⟨a, c, rfl⟩ := h.mr.form
  have HC := Lib.hid (clone_row (c := c) h.mr.row hl)
  have c2 := h.c2
  clear h
  go_enter Tryz.func33, Tryz.ntmps33
  go_wp2_with (go_at_call 55; refine HC.out.mono ?_; rintro e' w1 ⟨a1, c1, rfl, hr, hb⟩; have HR := Lib.hid hr; have HB := Lib.hid hb; clear hr hb)
  go_ret
  exact ⟨_, _, rfl, HR.out, HB.out⟩
set_option maxRecDepth 100000 in
theorem records_nil (w : World) : Calls Tryz.prog 33 #[.pointer none] w fun e w' => e = .returned (.slice none 0 0) ∧ Below w.heap.size w w' := by
  go_enter Tryz.func33, Tryz.ntmps33
  go_wp2_with fail
  go_ret
  exact ⟨rfl, Below.refl _ _⟩
set_option maxRecDepth 100000 in
theorem told_any {w : World} {J g : Nat} {v : Value} {first : ByteArray} {recs : List ByteArray} {down : Bool} (h : JAt w J g v first recs down) (er : Int) :
    Calls Tryz.prog 84 #[.pointer (some ⟨J, 0, none⟩), .int .i64 er] w fun e w' => e = .returned (.int .i64 er) ∧ w' = w.setCell ⟨J, 3, none⟩ (.bool (down || er != 0)) := by
  have c3 := h.c3
  have f3 := h.f3
  clear h
  cases down with
  | true =>
    go_enter Tryz.func84, Tryz.ntmps84
    go_wp2_with fail
    go_ret
    exact ⟨rfl, rfl⟩
  | false =>
    obtain ⟨t, ht⟩ : ∃ t, (er != 0) = t := ⟨_, rfl⟩
    rw [ht]
    cases t
    · go_enter Tryz.func84, Tryz.ntmps84
      go_wp2_with fail
      go_ret
      exact ⟨rfl, rfl⟩
    · go_enter Tryz.func84, Tryz.ntmps84
      go_wp2_with fail
      go_ret
      exact ⟨rfl, rfl⟩
set_option maxRecDepth 100000 in
theorem jpress_nil (w : World) : Calls Tryz.prog 85 #[.pointer none] w fun e w' => e = .returned (.int .i64 7) ∧ Below w.heap.size w w' := by
  go_enter Tryz.func85, Tryz.ntmps85
  go_wp2_with fail
  go_ret
  exact ⟨rfl, Below.refl _ _⟩
set_option maxRecDepth 100000 in
theorem jadd_nil (s : ByteArray) (p : Bool) (w : World) : Calls Tryz.prog 59 #[.pointer none, .string s, .bool p] w fun e w' => e = .returned (.int .i64 7) ∧ Below w.heap.size w w' := by
  go_enter Tryz.func59, Tryz.ntmps59
  go_wp2_with fail
  go_ret
  exact ⟨rfl, Below.refl _ _⟩
set_option maxRecDepth 100000 in
theorem jlay_nil (s : ByteArray) (w : World) : Calls Tryz.prog 65 #[.pointer none, .string s] w fun e w' => e = .returned (.int .i64 7) ∧ Below w.heap.size w w' := by
  go_enter Tryz.func65, Tryz.ntmps65
  go_wp2_with fail
  go_ret
  exact ⟨rfl, Below.refl _ _⟩
set_option maxRecDepth 100000 in
theorem long_nil (w : World) : Calls Tryz.prog 69 #[.pointer none] w fun e w' => e = .returned (.int .i64 0) ∧ Below w.heap.size w w' := by
  go_enter Tryz.func69, Tryz.ntmps69
  go_wp2_with fail
  go_ret
  exact ⟨rfl, Below.refl _ _⟩
/-- A journal over a chest, all of the call's own. -/
structure JS (w0 w : World) (J g b : Nat) (v : Value) (r : Int) (L : List Rl) (first : ByteArray) (recs : List ByteArray) (down : Bool) : Prop where
  j : JAt w J g v first recs down
  ch : ChS w0 w g b r L
  jb : w0.heap.size ≤ J
  vb : ∀ q ∈ ownL v, w0.heap.size ≤ q
  jg : J ≠ g
  jbn : J ≠ b
  vg : g ∉ ownL v
  vbn : b ∉ ownL v
theorem JS.low {w0 w w' : World} {J g b : Nat} {v : Value} {r : Int} {L : List Rl} {first : ByteArray} {recs : List ByteArray} {down : Bool} (h : JS w0 w J g b v r L first recs down) (k : Below w.heap.size w w') : JS w0 w' J g b v r L first recs down :=
  ⟨h.j.low k, h.ch.low k, h.jb, h.vb, h.jg, h.jbn, h.vg, h.vbn⟩
/-- The chest turned. -/
theorem JS.chest {w0 w w' : World} {J g b : Nat} {v : Value} {r r' : Int} {L L' : List Rl} {first : ByteArray} {recs : List ByteArray} {down : Bool} (h : JS w0 w J g b v r L first recs down) (hc : ChS w0 w' g b r' L') (k : Only [g, b] w w') : JS w0 w' J g b v r' L' first recs down :=
  ⟨h.j.keep k (by simp [h.jg, h.jbn]) (fun q hq => by
    simp
    exact ⟨fun e => h.vg (e ▸ hq), fun e => h.vbn (e ▸ hq)⟩), hc, h.jb, h.vb, h.jg, h.jbn, h.vg, h.vbn⟩
theorem only_one {w : World} {J : Nat} (i : Nat) (x : Value) : Only [J] w (w.setCell ⟨J, i, none⟩ x) := (Only.refl _ _).setCell (Or.inl (by simp)) _
theorem ChS.aside {w0 w w' : World} {g b : Nat} {r : Int} {L : List Rl} {S : List Nat} (h : ChS w0 w g b r L) (k : Only S w w') (hg : g ∉ S) (hb : b ∉ S) (hS : ∀ i ∈ S, w0.heap.size ≤ i) : ChS w0 w' g b r L :=
  ⟨h.1.keep k hg hb, Only.under h.2.1 k hS, h.2.2⟩
theorem JS.tell {w0 w : World} {J g b : Nat} {v : Value} {r : Int} {L : List Rl} {first : ByteArray} {recs : List ByteArray} {down : Bool} (h : JS w0 w J g b v r L first recs down) (d : Bool) : JS w0 (w.setCell ⟨J, 3, none⟩ (.bool d)) J g b v r L first recs d :=
  ⟨h.j.tell d, h.ch.aside (only_one 3 _) (by simpa using h.jg.symm) (by simpa using h.jbn.symm) (by simpa using h.jb), h.jb, h.vb, h.jg, h.jbn, h.vg, h.vbn⟩
def bLOG : ByteArray := ⟨#[76, 79, 71]⟩
def bNEW : ByteArray := ⟨#[78, 69, 87]⟩
def bOLD : ByteArray := ⟨#[79, 76, 68]⟩
set_option maxRecDepth 100000 in
set_option maxHeartbeats 1600000 in
theorem jpress_any {w0 w : World} {J g b : Nat} {v : Value} {r : Int} {L : List Rl} {first : ByteArray} {recs : List ByteArray} (H : JS w0 w J g b v r L first recs false) (hL : L.length < 1000000) (hk : OkL r L) {er : Int} {L' : List Rl} (he : pressS L bLOG.data.toList = (er, L')) :
    Calls Tryz.prog 85 #[.pointer (some ⟨J, 0, none⟩)] w fun e w' => e = .returned (.int .i64 er) ∧ JS w0 w' J g b v r L' first recs (er != 0) ∧ Only [J, g, b] w w' := by
  have HP := Lib.hid (press_S H.ch hL hk ⟨#[76, 79, 71]⟩ (by decide) he)
  have HH := Lib.hid H
  have c0 := H.j.c0
  have c3 := H.j.c3
  clear H hk he
  go_enter Tryz.func85, Tryz.ntmps85
  go_wp2_with fail
  refine HP.out.mono ?_
  rintro e w1 ⟨rfl, hs, ho⟩
  have H1 := Lib.hid (HH.out.chest hs ho)
  have HO := Lib.hid ho
  clear hs ho c0 c3
  go_wp2_with fail
  refine (told_any H1.out.j er).mono ?_
  rintro e w2 ⟨rfl, rfl⟩
  have H2 := Lib.hid (H1.out.tell (er != 0))
  have HO2 : Hid (Only [J, g, b] w (w1.setCell ⟨J, 3, none⟩ (.bool (er != 0)))) := Lib.hid (((Only.refl [J, g, b] w).join HO.out (fun i hi => Or.inl (by simp at hi ⊢; exact Or.inr hi))).setCell (Or.inl (by simp)) _)
  rw [Bool.false_or]
  generalize w1.setCell ⟨J, 3, none⟩ (.bool (er != 0)) = W at H2 HO2 ⊢
  go_wp2_with fail
  go_ret
  exact ⟨rfl, H2.out, HO2.out⟩
set_option maxRecDepth 100000 in
theorem jpress_down {w : World} {J g : Nat} {v : Value} {first : ByteArray} {recs : List ByteArray} (h : JAt w J g v first recs true) :
    Calls Tryz.prog 85 #[.pointer (some ⟨J, 0, none⟩)] w fun e w' => e = .returned (.int .i64 7) ∧ Below w.heap.size w w' := by
  have c3 := h.c3
  clear h
  go_enter Tryz.func85, Tryz.ntmps85
  go_wp2_with fail
  go_ret
  exact ⟨rfl, Below.refl _ _⟩
set_option maxRecDepth 100000 in
theorem jadd_down {w : World} {J g : Nat} {v : Value} {first : ByteArray} {recs : List ByteArray} (h : JAt w J g v first recs true) (s : ByteArray) (p : Bool) :
    Calls Tryz.prog 59 #[.pointer (some ⟨J, 0, none⟩), .string s, .bool p] w fun e w' => e = .returned (.int .i64 7) ∧ Below w.heap.size w w' := by
  have c3 := h.c3
  clear h
  go_enter Tryz.func59, Tryz.ntmps59
  go_wp2_with fail
  go_ret
  exact ⟨rfl, Below.refl _ _⟩
set_option maxRecDepth 100000 in
theorem jlay_down {w : World} {J g : Nat} {v : Value} {first : ByteArray} {recs : List ByteArray} (h : JAt w J g v first recs true) (s : ByteArray) :
    Calls Tryz.prog 65 #[.pointer (some ⟨J, 0, none⟩), .string s] w fun e w' => e = .returned (.int .i64 7) ∧ Below w.heap.size w w' := by
  have c3 := h.c3
  clear h
  go_enter Tryz.func65, Tryz.ntmps65
  go_wp2_with fail
  go_ret
  exact ⟨rfl, Below.refl _ _⟩
set_option maxRecDepth 100000 in
theorem long_any {w0 w : World} {J g b : Nat} {v : Value} {r : Int} {L : List Rl} {first : ByteArray} {recs : List ByteArray} {down : Bool} (H : JS w0 w J g b v r L first recs down) {s : ByteArray} {t : Bool} (hs : (atL bLOG.data.toList L).s = s) (ht : (lookL bLOG.data.toList L).isSome = t) :
    Calls Tryz.prog 69 #[.pointer (some ⟨J, 0, none⟩)] w fun e w' => e = .returned (.int .i64 s.size) ∧ Below w.heap.size w w' := by
  have HR := Lib.hid (read_S H.ch ⟨#[76, 79, 71]⟩ (by decide) hs ht)
  have c0 := H.j.c0
  clear H hs ht
  go_enter Tryz.func69, Tryz.ntmps69
  go_wp2_with fail
  refine HR.out.mono ?_
  rintro e w1 ⟨rfl, hb⟩
  have HB := Lib.hid hb
  clear hb
  go_wp2_with fail
  go_ret
  exact ⟨rfl, HB.out⟩
end Go.Proofs.YthiphdcbboapkaaGreatDoor

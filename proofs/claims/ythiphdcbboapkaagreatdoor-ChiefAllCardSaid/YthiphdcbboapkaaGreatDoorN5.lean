/- Walks of roll's Write, Press. Walks of roll's Cut, Call. -/
import Derived.Test.YthiphdcbboapkaaGreatDoorN4
import Derived.StillTailTactics
namespace Go.Proofs.YthiphdcbboapkaaGreatDoor
open Go.RowKit

theorem alloc_cells3 (w : World) (u v x : Value) (t : TypeId) : (w.alloc (.cells #[u, v, x] t)).cell? ⟨w.heap.size, 0, none⟩ = some u ∧ (w.alloc (.cells #[u, v, x] t)).cell? ⟨w.heap.size, 1, none⟩ = some v ∧ (w.alloc (.cells #[u, v, x] t)).cell? ⟨w.heap.size, 2, none⟩ = some x :=
  ⟨(new3 w u v x t).1, (new3 w u v x t).2.1, (new3 w u v x t).2.2.1⟩
/-- What a method of a chest leaves: an error's number, for how many bytes more there is room, its rolls; but the chest nothing has turned. -/
def ChR (w : World) (g b : Nat) (er : Int) (r : Int) (L : List Rl) (e : Ending) (w' : World) : Prop := e = .returned (.int .i64 er) ∧ ChestAt w' g b r L ∧ Only [g, b] w w'
theorem only_alloc {S : List Nat} {w w1 : World} (h : Only S w w1) (o : Obj) : Only S w (w1.alloc o) := h.alloc o
set_option maxRecDepth 100000 in
set_option maxHeartbeats 1600000 in
theorem write_ok {w : World} {g b : Nat} {r : Int} {L : List Rl} (hC : ChestAt w g b r L) (hL : L.length < 1000000) (n s : ByteArray) (hn : n.size ≤ 9223372036854775807) (hg : goodN n.data.toList = true) (hr : (s.size : Int) ≤ r) (hr2 : r ≤ 1048576) (hs : (atL n.data.toList L).s.size ≤ 1048576) (C : ByteArray)
    (hcat : C = ⟨((atL n.data.toList L).s.data.toList ++ s.data.toList).toArray⟩) :
    Calls Tryz.prog 78 #[.pointer (some ⟨g, 0, none⟩), .string n, .string s] w (ChR w g b 0 (r - s.size) (putL n.data.toList ⟨C, (atL n.data.toList L).p, (atL n.data.toList L).k⟩ L)) := by
  have HN := Lib.hid (name_any n w hn)
  rw [hg] at HN
  have HC := Lib.hid hC
  have hgb := hC.ne
  obtain ⟨c, hc⟩ : ∃ c, atL n.data.toList L = c := ⟨_, rfl⟩
  rw [hc] at hs hcat ⊢
  have HX := Lib.hid hc
  have kc : ∀ w, (Op.stringOp .add c.s s).run Tryz.prog w = .ok (.string C) w := fun w => by rw [run_catS c.s s (by omega), hcat]
  have q1 : decide (r < (s.size : Int)) = false := decide_eq_false (by omega)
  clear hC hg hc hcat
  go_enter Tryz.func78, Tryz.ntmps78
  go_wp2_with (first | (go_at_call 73; refine HN.out.mono ?_; rintro e' w1 ⟨rfl, hb⟩; have HB := Lib.hid hb; have HC1 := Lib.hid (HC.out.low hb); clear hb; have c0 := HC1.out.1; have c1 := HC1.out.2.1; have ltg := HC1.out.ltg) | (at_lookup; refine wpList_look _ rfl _ _ rfl b L rfl HC1.out.map n rfl hn c HX ?_))
  obtain ⟨y0, y1, y2⟩ := alloc_cells3 w1 (.string C) (.int .i64 c.p) (.bool c.k) 88
  have HV := Lib.hid (HC1.out.low (below_alloc (Below.refl _ _) (.cells #[.string C, .int .i64 c.p, .bool c.k] 88)))
  have HO : Hid (Only [g, b] w (w1.alloc (.cells #[.string C, .int .i64 c.p, .bool c.k] 88))) := Lib.hid (Only.of_below (below_alloc HB.out _))
  have hxg : ¬ w1.heap.size = g := by omega
  have hxb : ¬ w1.heap.size = b := by have := HC1.out.ltb; omega
  generalize w1.alloc (.cells #[.string C, .int .i64 c.p, .bool c.k] 88) = V at y0 y1 y2 HV HO ⊢
  clear c0 c1 ltg HC1 HB
  have c1 := HV.out.2.1
  generalize w1.heap.size = x at y0 y1 y2 hxg hxb ⊢
  clear w1
  go_still_tail 6, (by kernel_rfl)
  refine wpList_put _ rfl _ _ _ rfl b L rfl HV.out.map.drew (by omega) n rfl hn ⟨C, c.p, c.k⟩ rfl ?_
  intro w4 hM4 ht4
  have H4 := Lib.hid (HV.out.drew.turn ht4 hM4)
  have HO4 : Hid (Only [g, b] w w4) := Lib.hid (HO.out.drew.turned ht4 (Or.inl (by simp)))
  have c0 := H4.out.1
  have f0 := H4.out.2.2.1
  clear hM4 ht4 y0 y1 y2 c1 HV HO hxg hxb
  go_wp2_with fail
  go_ret
  exact ⟨rfl, H4.out.room _, HO4.out.setCell (Or.inl (by simp)) _⟩
set_option maxRecDepth 100000 in
theorem write_form {w : World} {g b : Nat} {r : Int} {L : List Rl} (hC : ChestAt w g b r L) (n s : ByteArray) (hn : n.size ≤ 9223372036854775807) (hg : goodN n.data.toList = false) :
    Calls Tryz.prog 78 #[.pointer (some ⟨g, 0, none⟩), .string n, .string s] w (ChR w g b 1 r L) := by
  have HN := Lib.hid (name_any n w hn)
  rw [hg] at HN
  have HC := Lib.hid hC
  clear hC hg
  go_enter Tryz.func78, Tryz.ntmps78
  go_wp2_with (go_at_call 73; refine HN.out.mono ?_; rintro e' w1 ⟨rfl, hb⟩; have HB := Lib.hid hb; clear hb)
  go_ret
  exact ⟨rfl, HC.out.low HB.out, Only.of_below HB.out⟩
set_option maxRecDepth 100000 in
theorem write_full {w : World} {g b : Nat} {r : Int} {L : List Rl} (hC : ChestAt w g b r L) (n s : ByteArray) (hn : n.size ≤ 9223372036854775807) (hg : goodN n.data.toList = true) (hr : r < s.size) :
    Calls Tryz.prog 78 #[.pointer (some ⟨g, 0, none⟩), .string n, .string s] w (ChR w g b 5 r L) := by
  have HN := Lib.hid (name_any n w hn)
  rw [hg] at HN
  have HC := Lib.hid hC
  have q1 : decide (r < (s.size : Int)) = true := decide_eq_true hr
  clear hC hg hr
  go_enter Tryz.func78, Tryz.ntmps78
  go_wp2_with (go_at_call 73; refine HN.out.mono ?_; rintro e' w1 ⟨rfl, hb⟩; have HB := Lib.hid hb; have HC1 := Lib.hid (HC.out.low hb); clear hb; have c0 := HC1.out.1)
  go_ret
  exact ⟨rfl, HC.out.low HB.out, Only.of_below HB.out⟩
set_option maxRecDepth 100000 in
theorem write_nil (n s : ByteArray) (w : World) : Calls Tryz.prog 78 #[.pointer none, .string n, .string s] w fun e w' => e = .returned (.int .i64 7) ∧ Below w.heap.size w w' := by
  go_enter Tryz.func78, Tryz.ntmps78
  go_wp2_with fail
  go_ret
  exact ⟨rfl, Below.refl _ _⟩
/-- What Write comes to. -/
def writeS (r : Int) (L : List Rl) (n : Nm) (s : ByteArray) : Int × Int × List Rl :=
  if goodN n = false then (1, r, L) else if r < s.size then (5, r, L) else (0, r - s.size, putL n ⟨⟨((atL n L).s.data.toList ++ s.data.toList).toArray⟩, (atL n L).p, (atL n L).k⟩ L)
theorem atL_size (n : Nm) (L : List Rl) : ((atL n L).s.size : Int) = lenL n L := by
  unfold atL lenL
  cases lookL n L <;> rfl
/-- A chest that may be. -/
def OkL (r : Int) (L : List Rl) : Prop := 0 ≤ r ∧ r + sumL L ≤ 1048576 ∧ ∀ x ∈ L, 0 ≤ x.2.p ∧ x.2.p ≤ x.2.s.size
theorem OkL.at {r : Int} {L : List Rl} (h : OkL r L) (n : Nm) : (atL n L).s.size ≤ 1048576 := by
  have h1 := atL_size n L
  have h2 := lenL_le n L
  have := h.1; have := h.2.1
  omega
theorem OkL.atp {r : Int} {L : List Rl} (h : OkL r L) (n : Nm) : 0 ≤ (atL n L).p ∧ (atL n L).p ≤ (atL n L).s.size := by
  unfold atL
  cases hl : lookL n L with
  | none => exact ⟨Int.le_refl _, Int.le_refl _⟩
  | some c => exact h.2.2 _ (lookL_mem hl)
theorem write_any {w : World} {g b : Nat} {r : Int} {L : List Rl} (hC : ChestAt w g b r L) (hL : L.length < 1000000) (hk : OkL r L) (n s : ByteArray) (hn : n.size ≤ 9223372036854775807) :
    Calls Tryz.prog 78 #[.pointer (some ⟨g, 0, none⟩), .string n, .string s] w (ChR w g b (writeS r L n.data.toList s).1 (writeS r L n.data.toList s).2.1 (writeS r L n.data.toList s).2.2) := by
  unfold writeS
  cases hg : goodN n.data.toList with
  | false => rw [if_pos rfl]; exact write_form hC n s hn hg
  | true =>
    rw [if_neg (by simp)]
    by_cases hr : r < s.size
    · rw [if_pos hr]; exact write_full hC n s hn hg hr
    · rw [if_neg hr]
      have := sumL_nonneg L
      have := hk.2.1
      exact write_ok hC hL n s hn hg (by omega) (by omega) (hk.at _) _ rfl
set_option maxRecDepth 100000 in
set_option maxHeartbeats 1600000 in
theorem press_yes {w : World} {g b : Nat} {r : Int} {L : List Rl} (hC : ChestAt w g b r L) (hL : L.length < 1000000) (n : ByteArray) (hn : n.size ≤ 9223372036854775807) (c : Scr) (hl : lookL n.data.toList L = some c) (_hs : c.s.size ≤ 1048576) :
    Calls Tryz.prog 79 #[.pointer (some ⟨g, 0, none⟩), .string n] w (ChR w g b 0 r (putL n.data.toList ⟨c.s, c.s.size, true⟩ L)) := by
  have HN := Lib.hid (has_yes hC n hn c hl)
  have HC := Lib.hid hC
  have hgb := hC.ne
  clear hC hl
  go_enter Tryz.func79, Tryz.ntmps79
  go_wp2_with (go_at_call 74; refine HN.out.mono ?_; rintro e' w1 ⟨rfl, hb⟩; have HB := Lib.hid hb; have HC1 := Lib.hid (HC.out.low hb); clear hb)
  obtain ⟨y0, y1, y2⟩ := alloc_cells3 w1 (.string c.s) (.int .i64 c.p) (.bool c.k) 88
  have HV := Lib.hid (HC1.out.low (below_alloc (Below.refl _ _) (.cells #[.string c.s, .int .i64 c.p, .bool c.k] 88)))
  have HO : Hid (Only [g, b] w (w1.alloc (.cells #[.string c.s, .int .i64 c.p, .bool c.k] 88))) := Lib.hid (Only.of_below (below_alloc HB.out _))
  generalize w1.alloc (.cells #[.string c.s, .int .i64 c.p, .bool c.k] 88) = V at y0 y1 y2 HV HO ⊢
  generalize w1.heap.size = x at y0 y1 y2 ⊢
  have c1 := HV.out.2.1
  clear HC1 HB
  go_still_tail 11, (by kernel_rfl)
  refine wpList_put _ rfl _ _ _ rfl b L rfl HV.out.map.drew (by omega) n rfl hn ⟨c.s, c.s.size, true⟩ rfl ?_
  intro w4 hM4 ht4
  have H4 := Lib.hid (HV.out.drew.turn ht4 hM4)
  have HO4 : Hid (Only [g, b] w w4) := Lib.hid (HO.out.drew.turned ht4 (Or.inl (by simp)))
  clear hM4 ht4 y0 y1 y2 c1 HV HO
  go_wp2_with fail
  go_ret
  exact ⟨rfl, H4.out, HO4.out⟩
set_option maxRecDepth 100000 in
theorem press_no {w : World} {g b : Nat} {r : Int} {L : List Rl} (hC : ChestAt w g b r L) (n : ByteArray) (hn : n.size ≤ 9223372036854775807) (hl : lookL n.data.toList L = none) :
    Calls Tryz.prog 79 #[.pointer (some ⟨g, 0, none⟩), .string n] w (ChR w g b 6 r L) := by
  have HN := Lib.hid (has_no hC n hn hl)
  have HC := Lib.hid hC
  clear hC hl
  go_enter Tryz.func79, Tryz.ntmps79
  go_wp2_with (go_at_call 74; refine HN.out.mono ?_; rintro e' w1 ⟨rfl, hb⟩; have HB := Lib.hid hb; clear hb)
  go_ret
  exact ⟨rfl, HC.out.low (below_alloc HB.out _), Only.of_below (below_alloc HB.out _)⟩
set_option maxRecDepth 100000 in
theorem press_nil (n : ByteArray) (w : World) : Calls Tryz.prog 79 #[.pointer none, .string n] w fun e w' => e = .returned (.int .i64 7) ∧ Below w.heap.size w w' := by
  have HN := Lib.hid (has_nil n w)
  go_enter Tryz.func79, Tryz.ntmps79
  go_wp2_with (go_at_call 74; refine HN.out.mono ?_; rintro e' w1 ⟨rfl, hb⟩; have HB := Lib.hid hb; clear hb)
  go_ret
  exact ⟨rfl, below_alloc HB.out _⟩
/-- What Press comes to. -/
def pressS (L : List Rl) (n : Nm) : Int × List Rl := match lookL n L with
  | none => (6, L)
  | some c => (0, putL n ⟨c.s, c.s.size, true⟩ L)
theorem press_any {w : World} {g b : Nat} {r : Int} {L : List Rl} (hC : ChestAt w g b r L) (hL : L.length < 1000000) (hk : OkL r L) (n : ByteArray) (hn : n.size ≤ 9223372036854775807) :
    Calls Tryz.prog 79 #[.pointer (some ⟨g, 0, none⟩), .string n] w (ChR w g b (pressS L n.data.toList).1 r (pressS L n.data.toList).2) := by
  unfold pressS
  cases hl : lookL n.data.toList L with
  | none => exact press_no hC n hn hl
  | some c =>
    have := hk.at n.data.toList
    unfold atL at this; rw [hl] at this
    exact press_yes hC hL n hn c hl this
end Go.Proofs.YthiphdcbboapkaaGreatDoor
namespace Go.Proofs.YthiphdcbboapkaaGreatDoor
open Go.RowKit

set_option maxRecDepth 100000 in
theorem rcut_no {w : World} {g b : Nat} {r : Int} {L : List Rl} (hC : ChestAt w g b r L) (n : ByteArray) (k : Int) (hn : n.size ≤ 9223372036854775807) (hl : lookL n.data.toList L = none) :
    Calls Tryz.prog 54 #[.pointer (some ⟨g, 0, none⟩), .string n, .int .i64 k] w (ChR w g b 6 r L) := by
  have HN := Lib.hid (has_no hC n hn hl)
  have HC := Lib.hid hC
  clear hC hl
  go_enter Tryz.func54, Tryz.ntmps54
  go_wp2_with (go_at_call 74; refine HN.out.mono ?_; rintro e' w1 ⟨rfl, hb⟩; have HB := Lib.hid hb; clear hb)
  go_ret
  exact ⟨rfl, HC.out.low (below_alloc HB.out _), Only.of_below (below_alloc HB.out _)⟩
set_option maxRecDepth 100000 in
theorem rcut_nil (n : ByteArray) (k : Int) (w : World) : Calls Tryz.prog 54 #[.pointer none, .string n, .int .i64 k] w fun e w' => e = .returned (.int .i64 7) ∧ Below w.heap.size w w' := by
  have HN := Lib.hid (has_nil n w)
  go_enter Tryz.func54, Tryz.ntmps54
  go_wp2_with (go_at_call 74; refine HN.out.mono ?_; rintro e' w1 ⟨rfl, hb⟩; have HB := Lib.hid hb; clear hb)
  go_ret
  exact ⟨rfl, below_alloc HB.out _⟩
set_option maxRecDepth 100000 in
theorem rcut_range {w : World} {g b : Nat} {r : Int} {L : List Rl} (hC : ChestAt w g b r L) (n : ByteArray) (k : Int) (hn : n.size ≤ 9223372036854775807) (c : Scr) (hl : lookL n.data.toList L = some c) (hk : k < 0 ∨ (c.s.size : Int) < k) :
    Calls Tryz.prog 54 #[.pointer (some ⟨g, 0, none⟩), .string n, .int .i64 k] w (ChR w g b 4 r L) := by
  have HN := Lib.hid (has_yes hC n hn c hl)
  have HC := Lib.hid hC
  clear hC hl
  by_cases h0 : k < 0
  · have q0 : decide (k < 0) = true := decide_eq_true h0
    clear hk
    go_enter Tryz.func54, Tryz.ntmps54
    go_wp2_with (go_at_call 74; refine HN.out.mono ?_; rintro e' w1 ⟨rfl, hb⟩; have HB := Lib.hid hb; clear hb)
    go_ret
    exact ⟨rfl, HC.out.low (below_alloc HB.out _), Only.of_below (below_alloc HB.out _)⟩
  · have q0 : decide (k < 0) = false := decide_eq_false h0
    have q1 : decide ((c.s.size : Int) < k) = true := decide_eq_true (by omega)
    clear hk
    go_enter Tryz.func54, Tryz.ntmps54
    go_wp2_with (go_at_call 74; refine HN.out.mono ?_; rintro e' w1 ⟨rfl, hb⟩; have HB := Lib.hid hb; clear hb)
    go_ret
    exact ⟨rfl, HC.out.low (below_alloc HB.out _), Only.of_below (below_alloc HB.out _)⟩
theorem run_cutS (s : ByteArray) (k : Nat) (h : k ≤ s.size) (_hs : s.size ≤ 9223372036854775807) (w : World) : (Instr.slice 9 (.string s) none (some (.int .i64 (k : Int))) none).run Tryz.prog w = .ok (.string (s.extract 0 k)) w := by
  rw [run_slice_string_h w _ _ Tryz.underlying9 _ _ (by omega) (by omega)]; simp
set_option maxRecDepth 100000 in
set_option maxHeartbeats 1600000 in
theorem rcut_ok {w : World} {g b : Nat} {r : Int} {L : List Rl} (hC : ChestAt w g b r L) (hL : L.length < 1000000) (n : ByteArray) (k : Nat) (hn : n.size ≤ 9223372036854775807) (c : Scr) (hl : lookL n.data.toList L = some c) (hs : c.s.size ≤ 1048576) (hk : k ≤ c.s.size) (hr : 0 ≤ r) (hr2 : r ≤ 1048576) (_hp : 0 ≤ c.p ∧ c.p ≤ c.s.size) :
    Calls Tryz.prog 54 #[.pointer (some ⟨g, 0, none⟩), .string n, .int .i64 k] w (ChR w g b 0 (r + (c.s.size - k)) (putL n.data.toList ⟨c.s.extract 0 k, min c.p k, true⟩ L)) := by
  have HN := Lib.hid (has_yes hC n hn c hl)
  have HC := Lib.hid hC
  have hgb := hC.ne
  have q0 : decide ((k : Int) < 0) = false := decide_eq_false (by omega)
  have q1 : decide ((c.s.size : Int) < k) = false := decide_eq_false (by omega)
  obtain ⟨C, hCe⟩ : ∃ C, c.s.extract 0 k = C := ⟨_, rfl⟩
  have hsl : ∀ w, (Instr.slice 9 (.string c.s) none (some (.int .i64 (k : Int))) none).run Tryz.prog w = .ok (.string C) w := fun w => by rw [← hCe]; exact run_cutS c.s k hk (by omega) w
  obtain ⟨m, hm⟩ : ∃ m, min c.p (k : Int) = m := ⟨_, rfl⟩
  rw [hCe, hm]
  clear hC hl hCe
  go_enter Tryz.func54, Tryz.ntmps54
  go_wp2_with (go_at_call 74; refine HN.out.mono ?_; rintro e' w1 ⟨rfl, hb⟩; have HB := Lib.hid hb; have HC1 := Lib.hid (HC.out.low hb); clear hb)
  obtain ⟨y0, y1, y2⟩ := alloc_cells3 w1 (.string c.s) (.int .i64 c.p) (.bool c.k) 88
  have HV := Lib.hid (HC1.out.low (below_alloc (Below.refl _ _) (.cells #[.string c.s, .int .i64 c.p, .bool c.k] 88)))
  have HO : Hid (Only [g, b] w (w1.alloc (.cells #[.string c.s, .int .i64 c.p, .bool c.k] 88))) := Lib.hid (Only.of_below (below_alloc HB.out _))
  have hxg : ¬ w1.heap.size = g := by have := HC1.out.ltg; omega
  generalize w1.alloc (.cells #[.string c.s, .int .i64 c.p, .bool c.k] 88) = V at y0 y1 y2 HV HO ⊢
  generalize w1.heap.size = x at y0 y1 y2 hxg ⊢
  clear HC1 HB w1
  have c0 := HV.out.1
  have f0 := HV.out.2.2.1
  go_still_tail 12, (by kernel_rfl)
  change wpList _ _ _ _ _ V.drew
  have HV1 : Hid (ChestAt V.drew g b r L) := Lib.hid HV.out.drew
  have HO1 : Hid (Only [g, b] w V.drew) := Lib.hid HO.out.drew
  have z0 : V.drew.cell? ⟨x, 0, none⟩ = some (.string c.s) := y0
  have z1 : V.drew.cell? ⟨x, 1, none⟩ = some (.int .i64 c.p) := y1
  have z2 : V.drew.cell? ⟨x, 2, none⟩ = some (.bool c.k) := y2
  clear y0 y1 y2 c0 f0 HV HO
  generalize V.drew = W at HV1 HO1 z0 z1 z2 ⊢
  clear V
  have c0 := HV1.out.1
  have f0 := HV1.out.2.2.1
  go_wp2_with fail
  have HV2 := Lib.hid (HV1.out.room (r + (c.s.size - k)))
  have HO2 : Hid (Only [g, b] w (W.setCell ⟨g, 0, none⟩ (.int .i64 (r + (c.s.size - k))))) := Lib.hid (HO1.out.setCell (Or.inl (by simp)) _)
  have y0 : (W.setCell ⟨g, 0, none⟩ (.int .i64 (r + (c.s.size - k)))).cell? ⟨x, 0, none⟩ = some (.string c.s) := by rw [World.cell?_setCell_other _ _ _ _ (by intro e; exact hxg (congrArg Addr.block e).symm)]; exact z0
  have y1 : (W.setCell ⟨g, 0, none⟩ (.int .i64 (r + (c.s.size - k)))).cell? ⟨x, 1, none⟩ = some (.int .i64 c.p) := by rw [World.cell?_setCell_other _ _ _ _ (by simp)]; exact z1
  have y2 : (W.setCell ⟨g, 0, none⟩ (.int .i64 (r + (c.s.size - k)))).cell? ⟨x, 2, none⟩ = some (.bool c.k) := by rw [World.cell?_setCell_other _ _ _ _ (by simp)]; exact z2
  generalize W.setCell ⟨g, 0, none⟩ (.int .i64 (r + (c.s.size - k))) = V at HV2 HO2 y0 y1 y2 ⊢
  clear c0 f0 z0 z1 z2 HV1 HO1 W
  have c1 := HV2.out.2.1
  go_still_tail 14, (by kernel_rfl)
  refine wpList_put _ rfl _ _ _ rfl b L rfl HV2.out.map.drew (by omega) n rfl hn ⟨C, m, true⟩ rfl ?_
  intro w4 hM4 ht4
  have H4 := Lib.hid (HV2.out.drew.turn ht4 hM4)
  have HO4 : Hid (Only [g, b] w w4) := Lib.hid (HO2.out.drew.turned ht4 (Or.inl (by simp)))
  clear hM4 ht4 y0 y1 y2 c1 HV2 HO2
  go_wp2_with fail
  go_ret
  exact ⟨rfl, H4.out, HO4.out⟩
/-- What Cut comes to. -/
def cutSp (r : Int) (L : List Rl) (n : Nm) (k : Int) : Int × Int × List Rl := match lookL n L with
  | none => (6, r, L)
  | some c => if k < 0 ∨ (c.s.size : Int) < k then (4, r, L) else (0, r + (c.s.size - k), putL n ⟨c.s.extract 0 k.toNat, min c.p k, true⟩ L)
theorem OkL.look {r : Int} {L : List Rl} (h : OkL r L) {n : Nm} {c : Scr} (hl : lookL n L = some c) : c.s.size ≤ 1048576 ∧ 0 ≤ c.p ∧ c.p ≤ c.s.size := by
  have h1 := h.at n
  unfold atL at h1; rw [hl] at h1
  exact ⟨h1, h.2.2 _ (lookL_mem hl)⟩
theorem rcut_any {w : World} {g b : Nat} {r : Int} {L : List Rl} (hC : ChestAt w g b r L) (hL : L.length < 1000000) (hk : OkL r L) (n : ByteArray) (k : Int) (hn : n.size ≤ 9223372036854775807) :
    Calls Tryz.prog 54 #[.pointer (some ⟨g, 0, none⟩), .string n, .int .i64 k] w (ChR w g b (cutSp r L n.data.toList k).1 (cutSp r L n.data.toList k).2.1 (cutSp r L n.data.toList k).2.2) := by
  unfold cutSp
  cases hl : lookL n.data.toList L with
  | none => exact rcut_no hC n k hn hl
  | some c =>
    by_cases hq : k < 0 ∨ (c.s.size : Int) < k
    · simp only [if_pos hq]; exact rcut_range hC n k hn c hl hq
    · simp only [if_neg hq]
      obtain ⟨h1, h2, h3⟩ := hk.look hl
      have h4 := sumL_nonneg L
      have h5 := hk.1
      have h6 := hk.2.1
      obtain ⟨j, rfl⟩ : ∃ j : Nat, k = j := ⟨k.toNat, by omega⟩
      exact rcut_ok hC hL n j hn c hl h1 (by omega) h5 (by omega) ⟨h2, h3⟩
set_option maxRecDepth 100000 in
theorem rcall_nil (n m : ByteArray) (w : World) : Calls Tryz.prog 49 #[.pointer none, .string n, .string m] w fun e w' => e = .returned (.int .i64 7) ∧ Below w.heap.size w w' := by
  go_enter Tryz.func49, Tryz.ntmps49
  go_wp2_with fail
  go_ret
  exact ⟨rfl, Below.refl _ _⟩
set_option maxRecDepth 100000 in
theorem rcall_form {w : World} {g b : Nat} {r : Int} {L : List Rl} (hC : ChestAt w g b r L) (n m : ByteArray) (hm : m.size ≤ 9223372036854775807) (hg : goodN m.data.toList = false) :
    Calls Tryz.prog 49 #[.pointer (some ⟨g, 0, none⟩), .string n, .string m] w (ChR w g b 1 r L) := by
  have HN := Lib.hid (name_any m w hm)
  rw [hg] at HN
  have HC := Lib.hid hC
  clear hC hg
  go_enter Tryz.func49, Tryz.ntmps49
  go_wp2_with (go_at_call 73; refine HN.out.mono ?_; rintro e' w1 ⟨rfl, hb⟩; have HB := Lib.hid hb; clear hb)
  go_ret
  exact ⟨rfl, HC.out.low HB.out, Only.of_below HB.out⟩
set_option maxRecDepth 100000 in
theorem rcall_no {w : World} {g b : Nat} {r : Int} {L : List Rl} (hC : ChestAt w g b r L) (n m : ByteArray) (hn : n.size ≤ 9223372036854775807) (hm : m.size ≤ 9223372036854775807) (hg : goodN m.data.toList = true) (hl : lookL n.data.toList L = none) :
    Calls Tryz.prog 49 #[.pointer (some ⟨g, 0, none⟩), .string n, .string m] w (ChR w g b 6 r L) := by
  have HN := Lib.hid (name_any m w hm)
  rw [hg] at HN
  have HH : Hid (∀ w1, ChestAt w1 g b r L → Calls Tryz.prog 74 #[.pointer (some ⟨g, 0, none⟩), .string n] w1 fun e w' => e = .returned (.tuple #[.agg #[.string ⟨#[]⟩, .int .i64 0, .bool false], .int .i64 6]) ∧ Below w1.heap.size w1 w') := Lib.hid (fun w1 h => has_no h n hn hl)
  have HC := Lib.hid hC
  clear hC hg hl
  go_enter Tryz.func49, Tryz.ntmps49
  go_wp2_with (first | (go_at_call 73; refine HN.out.mono ?_; rintro e' w1 ⟨rfl, hb⟩; have HB := Lib.hid hb; clear hb) | (go_at_call 74; refine (HH.out _ (HC.out.low HB.out)).mono ?_; rintro e' w2 ⟨rfl, hb⟩; replace HB := Lib.hid (below_on HB.out hb); clear hb))
  go_ret
  exact ⟨rfl, HC.out.low (below_alloc HB.out _), Only.of_below (below_alloc HB.out _)⟩
set_option maxRecDepth 100000 in
theorem rcall_same {w : World} {g b : Nat} {r : Int} {L : List Rl} (hC : ChestAt w g b r L) (n : ByteArray) (hn : n.size ≤ 9223372036854775807) (hg : goodN n.data.toList = true) (c : Scr) (hl : lookL n.data.toList L = some c) :
    Calls Tryz.prog 49 #[.pointer (some ⟨g, 0, none⟩), .string n, .string n] w (ChR w g b 0 r L) := by
  have HN := Lib.hid (name_any n w hn)
  rw [hg] at HN
  have HH : Hid (∀ w1, ChestAt w1 g b r L → Calls Tryz.prog 74 #[.pointer (some ⟨g, 0, none⟩), .string n] w1 fun e w' => e = .returned (.tuple #[.agg #[.string c.s, .int .i64 c.p, .bool c.k], .int .i64 0]) ∧ Below w1.heap.size w1 w') := Lib.hid (fun w1 h => has_yes h n hn c hl)
  have HC := Lib.hid hC
  clear hC hg hl
  go_enter Tryz.func49, Tryz.ntmps49
  go_wp2_with (first | (go_at_call 73; refine HN.out.mono ?_; rintro e' w1 ⟨rfl, hb⟩; have HB := Lib.hid hb; clear hb) | (go_at_call 74; refine (HH.out _ (HC.out.low HB.out)).mono ?_; rintro e' w2 ⟨rfl, hb⟩; replace HB := Lib.hid (below_on HB.out hb); clear hb))
  go_ret
  exact ⟨rfl, HC.out.low (below_alloc HB.out _), Only.of_below (below_alloc HB.out _)⟩
set_option maxRecDepth 100000 in
set_option maxHeartbeats 1600000 in
theorem rcall_ok {w : World} {g b : Nat} {r : Int} {L : List Rl} (hC : ChestAt w g b r L) (hL : L.length < 1000000) (n m : ByteArray) (hn : n.size ≤ 9223372036854775807) (hm : m.size ≤ 9223372036854775807) (hg : goodN m.data.toList = true) (c : Scr) (hl : lookL n.data.toList L = some c) (hne : n ≠ m)
    (hr : 0 ≤ r) (hr2 : r ≤ 1048576) (hs : (atL m.data.toList L).s.size ≤ 1048576) (z : Int) (hz : z = r + (atL m.data.toList L).s.size) :
    Calls Tryz.prog 49 #[.pointer (some ⟨g, 0, none⟩), .string n, .string m] w (ChR w g b 0 z (putL m.data.toList ⟨c.s, c.p, true⟩ (delL n.data.toList L))) := by
  have HN := Lib.hid (name_any m w hm)
  rw [hg] at HN
  have HH : Hid (∀ w1, ChestAt w1 g b r L → Calls Tryz.prog 74 #[.pointer (some ⟨g, 0, none⟩), .string n] w1 fun e w' => e = .returned (.tuple #[.agg #[.string c.s, .int .i64 c.p, .bool c.k], .int .i64 0]) ∧ Below w1.heap.size w1 w') := Lib.hid (fun w1 h => has_yes h n hn c hl)
  have HC := Lib.hid hC
  have hgb := hC.ne
  have e1 : (n.toList == m.toList) = false := by rw [str_eqL]; exact decide_eq_false hne
  obtain ⟨d, hd⟩ : ∃ d, atL m.data.toList L = d := ⟨_, rfl⟩
  rw [hd] at hs hz
  have HD := Lib.hid hd
  have HZ := Lib.hid hz
  have HNE := Lib.hid hne
  clear hC hg hl hd hne hz
  go_enter Tryz.func49, Tryz.ntmps49
  go_wp2_with (first | (go_at_call 73; refine HN.out.mono ?_; rintro e' w1 ⟨rfl, hb⟩; have HB := Lib.hid hb; clear hb) | (go_at_call 74; refine (HH.out _ (HC.out.low HB.out)).mono ?_; rintro e' w2 ⟨rfl, hb⟩; replace HB := Lib.hid (below_on HB.out hb); clear hb))
  obtain ⟨y0, y1, y2⟩ := alloc_cells3 w2 (.string c.s) (.int .i64 c.p) (.bool c.k) 88
  have HC1 := Lib.hid (HC.out.low HB.out)
  have HV := Lib.hid (HC1.out.low (below_alloc (Below.refl _ _) (.cells #[.string c.s, .int .i64 c.p, .bool c.k] 88)))
  have HO : Hid (Only [g, b] w (w2.alloc (.cells #[.string c.s, .int .i64 c.p, .bool c.k] 88))) := Lib.hid (Only.of_below (below_alloc HB.out _))
  have hxg : ¬ w2.heap.size = g := by have := HC1.out.ltg; omega
  have hxb : ¬ w2.heap.size = b := by have := HC1.out.ltb; omega
  generalize w2.alloc (.cells #[.string c.s, .int .i64 c.p, .bool c.k] 88) = V at y0 y1 y2 HV HO ⊢
  generalize w2.heap.size = x at y0 y1 y2 hxg hxb ⊢
  clear HC1 HB w2 w1
  have c0 := HV.out.1
  have f0 := HV.out.2.2.1
  have c1 := HV.out.2.1
  have hfd : ∀ w : World, (Instr.field 88 (.agg #[.string d.s, .int .i64 d.p, .bool d.k]) 0).run Tryz.prog w = .ok (.string d.s) w := fun _ => by kernel_rfl
  have hlk := (HV.out.map.drew.look hm).1
  rw [HD.out] at hlk
  unfold scrV at hlk
  go_still_tail 15, (by kernel_rfl)
  change wpList _ _ _ _ _ V.drew
  have HV1 : Hid (ChestAt V.drew g b r L) := Lib.hid HV.out.drew
  have HO1 : Hid (Only [g, b] w V.drew) := Lib.hid HO.out.drew
  have z0 : V.drew.cell? ⟨x, 0, none⟩ = some (.string c.s) := y0
  have z1 : V.drew.cell? ⟨x, 1, none⟩ = some (.int .i64 c.p) := y1
  have z2 : V.drew.cell? ⟨x, 2, none⟩ = some (.bool c.k) := y2
  clear y0 y1 y2 c0 f0 c1 hlk hfd HV HO
  generalize V.drew = W at HV1 HO1 z0 z1 z2 ⊢
  clear V
  have c0 := HV1.out.1
  have c1 := HV1.out.2.1
  have f0 := HV1.out.2.2.1
  have HW : Hid (ChestAt (W.setCell ⟨g, 0, none⟩ (.int .i64 (r + d.s.size))) g b (r + d.s.size) L ∧ Only [g, b] w (W.setCell ⟨g, 0, none⟩ (.int .i64 (r + d.s.size)))) := Lib.hid ⟨HV1.out.room _, HO1.out.setCell (Or.inl (by simp)) _⟩
  have HZ3 : Hid ((W.setCell ⟨g, 0, none⟩ (.int .i64 (r + d.s.size))).cell? ⟨x, 0, none⟩ = some (.string c.s) ∧ (W.setCell ⟨g, 0, none⟩ (.int .i64 (r + d.s.size))).cell? ⟨x, 1, none⟩ = some (.int .i64 c.p) ∧ (W.setCell ⟨g, 0, none⟩ (.int .i64 (r + d.s.size))).cell? ⟨x, 2, none⟩ = some (.bool c.k)) := Lib.hid ⟨by rw [World.cell?_setCell_other _ _ _ _ (by intro e; exact hxg (congrArg Addr.block e).symm)]; exact z0, by rw [World.cell?_setCell_other _ _ _ _ (by intro e; exact hxg (congrArg Addr.block e).symm)]; exact z1, by rw [World.cell?_setCell_other _ _ _ _ (by intro e; exact hxg (congrArg Addr.block e).symm)]; exact z2⟩
  clear z0 z1 z2
  go_wp2_with (at_delete; refine wpList_del _ rfl _ _ rfl b L rfl HW.out.1.map n rfl hn ?_; intro w4 hM4 ht4; have H4 := Lib.hid (HW.out.1.turn ht4 hM4); have HO4 : Hid (Only [g, b] w w4) := Lib.hid (HW.out.2.turned ht4 (Or.inl (by simp))); have HO5 := Lib.hid (Only.turned (S := [b]) (Only.refl _ _) ht4 (Or.inl (by simp))); clear hM4 ht4)
  have z0 := HO5.out.cellK (p := ⟨x, 0, none⟩) (by simpa using hxb) HZ3.out.1
  have z1 := HO5.out.cellK (p := ⟨x, 1, none⟩) (by simpa using hxb) HZ3.out.2.1
  have z2 := HO5.out.cellK (p := ⟨x, 2, none⟩) (by simpa using hxb) HZ3.out.2.2
  clear HO5 HZ3 HW c0 c1 f0 HV1 HO1
  have c1 := H4.out.2.1
  go_still_tail 10, (by kernel_rfl)
  refine wpList_put _ rfl _ _ _ rfl b _ rfl H4.out.map.drew (by have := len_delL n.data.toList L; omega) m rfl hm ⟨c.s, c.p, true⟩ rfl ?_
  intro w5 hM5 ht5
  have H5 := Lib.hid (H4.out.drew.turn ht5 hM5)
  have HO5 : Hid (Only [g, b] w w5) := Lib.hid (HO4.out.drew.turned ht5 (Or.inl (by simp)))
  clear hM5 ht5 z0 z1 z2 c1 H4 HO4
  go_wp2_with fail
  go_ret
  exact ⟨rfl, by rw [HZ.out]; exact H5.out, HO5.out⟩
/-- What Call comes to. -/
def callS (r : Int) (L : List Rl) (n m : Nm) : Int × Int × List Rl := if goodN m = false then (1, r, L) else match lookL n L with
  | none => (6, r, L)
  | some c => if n = m then (0, r, L) else (0, r + lenL m L, putL m ⟨c.s, c.p, true⟩ (delL n L))
theorem rcall_any {w : World} {g b : Nat} {r : Int} {L : List Rl} (hC : ChestAt w g b r L) (hL : L.length < 1000000) (hk : OkL r L) (n m : ByteArray) (hn : n.size ≤ 9223372036854775807) (hm : m.size ≤ 9223372036854775807) :
    Calls Tryz.prog 49 #[.pointer (some ⟨g, 0, none⟩), .string n, .string m] w (ChR w g b (callS r L n.data.toList m.data.toList).1 (callS r L n.data.toList m.data.toList).2.1 (callS r L n.data.toList m.data.toList).2.2) := by
  unfold callS
  cases hg : goodN m.data.toList with
  | false => simp only [if_pos]; exact rcall_form hC n m hm hg
  | true =>
    cases hl : lookL n.data.toList L with
    | none => exact rcall_no hC n m hn hm hg hl
    | some c =>
      by_cases e : n = m
      · subst e
        simp only [if_pos]
        exact rcall_same hC n hn hg c hl
      · have e2 : ¬ n.data.toList = m.data.toList := fun q => e (ba_ext q)
        have h4 := sumL_nonneg L
        have h5 := hk.1
        have h6 := hk.2.1
        have := rcall_ok hC hL n m hn hm hg c hl e h5 (by omega) (hk.at _) (r + lenL m.data.toList L) (by rw [atL_size])
        simpa [e2] using this
end Go.Proofs.YthiphdcbboapkaaGreatDoor

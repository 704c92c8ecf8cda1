/- JournalAll's parts: a journal pressed; a row's front beside a journal; what a tear of a journal leaves. -/
import Derived.Test.YtjblbjamceloaaaGreatDoorJt
import Derived.Test.YtjblbjamceloaaaGreatDoorJy
import Derived.Test.YtjblbjamceloaaaGreatDoorRz
namespace Go.Proofs.YtjblbjamceloaaaGreatDoor
open Go.RowKit

theorem press_JL {w0 w : World} {J g b : Nat} {v : Value} {n : Nat} {r : Int} {L : List Rl} {s : ByteArray} {p : Int} {k : Bool} {first : ByteArray} {recs : List ByteArray} (H : JL w0 w J g b v n r L s p k first recs) (hn : n ≤ 800) :
    Calls Tryz.prog 13 #[.pointer (some ⟨J, 0, none⟩)] w fun e w' => e = .returned (.int .i64 0) ∧ ∃ L', JL w0 w' J g b v (n + 1) r L' s s.size true first recs ∧ Only [J, g, b] w w' := by
  have hlen := H.lg.ln
  obtain ⟨L2, hp, hl2, hn2⟩ := H.lg.press
  refine (jpress_any H.js (by omega) H.lg.ok hp).mono ?_
  rintro e w' ⟨rfl, hj, ho⟩
  exact ⟨rfl, L2, ⟨hj, hl2, by rw [hn2]; exact H.nn, H.da, H.sz⟩, ho⟩
theorem ownL_len (a : Option Addr) (n m c : Nat) : ownL (.slice a n c) = ownL (.slice a m c) := by
  rcases a with _ | ⟨q, o, p⟩ <;> rfl
theorem MidRow.take {w : World} {a : Option Addr} {c : Nat} {ss : List ByteArray} (h : MidRow w (.slice a ss.length c) ss) {n : Nat} (hn : n ≤ ss.length) : MidRow w (.slice a n c) (ss.take n) := by
  have hl : (ss.take n).length = n := by rw [List.length_take]; omega
  rcases h with ⟨e, rfl⟩ | ⟨q, o, cap, e, h1, h2, hq, h3, h4⟩
  · simp only [Value.slice.injEq] at e
    obtain ⟨rfl, -, rfl⟩ := e
    obtain rfl : n = 0 := by simpa using hn
    exact Or.inl ⟨rfl, rfl⟩
  · simp only [Value.slice.injEq] at e
    obtain ⟨rfl, -, rfl⟩ := e
    refine Or.inr ⟨q, o, c, by rw [hl], by omega, h2, hq, fun j s hj => ?_, h4⟩
    rw [List.getElem?_take] at hj
    split at hj
    · exact h3 j s hj
    · simp at hj
theorem Side.take {w0 w : World} {J g b : Nat} {v : Value} {a : Option Addr} {c : Nat} {all : List ByteArray} (h : Side w0 w J g b v (.slice a all.length c) all) {n : Nat} (hn : n ≤ all.length) : Side w0 w J g b v (.slice a n c) (all.take n) := by
  have e := ownL_len a n all.length c
  exact ⟨h.mr.take hn, by rw [e]; exact h.lo, by rw [e]; exact h.nj, by rw [e]; exact h.ng, by rw [e]; exact h.nb, by rw [e]; exact h.nv⟩
/-- Another journal, made behind the row. -/
theorem Side.renew {w0 w w' : World} {J g b J' g' b' : Nat} {v va v' : Value} {all : List ByteArray} {n : Nat} {r : Int} {L : List Rl} {s : ByteArray} {p : Int} {k : Bool} {first : ByteArray} {recs : List ByteArray} (h : Side w0 w J g b v va all) (H : JL w w' J' g' b' v' n r L s p k first recs) : Side w0 w' J' g' b' v' va all := by
  have hlt := h.mr.lt
  have hj := H.js.jb
  have hg := H.js.ch.2.2.1
  have hb := H.js.ch.2.2.2
  exact ⟨h.mr.low H.js.ch.2.1, h.lo, fun hm => by have := hlt _ hm; omega, fun hm => by have := hlt _ hm; omega, fun hm => by have := hlt _ hm; omega, fun q hq hm => by have := hlt _ hm; have := H.js.vb q hq; omega⟩
theorem JL.rebase {w0 w w' : World} {J g b : Nat} {v : Value} {n : Nat} {r : Int} {L : List Rl} {s : ByteArray} {p : Int} {k : Bool} {first : ByteArray} {recs : List ByteArray} (H : JL w w' J g b v n r L s p k first recs) (hb : Below w0.heap.size w0 w) : JL w0 w' J g b v n r L s p k first recs := by
  have h0 := hb.size
  exact ⟨⟨H.js.j, ⟨H.js.ch.1, below_on hb H.js.ch.2.1, Nat.le_trans h0 H.js.ch.2.2.1, Nat.le_trans h0 H.js.ch.2.2.2⟩, Nat.le_trans h0 H.js.jb, fun q hq => Nat.le_trans h0 (H.js.vb q hq), H.js.jg, H.js.jbn, H.js.vg, H.js.vbn⟩, H.lg, H.nn, H.da, H.sz⟩
theorem Side.three {w0 w w' : World} {J g b : Nat} {v v' va : Value} {all : List ByteArray} (h : Side w0 w J g b v va all) (k : Only [J, g, b] w w') (hq : ∀ q ∈ ownL v', q ∈ ownL v) : Side w0 w' J g b v' va all :=
  ⟨h.mr.keep k (fun q hq hm => by
    simp at hm
    rcases hm with rfl | rfl | rfl
    · exact h.nj hq
    · exact h.ng hq
    · exact h.nb hq), h.lo, h.nj, h.ng, h.nb, fun q h1 => h.nv q (hq q h1)⟩
/-- A new journal is opened out of what a tear left. -/
theorem reopen {w0 wr w : World} (LA : Laid w0) {g b J0 : Nat} {v0 : Value} {n : Nat} {r r0 : Int} {L L0 : List Rl} {s : ByteArray} {p0 : Int} {k0 : Bool} {first : ByteArray} {recs : List ByteArray} {g0 b0 n0 m sure : Nat}
    (H : JL w0 wr J0 g0 b0 v0 n0 r0 L0 s p0 k0 first recs) (hc : ChS wr w g b r L) (hl : Log n r L (s.extract 0 m) m true) (hn : n ≤ 800) (hms : m ≤ s.size) (hsure : sure ≤ recs.length) (hp : ((leavesL (first :: recs.take sure)).length : Int) ≤ m) (h9 : s.size < 900000) :
    Calls Tryz.prog 10 #[.pointer (some ⟨g, 0, none⟩)] w fun e w' => ∃ J v r' L' s' k' j, e = .returned (.tuple #[.pointer (some ⟨J, 0, none⟩), .int .i64 0]) ∧ JL wr w' J g b v (n + 2) r' L' s' s'.size k' first (recs.take j) ∧ r ≤ r' ∧ sure ≤ j ∧ j ≤ recs.length ∧ s'.size ≤ s.size := by
  have hf := H.front hms
  have h11 : (leafL first.data.toList).length ≤ m := by
    have h1 : (leavesL (first :: recs.take sure)).length = (leafL first.data.toList).length + (leavesL (recs.take sure)).length := by
      show (leafL first.data.toList ++ leavesL (recs.take sure)).length = _
      rw [List.length_append]
    omega
  refine (open_front (LA.keep H.js.ch.2.1) hc hl hn H.sz (by rw [hf.1, ← hf.2.2]; exact hms) (by rw [hf.1]; exact h11) hf.2.1 (by rw [hf.1]; omega)).mono ?_
  rintro e w' ⟨J, v, r', L', s', p', k', j, rfl, hj, hJ, ho, hr, hjr, hmax, hle, hp'⟩
  have hs' : s'.size = (leavesL (first :: recs.take j)).length := by rw [Lib.size_eq, hj.da]
  rw [hf.1] at hle hmax
  have hsj : sure ≤ j := hmax _ hsure (by omega)
  obtain rfl : p' = (s'.size : Int) := by omega
  exact ⟨J, v, r', L', s', k', j, rfl, hj, hr, hsj, hjr, by omega⟩
theorem JL.mono {w0 w : World} {J g b : Nat} {v : Value} {n m : Nat} {r : Int} {L : List Rl} {s : ByteArray} {p : Int} {k : Bool} {first : ByteArray} {recs : List ByteArray} (H : JL w0 w J g b v n r L s p k first recs) (h : n ≤ m) : JL w0 w J g b v m r L s p k first recs := ⟨H.js, H.lg.mono h, H.nn, H.da, H.sz⟩
/-- An operation of JournalAll's. -/
structure JOp where
  kind : Int
  n : Int
  s : ByteArray
  press : Bool
def JOp.cells (o : JOp) : List Value := [.int .i64 o.kind, .int .i64 o.n, .string o.s, .bool o.press]
/-- An operation in a block of its own. -/
structure OpAt (w : World) (q : Nat) (kd on : Int) (os : ByteArray) (op : Bool) : Prop where
  c0 : w.cell? ⟨q, 0, none⟩ = some (.int .i64 kd)
  c1 : w.cell? ⟨q, 1, none⟩ = some (.int .i64 on)
  c2 : w.cell? ⟨q, 2, none⟩ = some (.string os)
  c3 : w.cell? ⟨q, 3, none⟩ = some (.bool op)
theorem OpAt.keep {w w' : World} {q : Nat} {kd on : Int} {os : ByteArray} {op : Bool} {S : List Nat} (h : OpAt w q kd on os op) (k : Only S w w') (hq : q ∉ S) : OpAt w' q kd on os op :=
  ⟨k.cellK (p := ⟨q, 0, none⟩) hq h.c0, k.cellK (p := ⟨q, 1, none⟩) hq h.c1, k.cellK (p := ⟨q, 2, none⟩) hq h.c2, k.cellK (p := ⟨q, 3, none⟩) hq h.c3⟩
theorem OpAt.low {w w' : World} {q : Nat} {kd on : Int} {os : ByteArray} {op : Bool} (h : OpAt w q kd on os op) (k : Below w.heap.size w w') : OpAt w' q kd on os op := h.keep (S := []) (Only.of_below k) (by simp)
theorem opat_new (w : World) (kd on : Int) (os : ByteArray) (op : Bool) (ty : TypeId) : OpAt (w.alloc (.cells #[.int .i64 kd, .int .i64 on, .string os, .bool op] ty)) w.heap.size kd on os op := ⟨by simp, by simp, by simp, by simp⟩
theorem MidRow.row' {w : World} {a : Option Addr} {n c : Nat} {ss : List ByteArray} (h : MidRow w (.slice a n c) ss) : RowAt w a (ss.map .string) := by
  obtain ⟨a', c', e⟩ := h.form
  simp only [Value.slice.injEq] at e
  obtain ⟨rfl, rfl, rfl⟩ := e
  exact h.row
theorem leaves_pos {first : ByteArray} (h : first.size ≤ 400000) (recs : List ByteArray) : 11 ≤ (leavesL (first :: recs)).length := by
  rw [leavesL_cons_len]; have := (leaf_bd h).1; omega
theorem RowsAt.op {w : World} {a : Option Addr} {z : List JOp} (h : RowsAt w a 4 (z.map JOp.cells)) {k : Nat} (hk : k < z.length) : ∃ q o, a = some ⟨q, o, none⟩ ∧ w.cell? ⟨q, o + k * 4, none⟩ = some (.int .i64 z[k].kind) ∧ w.cell? ⟨q, o + k * 4 + 1, none⟩ = some (.int .i64 z[k].n) ∧ w.cell? ⟨q, o + k * 4 + 2, none⟩ = some (.string z[k].s) ∧ w.cell? ⟨q, o + k * 4 + 3, none⟩ = some (.bool z[k].press) := by
  rcases h with h | ⟨q, o, rfl, hq, hc⟩
  · have : z = [] := by simpa using h
    subst this; simp at hk
  · have hg : (z.map JOp.cells)[k]? = some z[k].cells := by rw [List.getElem?_map, List.getElem?_eq_getElem hk]; rfl
    exact ⟨q, o, rfl, hc k _ hg 0 _ rfl, hc k _ hg 1 _ rfl, hc k _ hg 2 _ rfl, hc k _ hg 3 _ rfl⟩
theorem take_app {done : List ByteArray} {A : ByteArray} {sure : Nat} (h : sure ≤ done.length) : (done ++ [A]).take sure = done.take sure := List.take_append_of_le_length h
theorem JL.len {w0 w : World} {J g b : Nat} {v : Value} {n : Nat} {r : Int} {L : List Rl} {s : ByteArray} {p : Int} {k : Bool} {first : ByteArray} {recs : List ByteArray} (H : JL w0 w J g b v n r L s p k first recs) {m : Nat} (hm : recs.length ≤ m) : (leavesL (first :: recs.take m)).length = s.size := by
  rw [List.take_of_length_le hm, ← H.da, ← Lib.size_eq]
end Go.Proofs.YtjblbjamceloaaaGreatDoor

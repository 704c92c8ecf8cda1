/- Plain: the leaves of a roll and its fronts; a chest that holds a log. Plain: a chest that holds a log, through every operation. A journal over its log, through Open, Add, Lay, Tear. -/
import Derived.Test.YthiphdcbboapkaaGreatDoorND
import Derived.Test.YthiphdcbboapkaaGreatDoorN7
namespace Go.Proofs.YthiphdcbboapkaaGreatDoor
open Go.RowKit

/-- The leaves of texts, one behind the other. -/
def leavesL : List ByteArray → List UInt8
  | [] => []
  | x :: r => leafL x.data.toList ++ leavesL r
theorem leavesL_append : ∀ a b : List ByteArray, leavesL (a ++ b) = leavesL a ++ leavesL b
  | [], b => rfl
  | x :: r, b => by
    show leafL x.data.toList ++ leavesL (r ++ b) = leafL x.data.toList ++ leavesL r ++ leavesL b
    rw [leavesL_append r b, List.append_assoc]
theorem leavesL_one (x : ByteArray) : leavesL [x] = leafL x.data.toList := List.append_nil _
theorem leavesL_take_le (a : List ByteArray) (i : Nat) : (leavesL (a.take i)).length ≤ (leavesL a).length := by
  have h := leavesL_append (a.take i) (a.drop i)
  rw [List.take_append_drop] at h
  rw [h, List.length_append]; omega
/-- What stands in any front of leaves: some of them whole, and perhaps a torn one. -/
theorem prun_from : ∀ (all : List ByteArray) (s : ByteArray) (k m : Nat), (∀ x ∈ all, x.size ≤ 400000) → k ≤ s.size → m ≤ (leavesL all).length → s.data.toList.drop k = (leavesL all).take m →
    ∃ j a e, j ≤ all.length ∧ PRun s k (all.take j) a e ∧ a = k + (leavesL (all.take j)).length ∧ (∀ i, i ≤ all.length → (leavesL (all.take i)).length ≤ m → i ≤ j) ∧ ((e = 0 ∧ a = s.size) ∨ (e = 2 ∧ a < s.size))
  | [], s, k, m, _, hk, hm, h => by
    have hm0 : m = 0 := by simpa [leavesL] using hm
    have h1 : s.size - k = 0 := by
      have := congrArg List.length h
      rw [List.length_drop, ← Lib.size_eq] at this
      simpa [leavesL] using this
    obtain rfl : k = s.size := by omega
    exact ⟨0, _, _, Nat.le_refl _, .stop, by simp [leavesL], fun i hi _ => hi, Or.inl ⟨rfl, rfl⟩⟩
  | x :: rest, s, k, m, hx, hk, hm, h => by
    have hl : s.size - k = m := by
      have := congrArg List.length h
      rw [List.length_drop, ← Lib.size_eq, List.length_take] at this
      omega
    have hX : (s.extract k s.size).data.toList = (leavesL (x :: rest)).take m := by rw [Lib.extract_to_end]; exact h
    have hx0 := hx x (by simp)
    have e1 : leavesL (x :: rest) = leafL x.data.toList ++ leavesL rest := rfl
    have hpos : 0 < (leafL x.data.toList).length := by
      rw [leafL_len (by rw [← Lib.size_eq]; exact hx0)]; omega
    by_cases hmx : (leafL x.data.toList).length ≤ m
    · rw [e1, List.take_append, List.take_of_length_le hmx] at hX
      have ht := turn_leaf hx0 hX
      obtain ⟨j, a, e, h1, h2, h3, h4, h5⟩ := prun_from rest s (k + (leafL x.data.toList).length) (m - (leafL x.data.toList).length) (fun y hy => hx y (by simp [hy])) (by omega) (by rw [e1, List.length_append] at hm; omega) (by
        rw [Lib.extract_to_end] at hX
        rw [← List.drop_drop, hX, List.drop_left])
      refine ⟨j + 1, a, e, by simp; omega, .step _ _ _ _ _ _ (by omega) ht h2, ?_, ?_, h5⟩
      · rw [h3]
        show _ = k + (leafL x.data.toList ++ leavesL (rest.take j)).length
        rw [List.length_append]; omega
      · intro i hi hle
        cases i with
        | zero => omega
        | succ i =>
          have := h4 i (by simpa using hi) (by
            have hle' : (leafL x.data.toList ++ leavesL (rest.take i)).length ≤ m := hle
            rw [List.length_append] at hle'
            omega)
          omega
    · have hno : ∀ i, i ≤ (x :: rest).length → (leavesL ((x :: rest).take i)).length ≤ m → i ≤ 0 := fun i hi hle => by
        cases i with
        | zero => omega
        | succ i =>
          have hle' : (leafL x.data.toList ++ leavesL (rest.take i)).length ≤ m := hle
          rw [List.length_append] at hle'
          omega
      by_cases hm0 : m = 0
      · obtain rfl : k = s.size := by omega
        exact ⟨0, _, _, Nat.zero_le _, .stop, by simp [leavesL], fun i hi h => hno i hi h, Or.inl ⟨rfl, rfl⟩⟩
      · rw [e1, List.take_append_of_le_length (by omega)] at hX
        have ht := turn_front hx0 (by omega) hX
        exact ⟨0, k, 2, Nat.zero_le _, .err _ _ (by omega) (by rw [ht]) (by decide), by simp [leavesL], fun i hi h => hno i hi h, Or.inr ⟨rfl, by omega⟩⟩
/-- All leaves whole. -/
theorem prun_all {all : List ByteArray} {s : ByteArray} (hx : ∀ x ∈ all, x.size ≤ 400000) (h : s.data.toList = leavesL all) : PRun s 0 all s.size 0 := by
  obtain ⟨j, a, e, h1, h2, h3, h4, h5⟩ := prun_from all s 0 (leavesL all).length hx (Nat.zero_le _) (Nat.le_refl _) (by rw [List.drop_zero, List.take_length, h])
  have hj : j = all.length := by
    have := h4 all.length (Nat.le_refl _) (by rw [List.take_length]; omega)
    omega
  subst hj
  rw [List.take_length] at h2 h3
  have hs : s.size = (leavesL all).length := by rw [Lib.size_eq, h]
  rcases h5 with ⟨rfl, rfl⟩ | ⟨-, h5⟩
  · exact h2
  · omega
end Go.Proofs.YthiphdcbboapkaaGreatDoor
namespace Go.Proofs.YthiphdcbboapkaaGreatDoor
open Go.RowKit

abbrev kLOG : Nm := bLOG.data.toList
abbrev kNEW : Nm := bNEW.data.toList
abbrev kOLD : Nm := bOLD.data.toList
theorem good_LOG : goodN kLOG = true := by decide
theorem good_NEW : goodN kNEW = true := by decide
theorem good_OLD : goodN kOLD = true := by decide
theorem log_ne_new : kLOG ≠ kNEW := by decide
theorem log_ne_old : kLOG ≠ kOLD := by decide
theorem new_ne_old : kNEW ≠ kOLD := by decide
/-- A chest that may be, of at most so many rolls. -/
structure Che (n : Nat) (r : Int) (L : List Rl) : Prop where
  ok : OkL r L
  ri : Rising L
  ln : L.length ≤ n
/-- And that holds a log. -/
structure Log (n : Nat) (r : Int) (L : List Rl) (s : ByteArray) (p : Int) (k : Bool) : Prop extends Che n r L where
  lk : lookL kLOG L = some ⟨s, p, k⟩
theorem Log.bd {n : Nat} {r : Int} {L : List Rl} {s : ByteArray} {p : Int} {k : Bool} (h : Log n r L s p k) : 0 ≤ r ∧ 0 ≤ p ∧ p ≤ s.size ∧ r + s.size ≤ 1048576 := by
  have h1 := h.ok.look h.lk
  have h2 := lenL_le kLOG L
  unfold lenL at h2
  rw [h.lk] at h2
  simp only at h1 h2
  have h3 := h.ok.1
  have h4 := h.ok.2.1
  omega
theorem Log.mono {n m : Nat} {r : Int} {L : List Rl} {s : ByteArray} {p : Int} {k : Bool} (h : Log n r L s p k) (hm : n ≤ m) : Log m r L s p k := ⟨⟨h.ok, h.ri, Nat.le_trans h.ln hm⟩, h.lk⟩
theorem Che.new (n : Nat) {r : Int} (h : 0 ≤ r) (h2 : r ≤ 1048576) : Che n r [] := ⟨OkL.nil h h2, List.Pairwise.nil, Nat.zero_le _⟩
theorem Log.at {n : Nat} {r : Int} {L : List Rl} {s : ByteArray} {p : Int} {k : Bool} (h : Log n r L s p k) : atL kLOG L = ⟨s, p, k⟩ := by unfold atL; rw [h.lk]; rfl
/-- A first write. -/
theorem Che.start {n : Nat} {r : Int} {L : List Rl} (h : Che n r L) (hl : lookL kLOG L = none) (x : ByteArray) (hr : (x.size : Int) ≤ r) :
    ∃ L', writeS r L kLOG x = (0, r - x.size, L') ∧ Log (n + 1) (r - x.size) L' x 0 false ∧ lookL kNEW L' = lookL kNEW L := by
  have h1 := writeS_put (L := L) (n := kLOG) (s := x) good_LOG hr
  have h2 := writeS_ok h.ok h.ri kLOG x
  have e : atL kLOG L = zScr := by unfold atL; rw [hl]; rfl
  have e2 : catB (atL kLOG L).s x = x := by rw [e]; exact catB_nil x
  rw [h1] at h2
  rw [e2, e] at h1 h2
  refine ⟨_, h1, ⟨⟨h2.1, h2.2.1, by have := h2.2.2.1; have := h.ln; simp only at *; omega⟩, ?_⟩, ?_⟩
  · rw [look_putL h.ri, if_pos rfl]; rfl
  · rw [look_putL h.ri, if_neg (Ne.symm log_ne_new)]
theorem Log.write {n : Nat} {r : Int} {L : List Rl} {s : ByteArray} {p : Int} {k : Bool} (h : Log n r L s p k) (x : ByteArray) (hr : (x.size : Int) ≤ r) :
    ∃ L', writeS r L kLOG x = (0, r - x.size, L') ∧ Log (n + 1) (r - x.size) L' (catB s x) p k ∧ lookL kNEW L' = lookL kNEW L := by
  have h1 := writeS_put (L := L) (n := kLOG) (s := x) good_LOG hr
  have h2 := writeS_ok h.ok h.ri kLOG x
  rw [h1] at h2
  rw [h.at] at h1 h2
  refine ⟨_, h1, ⟨⟨h2.1, h2.2.1, by have := h2.2.2.1; have := h.ln; simp only at *; omega⟩, ?_⟩, ?_⟩
  · rw [look_putL h.ri, if_pos rfl]
  · rw [look_putL h.ri, if_neg (Ne.symm log_ne_new)]
theorem Log.full {n : Nat} {r : Int} {L : List Rl} {s : ByteArray} {p : Int} {k : Bool} (_h : Log n r L s p k) (x : ByteArray) (hr : r < (x.size : Int)) : writeS r L kLOG x = (5, r, L) := by
  unfold writeS
  rw [if_neg (by rw [good_LOG]; simp), if_pos hr]
theorem Log.press {n : Nat} {r : Int} {L : List Rl} {s : ByteArray} {p : Int} {k : Bool} (h : Log n r L s p k) :
    ∃ L', pressS L kLOG = (0, L') ∧ Log (n + 1) r L' s s.size true ∧ lookL kNEW L' = lookL kNEW L := by
  have h2 := pressS_ok h.ok h.ri kLOG
  have h1 : pressS L kLOG = (0, putL kLOG ⟨s, s.size, true⟩ L) := by unfold pressS; rw [h.lk]
  rw [h1] at h2
  refine ⟨_, h1, ⟨⟨h2.1, h2.2.1, by have := h2.2.2.1; have := h.ln; simp only at *; omega⟩, ?_⟩, ?_⟩
  · rw [look_putL h.ri, if_pos rfl]
  · rw [look_putL h.ri, if_neg (Ne.symm log_ne_new)]
/-- What Open does first, over any chest. -/
theorem Che.call {n : Nat} {r : Int} {L : List Rl} (h : Che n r L) :
    ∃ ec r1 L1, callS r L kNEW kOLD = (ec, r1, L1) ∧ Che (n + 1) r1 L1 ∧ lookL kLOG L1 = lookL kLOG L ∧ lookL kNEW L1 = none ∧ r ≤ r1 ∧ (lookL kNEW L = none → r1 = r ∧ L1 = L) := by
  have h2 := callS_ok h.ok h.ri kNEW kOLD
  cases hl : lookL kNEW L with
  | none =>
    have h1 : callS r L kNEW kOLD = (6, r, L) := by unfold callS; rw [if_neg (by rw [good_OLD]; simp), hl]
    exact ⟨_, _, _, h1, ⟨h.ok, h.ri, by have := h.ln; omega⟩, rfl, hl, Int.le_refl _, fun _ => ⟨rfl, rfl⟩⟩
  | some c =>
    have h1 : callS r L kNEW kOLD = (0, r + lenL kOLD L, putL kOLD ⟨c.s, c.p, true⟩ (delL kNEW L)) := by unfold callS; rw [if_neg (by rw [good_OLD]; simp), hl]; simp only; rw [if_neg new_ne_old]
    rw [h1] at h2
    have hd := delL_rising (n := kNEW) h.ri
    refine ⟨_, _, _, h1, ⟨h2.1, h2.2.1, by have := h2.2.2.1; have := h.ln; simp only at *; omega⟩, ?_, ?_, by have := lenL_nonneg kOLD L; omega, fun h => by cases h⟩
    · rw [look_putL hd, if_neg log_ne_old, look_delL h.ri, if_neg log_ne_new]
    · rw [look_putL hd, if_neg new_ne_old, look_delL h.ri, if_pos rfl]
theorem Log.cut {n : Nat} {r : Int} {L : List Rl} {s : ByteArray} {p : Int} {k : Bool} (h : Log n r L s p k) (m : Nat) (hm : m ≤ s.size) :
    ∃ L', cutSp r L kLOG m = (0, r + (s.size - m), L') ∧ Log (n + 1) (r + (s.size - m)) L' (s.extract 0 m) (min p m) true ∧ lookL kNEW L' = lookL kNEW L := by
  have h2 := cutSp_ok h.ok h.ri kLOG m
  have h1 : cutSp r L kLOG m = (0, r + (s.size - m), putL kLOG ⟨s.extract 0 m, min p m, true⟩ L) := by unfold cutSp; rw [h.lk]; simp only; rw [if_neg (by omega)]; rfl
  rw [h1] at h2
  refine ⟨_, h1, ⟨⟨h2.1, h2.2.1, by have := h2.2.2.1; have := h.ln; simp only at *; omega⟩, ?_⟩, ?_⟩
  · rw [look_putL h.ri, if_pos rfl]
  · rw [look_putL h.ri, if_neg (Ne.symm log_ne_new)]
/-- Laid anew. -/
theorem Log.lay {n : Nat} {r : Int} {L : List Rl} {s : ByteArray} {p : Int} {k : Bool} (h : Log n r L s p k) (hn : lookL kNEW L = none) (x : ByteArray) (hr : (x.size : Int) ≤ r) :
    ∃ La L1 L2, writeS r L kNEW x = (0, r - x.size, La) ∧ pressS La kNEW = (0, L1) ∧ callS (r - x.size) L1 kNEW kLOG = (0, r - x.size + s.size, L2) ∧ Log (n + 3) (r - x.size + s.size) L2 x x.size true ∧ lookL kNEW L2 = none := by
  have h1 := writeS_put (L := L) (n := kNEW) (s := x) good_NEW hr
  have g1 := writeS_ok h.ok h.ri kNEW x
  have e : atL kNEW L = zScr := by unfold atL; rw [hn]; rfl
  have e2 : catB (atL kNEW L).s x = x := by rw [e]; exact catB_nil x
  rw [h1] at g1
  rw [e2, e] at h1 g1
  obtain ⟨La, hLa⟩ : ∃ La, putL kNEW ⟨x, zScr.p, zScr.k⟩ L = La := ⟨_, rfl⟩
  rw [hLa] at h1 g1
  have l1 : lookL kNEW La = some ⟨x, 0, false⟩ := by rw [← hLa, look_putL h.ri, if_pos rfl]; rfl
  have l2 : lookL kLOG La = some ⟨s, p, k⟩ := by rw [← hLa, look_putL h.ri, if_neg log_ne_new, h.lk]
  have h3 : pressS La kNEW = (0, putL kNEW ⟨x, x.size, true⟩ La) := by unfold pressS; rw [l1]
  have g3 := pressS_ok g1.1 g1.2.1 kNEW
  rw [h3] at g3
  obtain ⟨Lb, hLb⟩ : ∃ Lb, putL kNEW ⟨x, x.size, true⟩ La = Lb := ⟨_, rfl⟩
  rw [hLb] at h3 g3
  have l3 : lookL kNEW Lb = some ⟨x, x.size, true⟩ := by rw [← hLb, look_putL g1.2.1, if_pos rfl]
  have l4 : lookL kLOG Lb = some ⟨s, p, k⟩ := by rw [← hLb, look_putL g1.2.1, if_neg log_ne_new, l2]
  have l5 : lenL kLOG Lb = s.size := by unfold lenL; rw [l4]
  have h5 : callS (r - x.size) Lb kNEW kLOG = (0, r - x.size + s.size, putL kLOG ⟨x, x.size, true⟩ (delL kNEW Lb)) := by
    unfold callS; rw [if_neg (by rw [good_LOG]; simp), l3]; simp only; rw [if_neg (Ne.symm log_ne_new), l5]
  have g5 := callS_ok g3.1 g3.2.1 kNEW kLOG
  rw [h5] at g5
  have hd := delL_rising (n := kNEW) g3.2.1
  refine ⟨_, _, _, h1, h3, h5, ⟨⟨g5.1, g5.2.1, ?_⟩, ?_⟩, ?_⟩
  · have := g5.2.2.1; have := g3.2.2.1; have := g1.2.2.1; have := h.ln
    simp only at *
    omega
  · rw [look_putL hd, if_pos rfl]
  · rw [look_putL hd, if_neg (Ne.symm log_ne_new), look_delL g3.2.1, if_pos rfl]
theorem tear_room {r : Int} {L : List Rl} (h : OkL r L) (hs : Rising L) (t : Int) : r ≤ tearS r L t ∧ OkL (tearS r L t) (tearL t L) ∧ Rising (tearL t L) ∧ (tearL t L).length ≤ L.length := by
  have h1 := tearS_ok h hs t
  refine ⟨?_, h1.1, tearL_rising hs, ?_⟩
  · have h2 : ∀ M : List Rl, (∀ x ∈ M, 0 ≤ x.2.p ∧ x.2.p ≤ x.2.s.size) → sumL (tearL t M) ≤ sumL M := by
      intro M
      induction M with
      | nil => intro _; exact Int.le_refl _
      | cons x M ih =>
        intro hp
        have h3 := ih (fun y hy => hp y (by simp [hy]))
        have h4 := leftK_bd (k := t) (hp x (by simp))
        unfold tearL at h3 ⊢
        rw [List.filterMap_cons]
        unfold tearOne
        by_cases hc : (decide (0 < leftK t x.2) || x.2.k) = true
        · rw [if_pos hc]
          simp only [Option.map_some, sumL]
          have h5 : ((x.2.s.extract 0 (leftK t x.2).toNat).size : Int) ≤ x.2.s.size := by rw [ByteArray.size_extract]; omega
          unfold tearOne at h3
          omega
        · rw [if_neg hc]
          simp only [Option.map_none, sumL]
          unfold tearOne at h3
          omega
    have := h2 L h.2.2
    unfold tearS; omega
  · unfold tearL; exact List.length_filterMap_le _ _
theorem Log.tear {n : Nat} {r : Int} {L : List Rl} {s : ByteArray} {p : Int} {k : Bool} (h : Log n r L s p k) (t : Int) {m : Nat} (hm : leftK t ⟨s, p, k⟩ = m) (hk : 0 < m ∨ k = true) :
    Log n (tearS r L t) (tearL t L) (s.extract 0 m) m true ∧ r ≤ tearS r L t := by
  obtain ⟨h1, h2, h3, h4⟩ := tear_room h.ok h.ri t
  refine ⟨⟨⟨h2, h3, Nat.le_trans h4 h.ln⟩, ?_⟩, h1⟩
  rw [lookL_iff h3, mem_tearL]
  refine ⟨_, lookL_mem h.lk, ?_⟩
  unfold tearOne
  rw [hm]
  rw [if_pos (by rcases hk with h | h <;> simp [h])]
  rfl
end Go.Proofs.YthiphdcbboapkaaGreatDoor
namespace Go.Proofs.YthiphdcbboapkaaGreatDoor
open Go.RowKit

/-- A journal over a chest whose log holds it. -/
structure JL (w0 w : World) (J g b : Nat) (v : Value) (n : Nat) (r : Int) (L : List Rl) (s : ByteArray) (p : Int) (k : Bool) (first : ByteArray) (recs : List ByteArray) : Prop where
  js : JS w0 w J g b v r L first recs false
  lg : Log n r L s p k
  nn : lookL kNEW L = none
  da : s.data.toList = leavesL (first :: recs)
  sz : ∀ x ∈ first :: recs, x.size ≤ 400000
theorem JL.low {w0 w w' : World} {J g b : Nat} {v : Value} {n : Nat} {r : Int} {L : List Rl} {s : ByteArray} {p : Int} {k : Bool} {first : ByteArray} {recs : List ByteArray} (h : JL w0 w J g b v n r L s p k first recs) (hb : Below w.heap.size w w') : JL w0 w' J g b v n r L s p k first recs := ⟨h.js.low hb, h.lg, h.nn, h.da, h.sz⟩
theorem leaf_nil : leafB ⟨#[]⟩ = ⟨(leafL []).toArray⟩ := rfl
theorem leaf_nil_size : (leafB ⟨#[]⟩).size = 11 := by
  rw [leafB_size (by decide), Lib.decDigits_one (by decide)]
  rfl
theorem leaf_bd {s : ByteArray} (h : s.size ≤ 400000) : 11 ≤ (leafB s).size ∧ (leafB s).size ≤ s.size + 17 := by
  rw [leafB_size h]
  have h1 := digits_le (m := s.size) (by omega)
  have h2 : 0 < (Lib.decDigits s.size).length := decDigits_pos _
  omega
theorem leaves_one_list (x : ByteArray) : (leafB x).data.toList = leavesL [x] := by rw [leafB_list, leavesL_one]
theorem open_fresh {w0 w : World} (LA : Laid w0) {g b : Nat} {r : Int} (H : ChS w0 w g b r []) (h1 : 11 ≤ r) (h2 : r ≤ 1048576) :
    Calls Tryz.prog 32 #[.pointer (some ⟨g, 0, none⟩)] w fun e w' => ∃ J v L, e = .returned (.tuple #[.pointer (some ⟨J, 0, none⟩), .int .i64 0]) ∧ JL w0 w' J g b v 3 (r - 11) L (leafB ⟨#[]⟩) 11 true ⟨#[]⟩ [] ∧ (w.heap.size ≤ J ∧ ∀ q ∈ ownL v, w.heap.size ≤ q) ∧ Only [g, b] w w' := by
  have hc := Che.new 0 (by omega) h2 (r := r)
  obtain ⟨ec, r1, L1, hcall, hc1, hl1, hn1, -, heq⟩ := hc.call
  obtain ⟨rfl, rfl⟩ := heq rfl
  have hsz := leaf_nil_size
  obtain ⟨La, hw, hlog, hnw⟩ := hc1.start (by rfl) (leafB ⟨#[]⟩) (by rw [hsz]; omega)
  obtain ⟨Lb, hp, hlog2, hnp⟩ := hlog.press
  rw [hsz] at hw hlog hlog2
  have hpr := prun_all (all := [⟨#[]⟩]) (s := leafB ⟨#[]⟩) (fun x hx => by simp at hx; subst hx; decide) (leaves_one_list _)
  refine (open_any LA H (by decide) hc.ok hc.ri hcall (by rw [hsz]; omega) (Or.inr ⟨rfl, rfl, La, hw, hp⟩) hpr (r3 := r1 - 11) (L3 := Lb) (ec2 := 0) (Or.inl ⟨rfl, rfl, rfl⟩)).mono ?_
  rintro e w' (⟨h, -⟩ | ⟨f, rs, J, v, h, -, rfl, hj, hJ, ho⟩)
  · rcases h with h | h <;> simp at h
  · simp only [List.cons.injEq, List.nil_eq] at h
    obtain ⟨rfl, rfl⟩ := h
    exact ⟨J, v, Lb, rfl, ⟨hj, hlog2, by rw [hnp, hnw]; rfl, leaves_one_list _, fun x hx => by simp at hx; subst hx; decide⟩, hJ, ho⟩
/-- Any front of a log that has its first leaf. -/
theorem open_front {w0 w : World} (LA : Laid w0) {g b n : Nat} {r : Int} {L : List Rl} {s : ByteArray} {p : Int} {k : Bool} (H : ChS w0 w g b r L) (hg : Log n r L s p k) (hn : n ≤ 800) {first : ByteArray} {recs : List ByteArray} (hx : ∀ x ∈ first :: recs, x.size ≤ 400000)
    (hm : s.size ≤ (leavesL (first :: recs)).length) (hf : (leafL first.data.toList).length ≤ s.size) (hs : s.data.toList = (leavesL (first :: recs)).take s.size) (h9 : s.size < 900000) :
    Calls Tryz.prog 32 #[.pointer (some ⟨g, 0, none⟩)] w fun e w' => ∃ J v r' L' s' p' k' j, e = .returned (.tuple #[.pointer (some ⟨J, 0, none⟩), .int .i64 0]) ∧ JL w0 w' J g b v (n + 2) r' L' s' p' k' first (recs.take j) ∧ (w.heap.size ≤ J ∧ ∀ q ∈ ownL v, w.heap.size ≤ q) ∧ Only [g, b] w w' ∧ r ≤ r' ∧ j ≤ recs.length ∧ (∀ i, i ≤ recs.length → (leavesL (first :: recs.take i)).length ≤ s.size → i ≤ j) ∧ (leavesL (first :: recs.take j)).length ≤ s.size ∧ p' = min p s'.size := by
  obtain ⟨ec, r1, L1, hcall, hc1, hl1, hn1, hr1, -⟩ := hg.toChe.call
  have hlog1 : Log (n + 1) r1 L1 s p k := ⟨hc1, by rw [hl1]; exact hg.lk⟩
  obtain ⟨j, a, e, hj, hp, ha, hmax, hend⟩ := prun_from (first :: recs) s 0 s.size hx (Nat.zero_le _) hm (by rw [List.drop_zero]; exact hs)
  have hj1 : 1 ≤ j := hmax 1 (by simp) (by simpa [leavesL] using hf)
  obtain ⟨j, rfl⟩ : ∃ i, j = i + 1 := ⟨j - 1, by omega⟩
  rw [List.take_succ_cons] at hp ha
  rw [Nat.zero_add] at ha
  have hle : a ≤ s.size := hp.le.2.1
  have hmax2 : ∀ i, i ≤ recs.length → (leavesL (first :: recs.take i)).length ≤ s.size → i ≤ j := fun i hi h => by
    have := hmax (i + 1) (by simpa using hi) (by rw [List.take_succ_cons]; exact h)
    omega
  have hx2 : ∀ x ∈ first :: recs.take j, x.size ≤ 400000 := fun x h => hx x (by
    rcases List.mem_cons.mp h with h | h
    · exact List.mem_cons.mpr (Or.inl h)
    · exact List.mem_cons.mpr (Or.inr (List.mem_of_mem_take h)))
  have hread : (lookL bLOG.data.toList L1).isSome = true ∧ (atL bLOG.data.toList L1).s = s ∧ r1 = r1 ∧ L1 = L1 := ⟨by rw [hlog1.lk]; rfl, by rw [hlog1.at], rfl, rfl⟩
  have hb := hlog1.bd
  have hlen : L.length < 900 := by have := hg.ln; omega
  have hsl : s.data.toList.take a = leavesL (first :: recs.take j) := by
    rw [hs, List.take_take, Nat.min_eq_left hle, ha]
    have h1 := leavesL_append (first :: recs.take j) (recs.drop j)
    rw [List.cons_append, List.take_append_drop] at h1
    rw [h1, List.take_left]
  rcases hend with ⟨rfl, hae⟩ | ⟨rfl, hlt⟩
  · refine (open_any LA H hlen hg.ok hg.ri hcall h9 (Or.inl hread) hp (r3 := r1) (L3 := L1) (ec2 := 0) (Or.inl ⟨hae, rfl, rfl⟩)).mono ?_
    rintro e w' (⟨h, -⟩ | ⟨f, rs, J, v, h, -, rfl, hjs, hJ, ho⟩)
    · rcases h with h | h <;> simp at h
    · simp only [List.cons.injEq] at h
      obtain ⟨rfl, rfl⟩ := h
      refine ⟨J, v, r1, L1, s, p, k, j, rfl, ⟨hjs, hlog1.mono (by omega), hn1, ?_, hx2⟩, hJ, ho, hr1, by simpa using hj, hmax2, by omega, by omega⟩
      rw [← hsl, hae, Lib.size_eq, List.take_length]
  · obtain ⟨L2, hcut, hlog2, hn2⟩ := hlog1.cut a hle
    refine (open_any LA H hlen hg.ok hg.ri hcall h9 (Or.inl hread) hp (Or.inr ⟨hlt, hcut⟩)).mono ?_
    rintro e w' (⟨h, -⟩ | ⟨f, rs, J, v, h, -, rfl, hjs, hJ, ho⟩)
    · rcases h with h | h <;> simp at h
    · simp only [List.cons.injEq] at h
      obtain ⟨rfl, rfl⟩ := h
      refine ⟨J, v, _, L2, _, _, true, j, rfl, ⟨hjs, hlog2, by rw [hn2, hn1], ?_, hx2⟩, hJ, ho, by omega, by simpa using hj, hmax2, by omega, ?_⟩
      · rw [Lib.extract_data, List.drop_zero, Nat.sub_zero, hsl]
      · rw [ByteArray.size_extract]; omega
theorem add_JL {w0 w : World} (LA : Laid w0) {J g b : Nat} {v : Value} {n : Nat} {r : Int} {L : List Rl} {s : ByteArray} {p : Int} {k : Bool} {first : ByteArray} {recs : List ByteArray} (H : JL w0 w J g b v n r L s p k first recs) (hn : n ≤ 800) (hrl : recs.length < 100000) (x : ByteArray) (hx : x.size ≤ 400000) (pr : Bool) (hr : ((leafB x).size : Int) ≤ r) :
    Calls Tryz.prog 59 #[.pointer (some ⟨J, 0, none⟩), .string x, .bool pr] w fun e w' => e = .returned (.int .i64 0) ∧ ∃ v' L', JL w0 w' J g b v' (n + 2) (r - (leafB x).size) L' (catB s (leafB x)) (if pr then ((catB s (leafB x)).size : Int) else p) (pr || k) first (recs ++ [x]) ∧ Only (J :: g :: b :: ownL v) w w' ∧ ∀ q ∈ ownL v', q ∈ ownL v ∨ w.heap.size ≤ q := by
  have hlen := H.lg.ln
  obtain ⟨L1, hw, hl1, hn1⟩ := H.lg.write (leafB x) hr
  obtain ⟨L2, hp, hl2, hn2⟩ := hl1.press
  have hd : (catB s (leafB x)).data.toList = leavesL (first :: (recs ++ [x])) := by
    rw [catB_list, H.da, ← List.cons_append, leavesL_append, leaves_one_list]
  have hsz : ∀ y ∈ first :: (recs ++ [x]), y.size ≤ 400000 := fun y hy => by
    rw [← List.cons_append] at hy
    rcases List.mem_append.mp hy with h | h
    · exact H.sz y h
    · simp at h; subst h; exact hx
  cases pr with
  | false =>
    refine (jadd_ok (LA.keep H.js.ch.2.1) H.js (by omega) H.lg.ok H.lg.ri (by omega) x hx false (L2 := L1) hw (fun h => by cases h) (fun _ => rfl)).mono ?_
    rintro e w' ⟨rfl, v', hj, ho, hq⟩
    exact ⟨rfl, v', L1, ⟨hj, by simpa using hl1.mono (by omega), by rw [hn1]; exact H.nn, hd, hsz⟩, ho, hq⟩
  | true =>
    refine (jadd_ok (LA.keep H.js.ch.2.1) H.js (by omega) H.lg.ok H.lg.ri (by omega) x hx true (L2 := L2) hw (fun _ => hp) (fun h => by cases h)).mono ?_
    rintro e w' ⟨rfl, v', hj, ho, hq⟩
    exact ⟨rfl, v', L2, ⟨hj, by simpa using hl2, by rw [hn2, hn1]; exact H.nn, hd, hsz⟩, ho, hq⟩
theorem lay_JL {w0 w : World} (LA : Laid w0) {J g b : Nat} {v : Value} {n : Nat} {r : Int} {L : List Rl} {s : ByteArray} {p : Int} {k : Bool} {first : ByteArray} {recs : List ByteArray} (H : JL w0 w J g b v n r L s p k first recs) (hn : n ≤ 800) (x : ByteArray) (hx : x.size ≤ 400000) (hr : ((leafB x).size : Int) ≤ r) :
    Calls Tryz.prog 65 #[.pointer (some ⟨J, 0, none⟩), .string x] w fun e w' => e = .returned (.int .i64 0) ∧ ∃ L', JL w0 w' J g b (.slice none 0 0) (n + 3) (r - (leafB x).size + s.size) L' (leafB x) (leafB x).size true x [] ∧ Only [J, g, b] w w' := by
  have hlen := H.lg.ln
  obtain ⟨La, L1, L2, h1, h2, h3, hl, hn2⟩ := H.lg.lay H.nn (leafB x) hr
  refine (jlay_ok (LA.keep H.js.ch.2.1) H.js (by omega) H.lg.ok H.lg.ri x hx h1 h2 h3).mono ?_
  rintro e w' ⟨rfl, hj, ho⟩
  exact ⟨rfl, L2, ⟨hj, hl, hn2, leaves_one_list _, fun y hy => by simp at hy; subst hy; exact hx⟩, ho⟩
/-- Another chest: what a tear leaves. -/
theorem tear_log {w0 w : World} {g b n : Nat} {r : Int} {L : List Rl} {s : ByteArray} {p : Int} {k : Bool} (H : ChS w0 w g b r L) (hg : Log n r L s p k) (hn : n ≤ 800) (t : Int) (ht : -9223372036854775808 ≤ t ∧ t ≤ 9223372036854775807) (hk : 0 < p ∨ k = true) :
    Calls Tryz.prog 22 #[.pointer (some ⟨g, 0, none⟩), .int .i64 t] w fun e w' => ∃ g' b' r' L' m, e = .returned (.pointer (some ⟨g', 0, none⟩)) ∧ ChS w w' g' b' r' L' ∧ Log n r' L' (s.extract 0 m) m true ∧ r ≤ r' ∧ p ≤ (m : Int) ∧ m ≤ s.size ∧ leftK t ⟨s, p, k⟩ = (m : Int) ∧ Below w.heap.size w w' ∧ w.heap.size ≤ g' ∧ w.heap.size ≤ b' := by
  have hb := hg.bd
  have h1 := leftK_bd (k := t) (c := ⟨s, p, k⟩) ⟨hb.2.1, hb.2.2.1⟩
  have h2 : p ≤ leftK t ⟨s, p, k⟩ := by
    unfold leftK
    split
    · have := Int.emod_nonneg t (b := (s.size : Int) - p + 1) (by omega)
      simp only
      omega
    · simp
  obtain ⟨m, hm⟩ : ∃ m : Nat, leftK t ⟨s, p, k⟩ = m := ⟨(leftK t ⟨s, p, k⟩).toNat, by omega⟩
  obtain ⟨hl, hr⟩ := hg.tear t hm (by rcases hk with h | h; exact Or.inl (by omega); exact Or.inr h)
  have hlen := hg.ln
  refine (tear_S H (by omega) hg.ok t ht rfl rfl).mono ?_
  rintro e w' ⟨g', b', rfl, hc, hbw, h3, h4⟩
  rw [hm] at h1 h2
  simp only at h1
  refine ⟨g', b', _, _, m, rfl, ⟨hc.1, hbw, h3, h4⟩, hl, hr, h2, by omega, hm, hbw, h3, h4⟩
theorem add_press {w0 w : World} (LA : Laid w0) {J g b : Nat} {v : Value} {n : Nat} {r : Int} {L : List Rl} {s : ByteArray} {p : Int} {k : Bool} {first : ByteArray} {recs : List ByteArray} (H : JL w0 w J g b v n r L s p k first recs) (hn : n ≤ 800) (hrl : recs.length < 100000) (x : ByteArray) (hx : x.size ≤ 400000) (hr : ((leafB x).size : Int) ≤ r) {r' p' : Int} (hr' : r - (leafB x).size = r') (hp' : (s.size : Int) + (leafB x).size = p') :
    Calls Tryz.prog 59 #[.pointer (some ⟨J, 0, none⟩), .string x, .bool true] w fun e w' => e = .returned (.int .i64 0) ∧ ∃ v' L', JL w0 w' J g b v' (n + 2) r' L' (catB s (leafB x)) p' true first (recs ++ [x]) ∧ Only (J :: g :: b :: ownL v) w w' ∧ ∀ q ∈ ownL v', q ∈ ownL v ∨ w.heap.size ≤ q := by
  subst hr' hp'
  refine (add_JL LA H hn hrl x hx true hr).mono ?_
  rintro e w' ⟨rfl, v', L', h, h2⟩
  rw [if_pos rfl, catB_size, Int.natCast_add] at h
  exact ⟨rfl, v', L', h, h2⟩
theorem add_soft {w0 w : World} (LA : Laid w0) {J g b : Nat} {v : Value} {n : Nat} {r : Int} {L : List Rl} {s : ByteArray} {p : Int} {k : Bool} {first : ByteArray} {recs : List ByteArray} (H : JL w0 w J g b v n r L s p k first recs) (hn : n ≤ 800) (hrl : recs.length < 100000) (x : ByteArray) (hx : x.size ≤ 400000) (hr : ((leafB x).size : Int) ≤ r) {r' : Int} (hr' : r - (leafB x).size = r') :
    Calls Tryz.prog 59 #[.pointer (some ⟨J, 0, none⟩), .string x, .bool false] w fun e w' => e = .returned (.int .i64 0) ∧ ∃ v' L', JL w0 w' J g b v' (n + 2) r' L' (catB s (leafB x)) p k first (recs ++ [x]) ∧ Only (J :: g :: b :: ownL v) w w' ∧ ∀ q ∈ ownL v', q ∈ ownL v ∨ w.heap.size ≤ q := by
  subst hr'
  refine (add_JL LA H hn hrl x hx false hr).mono ?_
  rintro e w' ⟨rfl, v', L', h, h2⟩
  rw [if_neg (by simp), Bool.false_or] at h
  exact ⟨rfl, v', L', h, h2⟩
theorem leavesL_cons_len (x : ByteArray) (r : List ByteArray) : (leavesL (x :: r)).length = (leafB x).size + (leavesL r).length := by
  show (leafL x.data.toList ++ leavesL r).length = _
  rw [List.length_append, ← leafB_list, ← Lib.size_eq]
/-- What was torn is a front. -/
theorem JL.front {w0 w : World} {J g b : Nat} {v : Value} {n : Nat} {r : Int} {L : List Rl} {s : ByteArray} {p : Int} {k : Bool} {first : ByteArray} {recs : List ByteArray} (h : JL w0 w J g b v n r L s p k first recs) {m : Nat} (hm : m ≤ s.size) :
    (s.extract 0 m).size = m ∧ (s.extract 0 m).data.toList = (leavesL (first :: recs)).take (s.extract 0 m).size ∧ s.size = (leavesL (first :: recs)).length := by
  have h1 : (s.extract 0 m).size = m := by rw [ByteArray.size_extract]; omega
  refine ⟨h1, ?_, by rw [Lib.size_eq, h.da]⟩
  rw [h1, ← h.da, Lib.extract_data, List.drop_zero, Nat.sub_zero]
/-- A journal that is only read from now on. -/
structure KAt (B : Nat) (w : World) (J g : Nat) (v : Value) (first : ByteArray) (recs : List ByteArray) : Prop where
  j : JAt w J g v first recs false
  jb : B ≤ J
  vb : ∀ q ∈ ownL v, B ≤ q
theorem KAt.low {B : Nat} {w w' : World} {J g : Nat} {v : Value} {first : ByteArray} {recs : List ByteArray} (h : KAt B w J g v first recs) (k : Below w.heap.size w w') : KAt B w' J g v first recs := ⟨h.j.low k, h.jb, h.vb⟩
theorem KAt.keep {B : Nat} {w w' : World} {J g : Nat} {v : Value} {first : ByteArray} {recs : List ByteArray} {S : List Nat} (h : KAt B w J g v first recs) (k : Only S w w') (hS : ∀ i ∈ S, i < B) : KAt B w' J g v first recs :=
  ⟨h.j.keep k (fun hi => by have := hS _ hi; have := h.jb; omega) (fun q hq hi => by have := hS _ hi; have := h.vb q hq; omega), h.jb, h.vb⟩
theorem JL.kat {w0 w : World} {J g b : Nat} {v : Value} {n : Nat} {r : Int} {L : List Rl} {s : ByteArray} {p : Int} {k : Bool} {first : ByteArray} {recs : List ByteArray} (h : JL w0 w J g b v n r L s p k first recs) : KAt w0.heap.size w J g v first recs := ⟨h.js.j, h.js.jb, h.js.vb⟩
end Go.Proofs.YthiphdcbboapkaaGreatDoor

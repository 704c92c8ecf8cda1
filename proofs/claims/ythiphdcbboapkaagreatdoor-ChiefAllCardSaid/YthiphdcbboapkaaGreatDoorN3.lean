/- Plain words on rolls: lists by rising names, and what a map of rolls reads as. A chest in memory; what is turned and what is not; look-ups and stores of rolls at the operation. -/
import Derived.Test.YthiphdcbboapkaaGreatDoorKit
import Derived.Maps.OwnSet
import Derived.Maps.Ext
import Derived.Sort.KeysCollected
import Derived.Test.YthiphdcbboapkaaGreatDoorChecked
import Derived.Maps.RangeWalk
namespace Go.Proofs.YthiphdcbboapkaaGreatDoor
open Go.RowKit Go.Maps

/-- What a roll has: its text, how much of it is pressed, whether it is there for good. -/
structure Scr where
  s : ByteArray
  p : Int
  k : Bool
def scrV (c : Scr) : Value := .agg #[.string c.s, .int .i64 c.p, .bool c.k]
def scrD (c : Scr) : DataW Unit := .agg [.lit (.string c.s.data.toList), .lit (.int .i64 c.p), .lit (.bool c.k)]
def scrL : List Value → Option (DataW Unit × List MemPlace)
  | [.string s, .int .i64 p, .bool k] => some (scrD ⟨s, p, k⟩, [])
  | _ => none
def scrR : Value → Option (DataW Unit × List MemPlace)
  | .agg cs => scrL cs.toList
  | _ => none
theorem scrR_mk (c : Scr) : scrR (scrV c) = some (scrD c, []) := rfl
theorem scrL_inv {l : List Value} {y : DataW Unit × List MemPlace} (h : scrL l = some y) : ∃ c : Scr, l = [.string c.s, .int .i64 c.p, .bool c.k] ∧ y = (scrD c, []) := by
  unfold scrL at h
  split at h
  · simp only [Option.some.injEq] at h
    exact ⟨⟨_, _, _⟩, rfl, h.symm⟩
  · cases h
theorem scrR_inv {v : Value} {y : DataW Unit × List MemPlace} (h : scrR v = some y) : ∃ c : Scr, v = scrV c ∧ y = (scrD c, []) := by
  cases v <;> try (cases h; done)
  rename_i cs
  obtain ⟨c, h1, h2⟩ := scrL_inv (l := cs.toList) h
  refine ⟨c, ?_, h2⟩
  unfold scrV
  cases cs
  simp at h1
  rw [h1]
theorem ba_ext {s t : ByteArray} (h : s.data.toList = t.data.toList) : s = t := by
  rcases s with ⟨⟨s⟩⟩; rcases t with ⟨⟨t⟩⟩; simp at h; rw [h]
theorem str_eqL {s t : ByteArray} : (s.toList == t.toList) = decide (s = t) := by
  rw [Bool.eq_iff_iff, beq_iff_eq, decide_eq_true_eq, ByteArray.toList_eq, ByteArray.toList_eq]
  exact ⟨ba_ext, fun h => by rw [h]⟩
theorem scrD_inj {c d : Scr} (h : scrD c = scrD d) : c = d := by
  unfold scrD at h
  simp only [DataW.agg.injEq, List.cons.injEq, DataW.lit.injEq, Lit.string.injEq, Lit.int.injEq, Lit.bool.injEq, true_and, and_true] at h
  obtain ⟨h1, h2, h3⟩ := h
  cases c; cases d
  dsimp only at h1 h2 h3
  obtain rfl := ba_ext h1
  subst h2 h3
  rfl

abbrev Nm := List UInt8
abbrev Rl := Nm × Scr
/-- The roll of a name. -/
def lookL (n : Nm) : List Rl → Option Scr
  | [] => none
  | x :: r => if x.1 = n then some x.2 else lookL n r
/-- By rising names. -/
def Rising (L : List Rl) : Prop := L.Pairwise (fun a b => a.1 < b.1)
/-- A roll put to its place. -/
def putL (n : Nm) (c : Scr) : List Rl → List Rl
  | [] => [(n, c)]
  | x :: r => if n < x.1 then (n, c) :: x :: r else if x.1 = n then (n, c) :: r else x :: putL n c r
/-- A roll struck. -/
def delL (n : Nm) (L : List Rl) : List Rl := L.filter (fun x => !decide (x.1 = n))
/-- How many bytes all have. -/
def sumL : List Rl → Int
  | [] => 0
  | x :: r => (x.2.s.size : Int) + sumL r
theorem sumL_nonneg (L : List Rl) : 0 ≤ sumL L := by
  induction L with
  | nil => simp [sumL]
  | cons x r ih => unfold sumL; omega
theorem lt_irr (a : Nm) : ¬ a < a := List.lt_irrefl a
theorem lt_tr {a b c : Nm} (h : a < b) (k : b < c) : a < c := List.lt_trans h k
theorem lt_tri {a b : Nm} (h : ¬ a < b) (k : a ≠ b) : b < a := Classical.byContradiction fun h2 => k (List.le_antisymm (List.not_lt.1 h2) (List.not_lt.1 h))
theorem lookL_mem {n : Nm} {c : Scr} : ∀ {L : List Rl}, lookL n L = some c → (n, c) ∈ L
  | [], h => by cases h
  | x :: r, h => by
    unfold lookL at h
    split at h
    · rename_i e
      simp only [Option.some.injEq] at h
      subst e h
      exact List.mem_cons_self
    · exact List.mem_cons_of_mem _ (lookL_mem h)
theorem lookL_none {n : Nm} : ∀ {L : List Rl}, lookL n L = none → ∀ x ∈ L, x.1 ≠ n
  | [], _ => by simp
  | x :: r, h => by
    unfold lookL at h
    split at h
    · cases h
    · rename_i e
      intro y hy
      rcases List.mem_cons.1 hy with rfl | hy
      · exact e
      · exact lookL_none h y hy
theorem mem_lookL {n : Nm} {c : Scr} : ∀ {L : List Rl}, Rising L → (n, c) ∈ L → lookL n L = some c
  | [], _, h => by simp at h
  | x :: r, hs, h => by
    obtain ⟨h1, h2⟩ := List.pairwise_cons.1 hs
    unfold lookL
    rcases List.mem_cons.1 h with e | h
    · subst e; rw [if_pos rfl]
    · have := h1 _ h
      rw [if_neg (fun e => by rw [e] at this; exact lt_irr _ this)]
      exact mem_lookL h2 h
theorem lookL_iff {n : Nm} {c : Scr} {L : List Rl} (hs : Rising L) : lookL n L = some c ↔ (n, c) ∈ L := ⟨lookL_mem, mem_lookL hs⟩
theorem putL_head {n : Nm} {c : Scr} {a : Nm} : ∀ {L : List Rl}, a < n → (∀ x ∈ L, a < x.1) → ∀ x ∈ putL n c L, a < x.1
  | [], h, _, x, hx => by simp [putL] at hx; subst hx; exact h
  | y :: r, h, hr, x, hx => by
    unfold putL at hx
    split at hx
    · rcases List.mem_cons.1 hx with rfl | hx
      · exact h
      · exact hr x hx
    · split at hx
      · rcases List.mem_cons.1 hx with rfl | hx
        · exact h
        · exact hr x (List.mem_cons_of_mem _ hx)
      · rcases List.mem_cons.1 hx with rfl | hx
        · exact hr x List.mem_cons_self
        · exact putL_head h (fun z hz => hr z (List.mem_cons_of_mem _ hz)) x hx
theorem putL_rising {n : Nm} {c : Scr} : ∀ {L : List Rl}, Rising L → Rising (putL n c L)
  | [], _ => by simp [putL, Rising]
  | y :: r, hs => by
    obtain ⟨h1, h2⟩ := List.pairwise_cons.1 hs
    unfold putL
    split
    · rename_i h
      refine List.pairwise_cons.2 ⟨fun x hx => ?_, hs⟩
      rcases List.mem_cons.1 hx with rfl | hx
      · exact h
      · exact lt_tr h (h1 x hx)
    · rename_i h
      split
      · rename_i e
        subst e
        exact List.pairwise_cons.2 ⟨h1, h2⟩
      · rename_i e
        exact List.pairwise_cons.2 ⟨putL_head (lt_tri h (fun q => e q.symm)) h1, putL_rising h2⟩
theorem mem_putL {n : Nm} {c : Scr} {m : Nm} {d : Scr} : ∀ {L : List Rl}, Rising L → ((m, d) ∈ putL n c L ↔ (m = n ∧ d = c) ∨ (m ≠ n ∧ (m, d) ∈ L))
  | [], _ => by simp [putL]
  | y :: r, hs => by
    obtain ⟨h1, h2⟩ := List.pairwise_cons.1 hs
    unfold putL
    split
    · rename_i h
      have hne : (m, d) ∈ y :: r → m ≠ n := fun hm e => by
        subst e
        rcases List.mem_cons.1 hm with rfl | hm
        · exact lt_irr _ h
        · exact lt_irr _ (lt_tr h (h1 _ hm))
      rw [List.mem_cons, Prod.mk.injEq]
      constructor
      · rintro (h | h)
        · exact Or.inl h
        · exact Or.inr ⟨hne h, h⟩
      · rintro (h | ⟨_, h⟩)
        · exact Or.inl h
        · exact Or.inr h
    · split
      · rename_i h e
        subst e
        have hne : (m, d) ∈ r → m ≠ y.1 := fun hm e => by have := h1 _ hm; rw [e] at this; exact lt_irr _ this
        simp only [List.mem_cons, Prod.mk.injEq]
        constructor
        · rintro (h | h)
          · exact Or.inl h
          · exact Or.inr ⟨hne h, Or.inr h⟩
        · rintro (h | ⟨h3, rfl | h⟩)
          · exact Or.inl h
          · exact absurd rfl h3
          · exact Or.inr h
      · rename_i h e
        rw [List.mem_cons, mem_putL h2, List.mem_cons]
        constructor
        · rintro (rfl | h | ⟨h, k⟩)
          · exact Or.inr ⟨e, Or.inl rfl⟩
          · exact Or.inl h
          · exact Or.inr ⟨h, Or.inr k⟩
        · rintro (h | ⟨h, rfl | k⟩)
          · exact Or.inr (Or.inl h)
          · exact Or.inl rfl
          · exact Or.inr (Or.inr ⟨h, k⟩)
theorem delL_rising {n : Nm} {L : List Rl} (h : Rising L) : Rising (delL n L) := List.Pairwise.filter _ h
theorem mem_delL {n : Nm} {L : List Rl} {x : Rl} : x ∈ delL n L ↔ x ∈ L ∧ x.1 ≠ n := by unfold delL; simp
theorem opt_ext {α : Type} {a b : Option α} (h : ∀ c, a = some c ↔ b = some c) : a = b := by
  cases a with
  | none => cases b with
    | none => rfl
    | some y => exact absurd ((h y).2 rfl) (by simp)
  | some x => exact ((h x).1 rfl).symm
theorem look_putL {n m : Nm} {c : Scr} {L : List Rl} (hs : Rising L) : lookL m (putL n c L) = if m = n then some c else lookL m L := by
  refine opt_ext fun d => ?_
  rw [lookL_iff (putL_rising hs), mem_putL hs]
  by_cases e : m = n
  · rw [if_pos e]; simp [e, eq_comm]
  · rw [if_neg e, lookL_iff hs]; simp [e]
theorem look_delL {n m : Nm} {L : List Rl} (hs : Rising L) : lookL m (delL n L) = if m = n then none else lookL m L := by
  refine opt_ext fun d => ?_
  rw [lookL_iff (delL_rising hs), mem_delL]
  by_cases e : m = n
  · rw [if_pos e]; simp [e]
  · rw [if_neg e, lookL_iff hs]; simp [e]
/-- How many bytes the roll of a name has. -/
def lenL (n : Nm) (L : List Rl) : Int := match lookL n L with | some c => (c.s.size : Int) | none => 0
theorem lenL_nonneg (n : Nm) (L : List Rl) : 0 ≤ lenL n L := by unfold lenL; split <;> omega
theorem lenL_le (n : Nm) : ∀ L : List Rl, lenL n L ≤ sumL L
  | [] => by simp [lenL, lookL, sumL]
  | x :: r => by
    have h1 := lenL_le n r
    have h2 := sumL_nonneg r
    unfold lenL lookL sumL
    by_cases e : x.1 = n
    · rw [if_pos e]; simp; omega
    · rw [if_neg e]
      unfold lenL at h1
      omega
theorem look_of_low {n : Nm} : ∀ {L : List Rl}, (∀ x ∈ L, n < x.1) → lookL n L = none
  | [], _ => rfl
  | x :: r, h => by
    unfold lookL
    have := h x List.mem_cons_self
    rw [if_neg (fun e => by rw [e] at this; exact lt_irr _ this)]
    exact look_of_low fun y hy => h y (List.mem_cons_of_mem _ hy)
theorem sum_putL {n : Nm} {c : Scr} : ∀ {L : List Rl}, Rising L → sumL (putL n c L) = sumL L - lenL n L + c.s.size
  | [], _ => by simp [putL, sumL, lenL, lookL]
  | y :: r, hs => by
    obtain ⟨h1, h2⟩ := List.pairwise_cons.1 hs
    unfold putL
    split
    · rename_i h
      have : lookL n (y :: r) = none := look_of_low fun x hx => by
        rcases List.mem_cons.1 hx with rfl | hx
        · exact h
        · exact lt_tr h (h1 x hx)
      unfold lenL
      rw [this]
      simp [sumL]; omega
    · split
      · rename_i h e
        unfold lenL lookL
        rw [if_pos e]
        simp only [sumL]; omega
      · rename_i h e
        have ih := sum_putL (n := n) (c := c) h2
        have : lenL n (y :: r) = lenL n r := by unfold lenL; rw [lookL, if_neg e]
        rw [this]
        simp only [sumL]
        rw [ih]; omega
theorem sum_delL {n : Nm} : ∀ {L : List Rl}, Rising L → sumL (delL n L) = sumL L - lenL n L
  | [], _ => by simp [delL, sumL, lenL, lookL]
  | y :: r, hs => by
    obtain ⟨h1, h2⟩ := List.pairwise_cons.1 hs
    have ih := sum_delL (n := n) h2
    unfold delL at ih ⊢
    by_cases e : y.1 = n
    · rw [List.filter_cons_of_neg (by simp [e])]
      have hn : lookL n r = none := look_of_low fun x hx => by rw [← e]; exact h1 x hx
      have h0 : lenL n r = 0 := by unfold lenL; rw [hn]
      have : lenL n (y :: r) = (y.2.s.size : Int) := by unfold lenL; rw [lookL, if_pos e]
      rw [ih, this, h0]
      simp only [sumL]; omega
    · rw [List.filter_cons_of_pos (by simp [e])]
      have : lenL n (y :: r) = lenL n r := by unfold lenL; rw [lookL, if_neg e]
      rw [this]
      simp only [sumL]
      rw [ih]; omega
theorem len_putL (n : Nm) (c : Scr) : ∀ L : List Rl, (putL n c L).length ≤ L.length + 1
  | [] => by simp [putL]
  | y :: r => by
    have := len_putL n c r
    unfold putL
    split
    · simp
    · split
      · simp
      · simp only [List.length_cons]; omega
theorem len_delL (n : Nm) (L : List Rl) : (delL n L).length ≤ L.length := List.length_filter_le _ _

/-- A map that reads as D is this list of rolls. -/
def RD (L : List Rl) (D : DataW Unit) : Prop := Rising L ∧ (∀ n, Maps.has D (.string n) = true ↔ ∃ c, (n, c) ∈ L) ∧ ∀ n c, (n, c) ∈ L → ∀ z, D.atKey (.string n) z = scrD c
theorem RD.look {L : List Rl} {D : DataW Unit} (h : RD L D) (n : Nm) : Maps.has D (.string n) = (lookL n L).isSome := by
  rw [Bool.eq_iff_iff, h.2.1, Option.isSome_iff_exists]
  exact ⟨fun ⟨c, hc⟩ => ⟨c, mem_lookL h.1 hc⟩, fun ⟨c, hc⟩ => ⟨c, lookL_mem hc⟩⟩
theorem RD.at {L : List Rl} {D : DataW Unit} (h : RD L D) {n : Nm} {c : Scr} (hc : lookL n L = some c) (z : DataW Unit) : D.atKey (.string n) z = scrD c := h.2.2 n c (lookL_mem hc) z
theorem RD.at_none {L : List Rl} {D : DataW Unit} (h : RD L D) {n : Nm} (hc : lookL n L = none) (z : DataW Unit) : D.atKey (.string n) z = z :=
  atKey_of_not_has (by rw [h.look n, hc]; rfl) z
theorem rd_nil : RD [] (.map []) := ⟨List.Pairwise.nil, fun n => by simp [Maps.has], fun n c h => by simp at h⟩
theorem keyLit_str (n : Nm) : WideAt.IsKeyLit (.string n) := trivial
theorem str_ne {m n : Nm} (h : m ≠ n) : (Lit.string m) ≠ .string n := fun e => h (by simpa using e)
theorem RD.put {L : List Rl} {D : DataW Unit} (h : RD L D) (hD : IsMap D) (n : Nm) (c : Scr) : RD (putL n c L) (D.put (.string n) (scrD c)) := by
  refine ⟨putL_rising h.1, fun m => ?_, fun m d hm z => ?_⟩
  · by_cases e : m = n
    · subst e
      rw [has_put_same hD (keyLit_str m)]
      exact ⟨fun _ => ⟨c, (mem_putL h.1).2 (Or.inl ⟨rfl, rfl⟩)⟩, fun _ => rfl⟩
    · rw [has_put_other (str_ne e), h.2.1 m]
      constructor
      · rintro ⟨d, hd⟩; exact ⟨d, (mem_putL h.1).2 (Or.inr ⟨e, hd⟩)⟩
      · rintro ⟨d, hd⟩
        rcases (mem_putL h.1).1 hd with ⟨e2, _⟩ | ⟨_, hd⟩
        · exact absurd e2 e
        · exact ⟨d, hd⟩
  · rcases (mem_putL h.1).1 hm with ⟨rfl, rfl⟩ | ⟨e, hd⟩
    · exact atKey_put_same hD (keyLit_str m) _ _
    · rw [atKey_put_other (str_ne e)]; exact h.2.2 m d hd z
theorem RD.del {L : List Rl} {D : DataW Unit} (h : RD L D) (n : Nm) : RD (delL n L) (D.del (.string n)) := by
  refine ⟨delL_rising h.1, fun m => ?_, fun m d hm z => ?_⟩
  · by_cases e : m = n
    · subst e
      rw [has_del_same]
      constructor
      · intro q; cases q
      · rintro ⟨d, hd⟩; exact absurd rfl (mem_delL.1 hd).2
    · rw [has_del_other (str_ne e), h.2.1 m]
      exact ⟨fun ⟨d, hd⟩ => ⟨d, mem_delL.2 ⟨hd, e⟩⟩, fun ⟨d, hd⟩ => ⟨d, (mem_delL.1 hd).1⟩⟩
  · obtain ⟨h1, h2⟩ := mem_delL.1 hm
    rw [atKey_del_other (str_ne h2)]; exact h.2.2 m d h1 z
theorem pair_lt_ne {L : List Nm} (h : L.Pairwise (· < ·)) : L.Nodup := h.imp fun {a b} hab e => by rw [e] at hab; exact lt_irr _ hab
theorem names_rising {L : List Rl} (h : Rising L) : (L.map Prod.fst).Pairwise (· < ·) := List.pairwise_map.2 h
theorem RD.keys {P : Program} {k : TypeId} {R : Value → Option (DataW Unit × List MemPlace)} {w : World} {b n : Nat} {L : List Rl} {D : DataW Unit} (h : RD L D) (hown : w.ownsMap P k R b n D) (K : Keyed P k) (hk : P.underlying k = some .string) : (L.map Prod.fst).Perm (strKeys D) := by
  have hc : Collected D (fun _ => false) (L.map Prod.fst) := ⟨pair_lt_ne (names_rising h.1), fun x => by
    rw [h.2.1 x]
    simp⟩
  exact hc.perm hown K hk fun _ => rfl
theorem strKeys_len (D : DataW Unit) : (strKeys D).length = Maps.size D := by
  cases D <;> simp [strKeys, Maps.size]
theorem RD.size {P : Program} {k : TypeId} {R : Value → Option (DataW Unit × List MemPlace)} {w : World} {b n : Nat} {L : List Rl} {D : DataW Unit} (h : RD L D) (hown : w.ownsMap P k R b n D) (K : Keyed P k) (hk : P.underlying k = some .string) : Maps.size D = L.length := by
  have := (h.keys hown K hk).length_eq
  rw [strKeys_len] at this
  simpa using this.symm
theorem owns_tight {P : Program} {k : TypeId} {R : Value → Option (DataW Unit × List MemPlace)} {w : World} {b n : Nat} {D : DataW Unit} (h : w.ownsMap P k R b n D) : w.ownsMap P k R b (Maps.size D) D := by
  obtain ⟨es, clock, hb, F, hs, rfl⟩ := h
  exact ⟨es, clock, hb, F, by simp [Maps.size, length_sorted], rfl⟩
theorem pair_le {L : List Nm} (h : L.Pairwise (· < ·)) : L.Pairwise (fun a b => decide (a ≤ b) = true) := h.imp fun {a b} hab => by simpa using List.le_of_lt hab
theorem sort_rising {L ss : List Nm} (h : L.Pairwise (· < ·)) (hp : ss.Perm L) : ss.mergeSort (fun x y => decide (x ≤ y)) = L := by
  have e : ss.mergeSort (fun x y => decide (x ≤ y)) = L.mergeSort (fun x y => decide (x ≤ y)) := mergeSort_of_perm hp
  exact e.trans (List.mergeSort_of_pairwise (pair_le h))

/-- Nothing has turned but some blocks, and what is new. -/
def Only (S : List Nat) (w w' : World) : Prop := w'.os = w.os ∧ w'.tape = w.tape ∧ w'.output = w.output ∧ w.heap.size ≤ w'.heap.size ∧ ∀ i, i < w.heap.size → i ∉ S → w'.heap[i]? = w.heap[i]?
end Go.Proofs.YthiphdcbboapkaaGreatDoor
namespace Go.Proofs.YthiphdcbboapkaaGreatDoor
open Go.RowKit Go.Maps Go.ChangeMaps

theorem Only.refl (S : List Nat) (w : World) : Only S w w := ⟨rfl, rfl, rfl, Nat.le_refl _, fun _ _ _ => rfl⟩
theorem Only.trans {S : List Nat} {a b c : World} (h : Only S a b) (k : Only S b c) : Only S a c :=
  ⟨k.1.trans h.1, k.2.1.trans h.2.1, k.2.2.1.trans h.2.2.1, Nat.le_trans h.2.2.2.1 k.2.2.2.1, fun i hi hn => (k.2.2.2.2 i (Nat.lt_of_lt_of_le hi h.2.2.2.1) hn).trans (h.2.2.2.2 i hi hn)⟩
theorem Only.size {S : List Nat} {a b : World} (h : Only S a b) : a.heap.size ≤ b.heap.size := h.2.2.2.1
theorem Only.of_below {S : List Nat} {w w' : World} (h : Below w.heap.size w w') : Only S w w' := ⟨h.os, h.tape, h.output, h.size, fun i hi _ => h.block i hi⟩
theorem Only.top {S : List Nat} {a b c : World} (h : Only S a b) (k : Below b.heap.size b c) : Only S a c := h.trans (Only.of_below k)
/-- Seen from below. -/
theorem Only.under {S : List Nat} {w a b : World} (h : Below w.heap.size w a) (k : Only S a b) (hS : ∀ i ∈ S, w.heap.size ≤ i) : Below w.heap.size w b :=
  ⟨k.1.trans h.os, k.2.1.trans h.tape, k.2.2.1.trans h.output, Nat.le_trans h.size k.size, fun i hi => (k.2.2.2.2 i (Nat.lt_of_lt_of_le hi h.size) (fun hm => by have := hS i hm; omega)).trans (h.block i hi)⟩
/-- Joined, where what the second turns is what the first may turn, or new. -/
theorem Only.join {S T : List Nat} {a b c : World} (h : Only S a b) (k : Only T b c) (hT : ∀ i ∈ T, i ∈ S ∨ a.heap.size ≤ i) : Only S a c :=
  ⟨k.1.trans h.1, k.2.1.trans h.2.1, k.2.2.1.trans h.2.2.1, Nat.le_trans h.size k.size, fun i hi hn => (k.2.2.2.2 i (Nat.lt_of_lt_of_le hi h.size) (fun hm => by
    rcases hT i hm with h1 | h1
    · exact hn h1
    · omega)).trans (h.2.2.2.2 i hi hn)⟩
theorem Only.cell {S : List Nat} {a b : World} (h : Only S a b) {p : Addr} (hp : p.block < a.heap.size) (hn : p.block ∉ S) : b.cell? p = a.cell? p := World.cell?_of_block (h.2.2.2.2 _ hp hn)
theorem Only.frozen {S : List Nat} {a b : World} (h : Only S a b) {p : Addr} (hp : p.block < a.heap.size) (hn : p.block ∉ S) : b.frozen? p = a.frozen? p := World.frozen?_of_block (h.2.2.2.2 _ hp hn)
theorem Only.cellK {S : List Nat} {a b : World} (h : Only S a b) {p : Addr} {v : Value} (hn : p.block ∉ S) (hv : a.cell? p = some v) : b.cell? p = some v := (h.cell (cell_old hv) hn).trans hv
theorem Only.frozenK {S : List Nat} {a b : World} (h : Only S a b) {p : Addr} {v : Value} (hn : p.block ∉ S) (hv : a.cell? p = some v) (hf : a.frozen? p = false) : b.frozen? p = false := (h.frozen (cell_old hv) hn).trans hf
theorem Only.setCell {S : List Nat} {a b : World} (h : Only S a b) {p : Addr} (hp : p.block ∈ S ∨ a.heap.size ≤ p.block) (v : Value) : Only S a (b.setCell p v) :=
  ⟨h.1, h.2.1, h.2.2.1, by simpa using h.size, fun i hi hn => by
    rw [Below.heap_setCell _ _ _ _ (fun e => by
      rcases hp with h1 | h1
      · exact hn (e ▸ h1)
      · omega)]
    exact h.2.2.2.2 i hi hn⟩
theorem Only.alloc {S : List Nat} {a b : World} (h : Only S a b) (o : Obj) : Only S a (b.alloc o) := h.top ((Below.refl _ _).alloc (Nat.le_refl _) _)
theorem Only.drew {S : List Nat} {a b : World} (h : Only S a b) : Only S a b.drew := h
theorem Only.turned {S : List Nat} {a b c : World} (h : Only S a b) {m : Nat} (k : b.mapTurned c m) (hm : m ∈ S ∨ a.heap.size ≤ m) : Only S a c := by
  obtain ⟨es, clock, es', clock', hb, rfl⟩ := k
  refine ⟨h.1, h.2.1, h.2.2.1, by simpa [ChangeMaps.setBlock] using h.size, fun i hi hn => ?_⟩
  rw [ChangeMaps.heap_setBlock_other hb _ (fun e => by
    rcases hm with h1 | h1
    · exact hn (e ▸ h1)
    · omega)]
  exact h.2.2.2.2 i hi hn
theorem Only.keep {S : List Nat} {a b : World} (h : Only S a b) {P : Program} {k : TypeId} {R : Value → Option (DataW Unit × List MemPlace)} {m n : Nat} {D : DataW Unit} (hm : m ∉ S) (ho : a.ownsMap P k R m n D) : b.ownsMap P k R m n D := by
  have hlt := ho.lt
  obtain ⟨es, clock, hb, r⟩ := ho
  exact ⟨es, clock, (h.2.2.2.2 m hlt hm).trans hb, r⟩
theorem Only.row {S : List Nat} {a b : World} (h : Only S a b) {ad : Option Addr} {cs : List Value} (hr : RowAt a ad cs) (hn : ∀ x, ad = some x → x.block ∉ S) : RowAt b ad cs := by
  rcases hr with hr | ⟨g, off, rfl, hs, hc⟩
  · exact Or.inl hr
  · exact Or.inr ⟨g, off, rfl, Nat.lt_of_lt_of_le hs h.size, fun j u hj => h.cellK (p := ⟨g, off + j, none⟩) (hn ⟨g, off, none⟩ rfl) (hc j u hj)⟩

/-- A map of rolls in memory. -/
def MapAt (w : World) (b : Nat) (L : List Rl) : Prop := ∃ D, w.ownsMap Tryz.prog 9 scrR b L.length D ∧ RD L D
theorem MapAt.lt {w : World} {b : Nat} {L : List Rl} (h : MapAt w b L) : b < w.heap.size := by obtain ⟨D, h, _⟩ := h; exact h.lt
theorem MapAt.keep {S : List Nat} {w w' : World} {b : Nat} {L : List Rl} (h : MapAt w b L) (k : Only S w w') (hb : b ∉ S) : MapAt w' b L := by
  obtain ⟨D, h, r⟩ := h; exact ⟨D, k.keep hb h, r⟩
theorem MapAt.rising {w : World} {b : Nat} {L : List Rl} (h : MapAt w b L) : Rising L := by obtain ⟨D, _, r⟩ := h; exact r.1
theorem keyStr : Keyed Tryz.prog 9 := string_keyed Tryz.underlying9
/-- What stands where there is none. -/
def zScr : Scr := ⟨⟨#[]⟩, 0, false⟩
theorem zeroScr (w : World) : (zeroValue 88).run Tryz.prog w = .ok (scrV zScr) w := by kernel_rfl
/-- The roll of a name; the empty one where there is none. -/
def atL (n : Nm) (L : List Rl) : Scr := (lookL n L).getD zScr
theorem MapAt.look {w : World} {b : Nat} {L : List Rl} (h : MapAt w b L) {nm : ByteArray} (hn : nm.size ≤ maxLen) :
    (Instr.lookup 68 (.map (some b)) (.string nm) false).run Tryz.prog w = .ok (scrV (atL nm.data.toList L)) w ∧
    (Instr.lookup 68 (.map (some b)) (.string nm) true).run Tryz.prog w = .ok (.tuple #[scrV (atL nm.data.toList L), .bool (lookL nm.data.toList L).isSome]) w := by
  obtain ⟨D, ho, r⟩ := h
  have hk := Go.WideMaps.keyOf_string_mk Tryz.underlying9 hn
  have e : ∀ v ps, scrR v = some (D.atKey (.string nm.data.toList) (scrD zScr), ps) → v = scrV (atL nm.data.toList L) := fun v ps hv => by
    obtain ⟨c, rfl, h2⟩ := scrR_inv hv
    simp only [Prod.mk.injEq] at h2
    have h3 := h2.1
    unfold atL
    cases hl : lookL nm.data.toList L with
    | none => rw [r.at_none hl] at h3; rw [← scrD_inj h3]; rfl
    | some d => rw [r.at hl] at h3; rw [← scrD_inj h3]; rfl
  constructor
  · obtain ⟨v, ps, hrun, hv⟩ := ho.lookup keyStr Tryz.underlying68 (zeroScr w) (scrR_mk zScr) hk
    rw [hrun, e v ps hv]
  · obtain ⟨v, ps, hrun, hv⟩ := ho.look_ok keyStr Tryz.underlying68 (zeroScr w) (scrR_mk zScr) hk
    rw [hrun, e v ps hv, r.look]
theorem MapAt.store {w : World} {b : Nat} {L : List Rl} (h : MapAt w b L) (hL : L.length < 1000000000) {nm : ByteArray} (hn : nm.size ≤ maxLen) (c : Scr) :
    ∃ w', (Instr.mapUpdate 68 (.map (some b)) (.string nm) (scrV c)).run Tryz.prog w = .ok () w' ∧ MapAt w' b (putL nm.data.toList c L) ∧ w.mapTurned w' b := by
  obtain ⟨D, ho, r⟩ := h
  obtain ⟨w', hrun, ho', ht⟩ := ho.store keyStr Tryz.underlying68 (by unfold maxLen; omega) (Go.WideMaps.keyOf_string_mk Tryz.underlying9 hn) (scrR_mk c)
  have r' := r.put ho.isMap nm.data.toList c
  exact ⟨w', hrun, ⟨_, by have := owns_tight ho'; rwa [r'.size ho' keyStr Tryz.underlying9] at this, r'⟩, ht⟩
theorem MapAt.drop {w : World} {b : Nat} {L : List Rl} (h : MapAt w b L) {nm : ByteArray} (hn : nm.size ≤ maxLen) (ty : TypeId) :
    ∃ w', (Builtin.delete_ #[68, 9] ty #[.map (some b), .string nm]).run Tryz.prog w = .ok (.tuple #[]) w' ∧ MapAt w' b (delL nm.data.toList L) ∧ w.mapTurned w' b := by
  obtain ⟨D, ho, r⟩ := h
  obtain ⟨w', hrun, ho', ht⟩ := ho.drop keyStr Tryz.underlying68 (Go.WideMaps.keyOf_string_mk Tryz.underlying9 hn) ty
  have r' := r.del nm.data.toList
  exact ⟨w', hrun, ⟨_, by have := owns_tight ho'; rwa [r'.size ho' keyStr Tryz.underlying9] at this, r'⟩, ht⟩
theorem mapAt_made (w : World) : MapAt (w.alloc (.map #[] 0)) w.heap.size [] := ⟨_, World.ownsMap_made _ _ _ _, rd_nil⟩

/-- 'm[k]' at the operation. -/
theorem wpList_look (w : World) {ops : Array Oper} {rest : List Oper} {o : Oper} {a : Act} {Q : Exit → Act → World → Prop}
    (hg : o.guard = none) (m x : Operand) (hop : o.op = Op.lookup 68 m x false) (b : Nat) (L : List Rl) (hm : a.eval m = .map (some b)) (hM : MapAt w b L)
    (nm : ByteArray) (hx : a.eval x = .string nm) (hn : nm.size ≤ maxLen) (c : Scr) (hc : Hid (atL nm.data.toList L = c))
    (hK : wpList Tryz.prog ops Q rest (a.put o.dst (.agg #[.string c.s, .int .i64 c.p, .bool c.k])) w) : wpList Tryz.prog ops Q (o :: rest) a w := by
  refine wpList_plain hg fun K' hK' => ?_
  have hrun := (hM.look hn).1
  rw [hc.out] at hrun
  unfold scrV at hrun
  unfold Oper.wp
  simp [execOp, hop, hm, hx, hrun, Result.andThen]
  exact hK' _ _ hK
/-- 'm[k]', with ok, at the operation. -/
theorem wpList_look_ok (w : World) {ops : Array Oper} {rest : List Oper} {o : Oper} {a : Act} {Q : Exit → Act → World → Prop}
    (hg : o.guard = none) (m x : Operand) (hop : o.op = Op.lookup 68 m x true) (b : Nat) (L : List Rl) (hm : a.eval m = .map (some b)) (hM : MapAt w b L)
    (nm : ByteArray) (hx : a.eval x = .string nm) (hn : nm.size ≤ maxLen) (c : Scr) (hc : Hid (atL nm.data.toList L = c)) (t : Bool) (ht : Hid ((lookL nm.data.toList L).isSome = t))
    (hK : wpList Tryz.prog ops Q rest (a.put o.dst (.tuple #[.agg #[.string c.s, .int .i64 c.p, .bool c.k], .bool t])) w) : wpList Tryz.prog ops Q (o :: rest) a w := by
  refine wpList_plain hg fun K' hK' => ?_
  have hrun := (hM.look hn).2
  rw [hc.out, ht.out] at hrun
  unfold scrV at hrun
  unfold Oper.wp
  simp [execOp, hop, hm, hx, hrun, Result.andThen]
  exact hK' _ _ hK
/-- 'm[k] = v' at the operation. -/
theorem wpList_put (w : World) {ops : Array Oper} {rest : List Oper} {o : Oper} {a : Act} {Q : Exit → Act → World → Prop}
    (hg : o.guard = none) (m x v : Operand) (hop : o.op = Op.mapUpdate 68 m x v) (b : Nat) (L : List Rl) (hm : a.eval m = .map (some b)) (hM : MapAt w b L) (hL : L.length < 1000000000)
    (nm : ByteArray) (hx : a.eval x = .string nm) (hn : nm.size ≤ maxLen) (c : Scr) (hv : a.eval v = .agg #[.string c.s, .int .i64 c.p, .bool c.k])
    (hK : ∀ w', MapAt w' b (putL nm.data.toList c L) → w.mapTurned w' b → wpList Tryz.prog ops Q rest (a.put o.dst undef) w') : wpList Tryz.prog ops Q (o :: rest) a w := by
  refine wpList_plain hg fun K' hK' => ?_
  obtain ⟨w', hrun, r1, r2⟩ := hM.store hL hn c
  unfold scrV at hrun
  unfold Oper.wp
  simp [execOp, hop, hm, hx, hv, hrun, Result.andThen]
  exact hK' _ _ (hK w' r1 r2)
/-- 'delete(m, k)' at the operation. -/
theorem wpList_del (w : World) {ops : Array Oper} {rest : List Oper} {o : Oper} {a : Act} {Q : Exit → Act → World → Prop}
    (hg : o.guard = none) (m x : Operand) (hop : o.op = Op.call { callee := Callee.builtin Builtin.delete, args := #[m, x], argTypes := #[68, 9] }) (b : Nat) (L : List Rl) (hm : a.eval m = .map (some b)) (hM : MapAt w b L)
    (nm : ByteArray) (hx : a.eval x = .string nm) (hn : nm.size ≤ maxLen)
    (hK : ∀ w', MapAt w' b (delL nm.data.toList L) → w.mapTurned w' b → wpList Tryz.prog ops Q rest (a.put o.dst (.tuple #[])) w') : wpList Tryz.prog ops Q (o :: rest) a w := by
  refine wpList_plain hg fun K' hK' => ?_
  obtain ⟨w', hrun, r1, r2⟩ := hM.drop hn o.type
  unfold Oper.wp
  simp [execOp, hop, resolve, invoke, builtin, hm, hx, hrun, Result.andThen]
  exact hK' _ _ (hK w' r1 r2)

/-- A chest in memory: its block, its map's block, for how many bytes more, its rolls. -/
def ChestAt (w : World) (g b : Nat) (r : Int) (L : List Rl) : Prop :=
  w.cell? ⟨g, 0, none⟩ = some (.int .i64 r) ∧ w.cell? ⟨g, 1, none⟩ = some (.map (some b)) ∧ w.frozen? ⟨g, 0, none⟩ = false ∧ w.frozen? ⟨g, 1, none⟩ = false ∧ MapAt w b L
theorem ChestAt.ne {w : World} {g b : Nat} {r : Int} {L : List Rl} (h : ChestAt w g b r L) : g ≠ b := by
  rintro rfl
  obtain ⟨h0, -, -, -, D, ⟨es, clock, hb, -⟩, -⟩ := h
  simp [World.cell?, hb] at h0
theorem ChestAt.map {w : World} {g b : Nat} {r : Int} {L : List Rl} (h : ChestAt w g b r L) : MapAt w b L := h.2.2.2.2
theorem ChestAt.ltg {w : World} {g b : Nat} {r : Int} {L : List Rl} (h : ChestAt w g b r L) : g < w.heap.size := cell_old h.1
theorem ChestAt.ltb {w : World} {g b : Nat} {r : Int} {L : List Rl} (h : ChestAt w g b r L) : b < w.heap.size := h.map.lt
theorem ChestAt.keep {S : List Nat} {w w' : World} {g b : Nat} {r : Int} {L : List Rl} (h : ChestAt w g b r L) (k : Only S w w') (hg : g ∉ S) (hb : b ∉ S) : ChestAt w' g b r L :=
  ⟨k.cellK hg h.1, k.cellK hg h.2.1, k.frozenK hg h.1 h.2.2.1, k.frozenK hg h.2.1 h.2.2.2.1, h.map.keep k hb⟩
theorem ChestAt.low {w w' : World} {g b : Nat} {r : Int} {L : List Rl} (h : ChestAt w g b r L) (k : Below w.heap.size w w') : ChestAt w' g b r L := h.keep (S := []) (Only.of_below k) (by simp) (by simp)
theorem MapAt.drew {w : World} {b : Nat} {L : List Rl} (h : MapAt w b L) : MapAt w.drew b L := h
theorem ChestAt.drew {w : World} {g b : Nat} {r : Int} {L : List Rl} (h : ChestAt w g b r L) : ChestAt w.drew g b r L := h
theorem ChestAt.room {w : World} {g b : Nat} {r : Int} {L : List Rl} (h : ChestAt w g b r L) (r' : Int) : ChestAt (w.setCell ⟨g, 0, none⟩ (.int .i64 r')) g b r' L := by
  have k : Only [g] w (w.setCell ⟨g, 0, none⟩ (.int .i64 r')) := (Only.refl _ _).setCell (Or.inl (by simp)) _
  refine ⟨World.cell?_setCell_same _ _ _ h.1, ?_, ?_, ?_, h.map.keep k (by simpa using h.ne.symm)⟩
  · rw [World.cell?_setCell_other _ _ _ _ (by simp)]; exact h.2.1
  · rw [World.frozen?_setCell]; exact h.2.2.1
  · rw [World.frozen?_setCell]; exact h.2.2.2.1
theorem ChestAt.turn {w w' : World} {g b : Nat} {r : Int} {L L' : List Rl} (h : ChestAt w g b r L) (k : w.mapTurned w' b) (hM : MapAt w' b L') : ChestAt w' g b r L' := by
  have k : Only [b] w w' := (Only.refl _ _).turned k (Or.inl (by simp))
  have hg : g ∉ [b] := by simpa using h.ne
  exact ⟨k.cellK hg h.1, k.cellK hg h.2.1, k.frozenK hg h.1 h.2.2.1, k.frozenK hg h.2.1 h.2.2.2.1, hM⟩
end Go.Proofs.YthiphdcbboapkaaGreatDoor

/- Plain words on a tear; a map's next roll at the operation. Walk of roll's Tear. A chest of the call's own: each method as a step. -/
import Derived.Test.YthiphdcbboapkaaGreatDoorN5
namespace Go.Proofs.YthiphdcbboapkaaGreatDoor
open Go.RowKit Go.Maps

theorem rising_ext : ∀ {L M : List Rl}, Rising L → Rising M → (∀ x, x ∈ L ↔ x ∈ M) → L = M
  | [], [], _, _, _ => rfl
  | [], y :: s, _, _, h => by have := (h y).2 List.mem_cons_self; simp at this
  | x :: r, [], _, _, h => by have := (h x).1 List.mem_cons_self; simp at this
  | x :: r, y :: s, h1, h2, h => by
    obtain ⟨a1, a2⟩ := List.pairwise_cons.1 h1
    obtain ⟨b1, b2⟩ := List.pairwise_cons.1 h2
    have e : x = y := by
      rcases List.mem_cons.1 ((h x).1 List.mem_cons_self) with e | hx
      · exact e
      · rcases List.mem_cons.1 ((h y).2 List.mem_cons_self) with e | hy
        · exact e.symm
        · exact absurd (lt_tr (a1 _ hy) (b1 _ hx)) (lt_irr _)
    subst e
    have : r = s := rising_ext a2 b2 fun z => by
      have hz := h z
      simp only [List.mem_cons] at hz
      constructor
      · intro hm
        rcases hz.1 (Or.inr hm) with e | h3
        · subst e; exact absurd (a1 _ hm) (lt_irr _)
        · exact h3
      · intro hm
        rcases hz.2 (Or.inr hm) with e | h3
        · subst e; exact absurd (b1 _ hm) (lt_irr _)
        · exact h3
    rw [this]
/-- How much of a roll a tear leaves. -/
def leftK (k : Int) (c : Scr) : Int := c.p + (if 0 < k then k % ((c.s.size : Int) - c.p + 1) else 0)
theorem leftK_bd {k : Int} {c : Scr} (h : 0 ≤ c.p ∧ c.p ≤ c.s.size) : 0 ≤ leftK k c ∧ leftK k c ≤ c.s.size := by
  unfold leftK
  split
  · have h1 := Int.emod_nonneg k (b := (c.s.size : Int) - c.p + 1) (by omega)
    have h2 := Int.emod_lt_of_pos k (b := (c.s.size : Int) - c.p + 1) (by omega)
    omega
  · omega
/-- What a tear leaves of a roll. -/
def tearOne (k : Int) (c : Scr) : Option Scr := if (decide (0 < leftK k c) || c.k) = true then some ⟨c.s.extract 0 (leftK k c).toNat, leftK k c, true⟩ else none
def tearL (k : Int) (L : List Rl) : List Rl := L.filterMap fun x => (tearOne k x.2).map fun d => (x.1, d)
theorem mem_tearL {k : Int} {L : List Rl} {m : Nm} {d : Scr} : (m, d) ∈ tearL k L ↔ ∃ c, (m, c) ∈ L ∧ tearOne k c = some d := by
  unfold tearL
  rw [List.mem_filterMap]
  constructor
  · rintro ⟨⟨n, c⟩, hx, h⟩
    cases ht : tearOne k c with
    | none => rw [ht] at h; cases h
    | some e =>
      rw [ht] at h
      simp only [Option.map_some, Option.some.injEq, Prod.mk.injEq] at h
      obtain ⟨rfl, rfl⟩ := h
      exact ⟨c, hx, ht⟩
  · rintro ⟨c, hx, h⟩
    exact ⟨(m, c), hx, by rw [h]; rfl⟩
theorem tearL_rising {k : Int} : ∀ {L : List Rl}, Rising L → Rising (tearL k L)
  | [], _ => List.Pairwise.nil
  | x :: r, h => by
    obtain ⟨h1, h2⟩ := List.pairwise_cons.1 h
    have ih := tearL_rising (k := k) h2
    have e : tearL k (x :: r) = (match tearOne k x.2 with | none => tearL k r | some d => (x.1, d) :: tearL k r) := by
      unfold tearL
      rw [List.filterMap_cons]
      cases tearOne k x.2 <;> rfl
    rw [e]
    cases ht : tearOne k x.2 with
    | none => exact ih
    | some d =>
      refine List.pairwise_cons.2 ⟨fun y hy => ?_, ih⟩
      obtain ⟨m, e⟩ := y
      obtain ⟨c, hc, _⟩ := mem_tearL.1 hy
      exact h1 (m, c) hc
theorem lookL_no {n : Nm} {L : List Rl} (h : lookL n L = none) (c : Scr) : (n, c) ∉ L := fun hm => lookL_none h _ hm rfl
theorem tear_put {k : Int} {n : Nm} {c : Scr} {L : List Rl} (hs : Rising L) (hn : lookL n L = none) : tearL k (putL n c L) = match tearOne k c with
    | none => tearL k L
    | some d => putL n d (tearL k L) := by
  cases ht : tearOne k c with
  | none =>
    refine rising_ext (tearL_rising (putL_rising hs)) (tearL_rising hs) fun ⟨m, d⟩ => ?_
    rw [mem_tearL, mem_tearL]
    constructor
    · rintro ⟨e, he, h⟩
      rcases (mem_putL hs).1 he with ⟨rfl, rfl⟩ | ⟨_, he⟩
      · rw [ht] at h; cases h
      · exact ⟨e, he, h⟩
    · rintro ⟨e, he, h⟩
      exact ⟨e, (mem_putL hs).2 (Or.inr ⟨fun q => by subst q; exact lookL_no hn _ he, he⟩), h⟩
  | some x =>
    refine rising_ext (tearL_rising (putL_rising hs)) (putL_rising (tearL_rising hs)) fun ⟨m, d⟩ => ?_
    rw [mem_tearL, mem_putL (tearL_rising hs), mem_tearL]
    constructor
    · rintro ⟨e, he, h⟩
      rcases (mem_putL hs).1 he with ⟨rfl, rfl⟩ | ⟨h1, he⟩
      · rw [ht] at h; cases h; exact Or.inl ⟨rfl, rfl⟩
      · exact Or.inr ⟨h1, e, he, h⟩
    · rintro (⟨rfl, rfl⟩ | ⟨h1, e, he, h⟩)
      · exact ⟨c, (mem_putL hs).2 (Or.inl ⟨rfl, rfl⟩), ht⟩
      · exact ⟨e, (mem_putL hs).2 (Or.inr ⟨h1, he⟩), h⟩
theorem look_tear_none {k : Int} {n : Nm} {L : List Rl} (hn : lookL n L = none) : lookL n (tearL k L) = none := by
  cases h : lookL n (tearL k L) with
  | none => rfl
  | some d =>
    obtain ⟨c, hc, _⟩ := mem_tearL.1 (lookL_mem h)
    exact absurd hc (lookL_no hn c)
theorem lenL_none {n : Nm} {L : List Rl} (h : lookL n L = none) : lenL n L = 0 := by unfold lenL; rw [h]
/-- What a tear makes room for, roll by roll. -/
theorem tear_sum {k : Int} {n : Nm} {c : Scr} {L : List Rl} (hs : Rising L) (hn : lookL n L = none) (hp : 0 ≤ c.p ∧ c.p ≤ c.s.size) :
    sumL (putL n c L) - sumL (tearL k (putL n c L)) = sumL L - sumL (tearL k L) + ((c.s.size : Int) - leftK k c) := by
  rw [sum_putL hs, lenL_none hn, tear_put hs hn]
  have hb := leftK_bd (k := k) hp
  unfold tearOne
  by_cases h : (decide (0 < leftK k c) || c.k) = true
  · rw [if_pos h]
    show _ - sumL (putL n _ (tearL k L)) = _
    rw [sum_putL (tearL_rising hs), lenL_none (look_tear_none hn)]
    have : ((c.s.extract 0 (leftK k c).toNat).size : Int) = leftK k c := by rw [ByteArray.size_extract]; omega
    show _ - (_ - 0 + ((c.s.extract 0 (leftK k c).toNat).size : Int)) = _
    rw [this]; omega
  · rw [if_neg h]
    have h0 : leftK k c = 0 := by
      have : ¬ 0 < leftK k c := fun q => h (by simp [q])
      omega
    show _ - sumL (tearL k L) = _
    omega
theorem tear_put' {k : Int} {n : Nm} {c : Scr} {L : List Rl} (hs : Rising L) (hn : lookL n L = none) : tearL k (putL n c L) = if (decide (0 < leftK k c) || c.k) = true then putL n ⟨c.s.extract 0 (leftK k c).toNat, leftK k c, true⟩ (tearL k L) else tearL k L := by
  rw [tear_put hs hn]
  unfold tearOne
  by_cases h : (decide (0 < leftK k c) || c.k) = true
  · rw [if_pos h, if_pos h]
  · rw [if_neg h, if_neg h]
/-- The rolls that a loop has met. -/
def doneL (left : Lit → Bool) (L : List Rl) : List Rl := L.filter fun x => !left (.string x.1)
theorem doneL_rising {left : Lit → Bool} {L : List Rl} (h : Rising L) : Rising (doneL left L) := List.Pairwise.filter _ h
theorem mem_doneL {left : Lit → Bool} {L : List Rl} {x : Rl} : x ∈ doneL left L ↔ x ∈ L ∧ left (.string x.1) = false := by unfold doneL; simp
theorem doneL_start {L : List Rl} {D : DataW Unit} (h : RD L D) : doneL (Maps.has D) L = [] := by
  refine List.eq_nil_iff_forall_not_mem.2 fun x hx => ?_
  obtain ⟨h1, h2⟩ := mem_doneL.1 hx
  rw [(h.2.1 x.1).2 ⟨x.2, h1⟩] at h2
  cases h2
theorem doneL_end {left : Lit → Bool} {L : List Rl} (h : ∀ kl, left kl = false) : doneL left L = L := by
  unfold doneL; rw [List.filter_eq_self.2 fun x _ => by rw [h]; rfl]
theorem same_str (a b : Nm) : (Lit.string a).sameKey (.string b) = (a == b) := rfl
theorem doneL_new {left : Lit → Bool} {L : List Rl} (_hs : Rising L) {n : Nm} (hl : left (.string n) = true) : lookL n (doneL left L) = none := by
  cases h : lookL n (doneL left L) with
  | none => rfl
  | some d =>
    have := (mem_doneL.1 (lookL_mem h)).2
    rw [hl] at this; cases this
theorem doneL_step {left : Lit → Bool} {L : List Rl} (hs : Rising L) {n : Nm} {c : Scr} (hc : (n, c) ∈ L) : doneL (fun z => left z && !z.sameKey (.string n)) L = putL n c (doneL left L) := by
  refine rising_ext (doneL_rising hs) (putL_rising (doneL_rising hs)) fun ⟨m, d⟩ => ?_
  rw [mem_doneL, mem_putL (doneL_rising hs), mem_doneL]
  show (_ ∧ (left (.string m) && !(Lit.string m).sameKey (.string n)) = false) ↔ _
  rw [same_str]
  by_cases e : m = n
  · subst e
    simp only [beq_self_eq_true, Bool.not_true, Bool.and_false, and_true, true_and, ne_eq, not_true, false_and, or_false]
    constructor
    · intro h
      have h1 := mem_lookL hs h
      rw [mem_lookL hs hc] at h1
      exact (Option.some.inj h1).symm
    · intro h; rw [h]; exact hc
  · have : (m == n) = false := by simpa using e
    rw [this]
    simp [e]
theorem RD.mem_of {L : List Rl} {D : DataW Unit} (h : RD L D) {n : Nm} {c : Scr} (hat : ∀ zd, D.atKey (.string n) zd = scrD c) : (n, c) ∈ L := by
  obtain ⟨d, hd⟩ := (h.2.1 n).1 (has_true_of_atKey hat)
  have := h.2.2 n d hd .nil
  rw [hat] at this
  rw [scrD_inj this]; exact hd
theorem ranges_only {S : List Nat} {w w' : World} {P : Program} {k : TypeId} {R : Value → Option (DataW Unit × List MemPlace)} {b r n : Nat} {D : DataW Unit} {left : Lit → Bool} {cnt : Nat} (h : w.ranges P k R b r n D left cnt) (ho : Only S w w') (hb : b ∉ S) (hr : r ∉ S) : w'.ranges P k R b r n D left cnt := by
  have h1 := h.owns.lt
  have h2 := h.lt
  obtain ⟨es, clock, since, seen, c0, hm, F, hs, hD, hi, rest⟩ := h
  exact ⟨es, clock, since, seen, c0, (ho.2.2.2.2 b h1 hb).trans hm, F, hs, hD, (ho.2.2.2.2 r h2 hr).trans hi, rest⟩
theorem only_grown {w w' : World} {r : Nat} (h : w.grownBy w' (some r)) : Only [r] w w' := ⟨h.os, h.tape, h.output, h.size, fun i hi hn => h.block i hi (fun e => hn (by cases e; simp))⟩
/-- A map's next roll, at the operation. -/
theorem wpList_next_scr (w : World) {ops : Array Oper} {rest : List Oper} {o : Oper} {a : Act} {Q : Exit → Act → World → Prop} (hg : o.guard = none) (it : Operand) (hop : o.op = Op.next it false) (b r n : Nat) (D : DataW Unit) (left : Lit → Bool) (cnt : Nat)
    (hit : a.eval it = .pointer (some ⟨r, 0, none⟩)) (h : w.ranges Tryz.prog 9 scrR b r n D left cnt)
    (hDone : (∀ kl, left kl = false) → wpList Tryz.prog ops Q rest (a.put o.dst (.tuple #[.bool false])) w)
    (hMore : ∀ (s : ByteArray) (c : Scr) (w' : World) (cnt' : Nat), s.size ≤ maxLen → left (.string s.data.toList) = true → (∀ zd, D.atKey (.string s.data.toList) zd = scrD c) → w'.ranges Tryz.prog 9 scrR b r n D (fun z => left z && !z.sameKey (.string s.data.toList)) cnt' → cnt' < cnt →
      Only [r] w w' → (Instr.entry (.pointer (some ⟨r, 0, none⟩))).run Tryz.prog w' = .ok (.tuple #[.string s, .agg #[.string c.s, .int .i64 c.p, .bool c.k]]) w' → wpList Tryz.prog ops Q rest (a.put o.dst (.tuple #[.bool true, .string s, .agg #[.string c.s, .int .i64 c.p, .bool c.k]])) w') :
    wpList Tryz.prog ops Q (o :: rest) a w :=
  wpList_next_ranges w hg it hop 9 keyStr scrR (fun s : ByteArray => Value.string s) scrV (fun key kl hk => by obtain ⟨x, hx, _⟩ := Maps.keyOf_str Tryz.underlying9 hk; exact ⟨_, hx⟩) (fun v y hv => by obtain ⟨c, hc, _⟩ := scrR_inv hv; exact ⟨c, hc⟩)
    b r n D left cnt hit h (fun _ hl => hDone hl) (fun s c kl y w' cnt' hkey hlk hv hat hrg hlt hgr hsz hen => by
      obtain ⟨x, ex, rfl, hx⟩ := Maps.keyOf_str Tryz.underlying9 hkey
      simp only [Value.string.injEq] at ex
      subst ex
      obtain ⟨c', hc', hy⟩ := scrR_inv hv
      have hcc : c = c' := by
        unfold scrV at hc'
        simp at hc'
        obtain ⟨h1, h2, h3⟩ := hc'
        cases c; cases c'; simp at h1 h2 h3; subst h1 h2 h3; rfl
      subst hcc
      have hat' : ∀ zd, D.atKey (.string x) zd = scrD c := fun zd => by rw [hat zd, hy]
      exact hMore _ c w' cnt' (by rw [Lib.size_eq]; exact hx) hlk hat' hrg hlt (only_grown hgr) hen)
end Go.Proofs.YthiphdcbboapkaaGreatDoor
namespace Go.Proofs.YthiphdcbboapkaaGreatDoor
open Go.RowKit Go.Maps

/-- What Tear comes to. -/
def tearS (r : Int) (L : List Rl) (k : Int) : Int := r + (sumL L - sumL (tearL k L))
/-- The state of the loop. -/
def TearI (w : World) (b : Nat) (n : Nat) (D : DataW Unit) (r k : Int) (L : List Rl) (left : Lit → Bool) (cnt : Nat) (wr : World) : Prop :=
  wr.ranges Tryz.prog 9 scrR b (w.heap.size + 2) n D left cnt ∧ ChestAt wr (w.heap.size + 1) w.heap.size (tearS r (doneL left L) k) (tearL k (doneL left L)) ∧ Below w.heap.size w wr
theorem tearS_bd {r k : Int} {L : List Rl} (left : Lit → Bool) (h : OkL r L) (_hs : Rising L) : 0 ≤ tearS r (doneL left L) k ∧ tearS r (doneL left L) k ≤ 1048576 ∧ tearS r (doneL left L) k + sumL (tearL k (doneL left L)) ≤ 1048576 := by
  have h1 : ∀ M : List Rl, (∀ x ∈ M, 0 ≤ x.2.p ∧ x.2.p ≤ x.2.s.size) → 0 ≤ sumL (tearL k M) ∧ sumL (tearL k M) ≤ sumL M := by
    intro M
    induction M with
    | nil => intro _; exact ⟨Int.le_refl _, Int.le_refl _⟩
    | cons x t ih =>
      intro hM
      have h2 := ih fun y hy => hM y (List.mem_cons_of_mem _ hy)
      have h3 := leftK_bd (k := k) (hM x List.mem_cons_self)
      have e : tearL k (x :: t) = (match tearOne k x.2 with | none => tearL k t | some d => (x.1, d) :: tearL k t) := by
        unfold tearL
        rw [List.filterMap_cons]
        cases tearOne k x.2 <;> rfl
      rw [e]
      unfold tearOne
      by_cases hq : (decide (0 < leftK k x.2) || x.2.k) = true
      · rw [if_pos hq]
        show 0 ≤ ((x.2.s.extract 0 (leftK k x.2).toNat).size : Int) + sumL (tearL k t) ∧ ((x.2.s.extract 0 (leftK k x.2).toNat).size : Int) + sumL (tearL k t) ≤ (x.2.s.size : Int) + sumL t
        rw [ByteArray.size_extract]
        omega
      · rw [if_neg hq]
        show 0 ≤ sumL (tearL k t) ∧ sumL (tearL k t) ≤ (x.2.s.size : Int) + sumL t
        omega
  have h4 : ∀ M : List Rl, sumL (M.filter fun x => !left (.string x.1)) ≤ sumL M := by
    intro M
    induction M with
    | nil => exact Int.le_refl _
    | cons x t ih =>
      rw [List.filter_cons]
      split
      · simp only [sumL]; omega
      · simp only [sumL]; omega
  have h5 := h1 (doneL left L) fun x hx => h.2.2 x (mem_doneL.1 hx).1
  have h6 : sumL (doneL left L) ≤ sumL L := h4 L
  have h7 := h.1
  have h8 := h.2.1
  unfold tearS
  omega
set_option maxRecDepth 100000 in
set_option maxHeartbeats 3200000 in
theorem tear_any {w : World} {g b : Nat} {r : Int} {L : List Rl} (hC : ChestAt w g b r L) (hL : L.length < 1000000) (hk : OkL r L) (k : Int) (hkk : -9223372036854775808 ≤ k ∧ k ≤ 9223372036854775807) :
    Calls Tryz.prog 22 #[.pointer (some ⟨g, 0, none⟩), .int .i64 k] w (NewR w (tearS r L k) (tearL k L)) := by
  have hmm := @run_makeMap Tryz.prog
  have ltg := hC.ltg
  have ltb := hC.ltb
  have c0 := hC.1
  have c1 := hC.2.1
  obtain ⟨D, ho, hR⟩ := hC.map
  have HD := Lib.hid hR
  have HO := Lib.hid ho
  have HK := Lib.hid hk
  have HC := Lib.hid hC
  clear ho hR hC hk
  go_enter Tryz.func22, Tryz.ntmps22
  go_wp2_with (at_range; refine wpList_range_own _ rfl _ 68 rfl 9 88 keyStr Tryz.underlying68 _ b L.length D rfl (((HO.out.alloc _).alloc _)) ?_; intro w0 hrg0 hg0 hs0)
  go_frame
  have e2 : ((w.alloc (.map #[] 0)).alloc (.cells #[.int .i64 r, .map (some w.heap.size)] 70)).heap.size = w.heap.size + 2 := by simp
  rw [e2] at hrg0 ⊢
  have HI0 : Hid (TearI w b L.length D r k L (Maps.has D) (Maps.size D) w0) := by
    refine Lib.hid ⟨hrg0, ?_, ?_⟩
    · rw [doneL_start HD.out]
      have hc := new_chest w r 70
      have ho : Only [] ((w.alloc (.map #[] 0)).alloc (.cells #[.int .i64 r, .map (some w.heap.size)] 70)) w0 := ⟨hg0.os, hg0.tape, hg0.output, hg0.size, fun i hi _ => hg0.block i hi (by simp)⟩
      have := hc.keep ho (by simp) (by simp)
      have e3 : tearS r [] k = r := by unfold tearS tearL sumL; simp
      rw [e3]
      exact this
    · have hb0 : Below w.heap.size w ((w.alloc (.map #[] 0)).alloc (.cells #[.int .i64 r, .map (some w.heap.size)] 70)) := below_alloc (below_alloc (Below.refl _ _) _) _
      exact below_on hb0 ⟨hg0.os, hg0.tape, hg0.output, hg0.size, fun i hi => hg0.block i hi (by simp)⟩
  clear hrg0 hg0 hs0 c0 c1 e2
  go_loopw [24] (fun _ wr => ∃ (left : Lit → Bool) (cnt : Nat), TearI w b L.length D r k L left cnt wr) (fun _ wr => wr.rangeLeft b (w.heap.size + 2))
  case atStart => exact ⟨_, _, HI0.out⟩
  case round =>
    obtain ⟨left, cnt, hI⟩ := hrel
    have HI := Lib.hid hI
    clear hI
    go_wp2_with (at_next; refine wpList_next_scr _ rfl _ rfl b (w.heap.size + 2) L.length D left cnt rfl HI.out.1 ?_ ?_)
    · intro hl0
      have HL0 := Lib.hid hl0
      clear hl0
      go_wp2_with fail
      go_ret
      have h1 := HI.out.2.1
      rw [doneL_end HL0.out] at h1
      exact ⟨_, _, rfl, h1, by omega, by omega, HI.out.2.2⟩
    · intro s c w1 cnt1 hs hlf hat hrg1 hlt ho1 hen
      have hmem := HD.out.mem_of hat
      have hp : 0 ≤ c.p ∧ c.p ≤ c.s.size := HK.out.2.2 _ hmem
      have hsz := (HK.out.look (mem_lookL HD.out.1 hmem)).1
      have HN := Lib.hid (doneL_new HD.out.1 hlf)
      have HS := Lib.hid (doneL_step (left := left) HD.out.1 hmem)
      have HT := Lib.hid (tear_sum (k := k) (n := s.data.toList) (c := c) (doneL_rising HD.out.1) HN.out hp)
      have HP := Lib.hid (tear_put' (k := k) (n := s.data.toList) (c := c) (doneL_rising HD.out.1) HN.out)
      have hbd := tearS_bd (k := k) left HK.out HD.out.1
      have hbd2 := tearS_bd (k := k) (fun z => left z && !z.sameKey (.string s.data.toList)) HK.out HD.out.1
      have hlb := leftK_bd (k := k) hp
      have ls := HI.out.2.1.ltg
      have HR1 := Lib.hid hrg1
      have HC1 := Lib.hid (HI.out.2.1.keep ho1 (by simp) (by simp))
      have HB1 : Hid (Below w.heap.size w w1) := Lib.hid (Only.under HI.out.2.2 ho1 (by simp))
      have HM := Lib.hid hlt
      have hw1 : w.heap.size + 2 < w1.heap.size := hrg1.lt
      -- the chest and the map behind the round's own box
      have HC2 := Lib.hid (HC1.out.low (below_alloc (Below.refl _ _) (.cells #[.string c.s, .int .i64 c.p, .bool c.k] 88)))
      have HR2 := Lib.hid (HR1.out.alloc (.cells #[.string c.s, .int .i64 c.p, .bool c.k] 88))
      have HB2 : Hid (Below w.heap.size w (w1.alloc (.cells #[.string c.s, .int .i64 c.p, .bool c.k] 88))) := Lib.hid (below_alloc HB1.out _)
      have HY := Lib.hid (alloc_cells3 w1 (.string c.s) (.int .i64 c.p) (.bool c.k) 88)
      obtain ⟨lf, hlf0⟩ : ∃ lf, leftK k c = lf := ⟨_, rfl⟩
      have HLF := Lib.hid hlf0
      rw [hlf0] at HT hlb
      clear hlf0
      obtain ⟨rr, hrr⟩ : ∃ rr, tearS r (doneL left L) k = rr := ⟨_, rfl⟩
      rw [hrr] at HC2 hbd
      have HE : Hid (tearS r (doneL (fun z => left z && !z.sameKey (.string s.data.toList)) L) k = rr + ((c.s.size : Int) - lf)) := Lib.hid (by
        have h1 := HT.out
        rw [HS.out]
        unfold tearS at hrr ⊢
        omega)
      have HQ : Hid (tearL k (doneL (fun z => left z && !z.sameKey (.string s.data.toList)) L) = if (decide (0 < lf) || c.k) = true then putL s.data.toList ⟨c.s.extract 0 lf.toNat, lf, true⟩ (tearL k (doneL left L)) else tearL k (doneL left L)) := Lib.hid (by
        have h1 := HP.out
        rw [HLF.out] at h1
        rw [HS.out, h1])
      have hLen : (tearL k (doneL left L)).length < 1000000 := by
        have h1 : (tearL k (doneL left L)).length ≤ (doneL left L).length := List.length_filterMap_le _ _
        have h2 : (doneL left L).length ≤ L.length := List.length_filter_le _ _
        omega
      have hb2 := hbd2
      rw [HE.out] at hb2
      clear hrr hrg1 ho1 hbd2 hlf hat hmem
      generalize tearL k (doneL left L) = Lt at HC2 HQ hLen hbd
      have hlen : 0 ≤ (c.s.size : Int) - c.p := by omega
      have fin : ∀ (w9 : World) (L9 : List Rl), Hid (World.ranges w9 Tryz.prog 9 scrR b (w.heap.size + 2) L.length D (fun z => left z && !z.sameKey (.string s.data.toList)) cnt1 ∧ ChestAt w9 (w.heap.size + 1) w.heap.size (rr + ((c.s.size : Int) - lf)) L9 ∧ Below w.heap.size w w9) →
          Hid (L9 = if (decide (0 < lf) || c.k) = true then putL s.data.toList ⟨c.s.extract 0 lf.toNat, lf, true⟩ Lt else Lt) → TearI w b L.length D r k L (fun z => left z && !z.sameKey (.string s.data.toList)) cnt1 w9 := fun w9 L9 h1 h2 => by
        refine ⟨h1.out.1, ?_, h1.out.2.2⟩
        rw [HE.out, HQ.out, ← h2.out]
        exact h1.out.2.1
      have FIN := Lib.hid fin
      clear fin HE HQ HP HT HS HN
      by_cases hk0 : 0 < k
      · have d0 : decide (0 < k) = true := decide_eq_true hk0
        obtain ⟨q, hq⟩ : ∃ q, k % ((c.s.size : Int) - c.p + 1) = q := ⟨_, rfl⟩
        have q1 : 0 ≤ q := by rw [← hq]; exact Int.emod_nonneg _ (by omega)
        have q2 : q < (c.s.size : Int) - c.p + 1 := by rw [← hq]; exact Int.emod_lt_of_pos _ (by omega)
        have hq' : k.tmod ((c.s.size : Int) - c.p + 1) = q := by rw [Int.tmod_eq_emod_of_nonneg (by omega)]; exact hq
        have hlfq : c.p + q = lf := by rw [← HLF.out]; unfold leftK; rw [if_pos hk0, hq]
        clear HLF
        go_wp2_with fail
        obtain ⟨y0, y1, y2⟩ := HY.out
        have hx1 : ¬ w1.heap.size = w.heap.size + 1 := by omega
        have hx0 : ¬ w1.heap.size = w.heap.size := by omega
        generalize w1.alloc (.cells #[.string c.s, .int .i64 c.p, .bool c.k] 88) = V at y0 y1 y2 HC2 HR2 HB2 HY ⊢
        clear HY HC1 HR1 HB1
        generalize w1.heap.size = x at y0 y1 y2 hx0 hx1 ⊢
        have c0 := HC2.out.1
        have f0 := HC2.out.2.2.1
        go_still_tail 12, (by kernel_rfl)
        change wpList _ _ _ _ _ V.drew
        have HC3 : Hid (ChestAt V.drew (w.heap.size + 1) w.heap.size rr Lt) := Lib.hid HC2.out.drew
        have HR3 : Hid (World.ranges V.drew Tryz.prog 9 scrR b (w.heap.size + 2) L.length D (fun z => left z && !z.sameKey (.string s.data.toList)) cnt1) := Lib.hid HR2.out
        have HB3 : Hid (Below w.heap.size w V.drew) := Lib.hid HB2.out.drew
        have z0 : V.drew.cell? ⟨x, 0, none⟩ = some (.string c.s) := y0
        have z1 : V.drew.cell? ⟨x, 1, none⟩ = some (.int .i64 c.p) := y1
        have z2 : V.drew.cell? ⟨x, 2, none⟩ = some (.bool c.k) := y2
        clear y0 y1 y2 c0 f0 HC2 HR2 HB2
        generalize V.drew = W at z0 z1 z2 HC3 HR3 HB3 ⊢
        clear V
        have c0 := HC3.out.1
        have f0 := HC3.out.2.2.1
        have hst : Only [w.heap.size + 1] W (W.setCell ⟨w.heap.size + 1, 0, none⟩ (.int .i64 (rr + ((c.s.size : Int) - lf)))) := (Only.refl _ _).setCell (Or.inl (by simp)) _
        have HC4 := Lib.hid (HC3.out.room (rr + ((c.s.size : Int) - lf)))
        have HR4 := Lib.hid (ranges_only HR3.out hst (by simp; omega) (by simp))
        have HB4 := Lib.hid (Only.under HB3.out hst (by simp))
        have v0 := hst.cellK (p := ⟨x, 0, none⟩) (by simpa using hx1) z0
        have v2 := hst.cellK (p := ⟨x, 2, none⟩) (by simpa using hx1) z2
        have V0 := Lib.hid v0
        have V2 := Lib.hid v2
        clear hst v0 v2 z0 z1 HC3 HR3 HB3
        obtain ⟨C, hCC⟩ : ∃ C, c.s.extract 0 (lf).toNat = C := ⟨_, rfl⟩
        have hsl : ∀ w, (Instr.slice 9 (.string c.s) none (some (.int .i64 (lf))) none).run Tryz.prog w = .ok (.string C) w := fun w => by
          have := run_cutS c.s (lf).toNat (by omega) (by omega) w
          rw [Int.toNat_of_nonneg (by omega)] at this
          rw [← hCC]; exact this
        rw [hCC] at FIN
        obtain ⟨kk, hkk2⟩ : ∃ kk, c.k = kk := ⟨_, rfl⟩
        rw [hkk2] at FIN z2 V2
        obtain ⟨t1, ht1⟩ : ∃ t, decide (0 < lf) = t := ⟨_, rfl⟩
        rw [ht1] at FIN
        clear hkk2 hCC
        cases t1
        · have d1 : decide (0 < lf) = false := ht1
          cases kk
          · go_wp2_with fail
            generalize W.setCell ⟨w.heap.size + 1, 0, none⟩ (.int .i64 (rr + ((c.s.size : Int) - lf))) = W4 at HC4 HR4 HB4 V0 V2 ⊢
            go_roundw
            case rel => exact ⟨_, cnt1, FIN.out _ _ (Lib.hid ⟨HR4.out, HC4.out, HB4.out⟩) (Lib.hid rfl)⟩
            case measure => rw [HR4.out.left_eq, HI.out.1.left_eq]; exact HM.out
          · go_wp2_with fail
            generalize W.setCell ⟨w.heap.size + 1, 0, none⟩ (.int .i64 (rr + ((c.s.size : Int) - lf))) = W4 at HC4 HR4 HB4 V0 V2 ⊢
            have c1 := HC4.out.2.1
            have v0 := V0.out
            go_still_tail 11, (by kernel_rfl)
            refine wpList_put _ rfl _ _ _ rfl w.heap.size Lt rfl HC4.out.map.drew (by omega) s rfl hs ⟨C, lf, true⟩ rfl ?_
            intro w5 hM5 ht5
            have hto : Only [w.heap.size] W4 w5 := (Only.refl [w.heap.size] W4).drew.turned ht5 (Or.inl (by simp))
            have HC5 := Lib.hid (HC4.out.drew.turn ht5 hM5)
            have HR5 := Lib.hid (ranges_only HR4.out hto (by simp; omega) (by simp))
            have HB5 := Lib.hid (Only.under HB4.out hto (by simp))
            clear hto hM5 ht5 c0 f0 z2
            clear c1 v0
            go_wp2_with fail
            go_roundw
            case rel => (repeat apply Exists.intro); exact ⟨⟨_, cnt1, FIN.out _ _ (Lib.hid ⟨HR5.out, HC5.out, HB5.out⟩) (Lib.hid (by simp))⟩, rfl⟩
            case measure => rw [HR5.out.left_eq, HI.out.1.left_eq]; exact HM.out
        · have d1 : decide (0 < lf) = true := ht1
          go_wp2_with fail
          generalize W.setCell ⟨w.heap.size + 1, 0, none⟩ (.int .i64 (rr + ((c.s.size : Int) - lf))) = W4 at HC4 HR4 HB4 V0 V2 ⊢
          have c1 := HC4.out.2.1
          have v0 := V0.out
          go_still_tail 11, (by kernel_rfl)
          refine wpList_put _ rfl _ _ _ rfl w.heap.size Lt rfl HC4.out.map.drew (by omega) s rfl hs ⟨C, lf, true⟩ rfl ?_
          intro w5 hM5 ht5
          have hto : Only [w.heap.size] W4 w5 := (Only.refl [w.heap.size] W4).drew.turned ht5 (Or.inl (by simp))
          have HC5 := Lib.hid (HC4.out.drew.turn ht5 hM5)
          have HR5 := Lib.hid (ranges_only HR4.out hto (by simp; omega) (by simp))
          have HB5 := Lib.hid (Only.under HB4.out hto (by simp))
          clear hto hM5 ht5 c0 f0 z2
          clear c1 v0
          go_wp2_with fail
          go_roundw
          case rel => (repeat apply Exists.intro); exact ⟨⟨_, cnt1, FIN.out _ _ (Lib.hid ⟨HR5.out, HC5.out, HB5.out⟩) (Lib.hid (by simp))⟩, rfl⟩
          case measure => rw [HR5.out.left_eq, HI.out.1.left_eq]; exact HM.out
      · have d0 : decide (0 < k) = false := decide_eq_false hk0
        obtain rfl : c.p = lf := by rw [← HLF.out]; unfold leftK; rw [if_neg hk0]; omega
        clear HLF
        go_wp2_with fail
        obtain ⟨y0, y1, y2⟩ := HY.out
        have hx1 : ¬ w1.heap.size = w.heap.size + 1 := by omega
        have hx0 : ¬ w1.heap.size = w.heap.size := by omega
        generalize w1.alloc (.cells #[.string c.s, .int .i64 c.p, .bool c.k] 88) = V at y0 y1 y2 HC2 HR2 HB2 HY ⊢
        clear HY HC1 HR1 HB1
        generalize w1.heap.size = x at y0 y1 y2 hx0 hx1 ⊢
        have c0 := HC2.out.1
        have f0 := HC2.out.2.2.1
        go_still_tail 12, (by kernel_rfl)
        change wpList _ _ _ _ _ V.drew
        have HC3 : Hid (ChestAt V.drew (w.heap.size + 1) w.heap.size rr Lt) := Lib.hid HC2.out.drew
        have HR3 : Hid (World.ranges V.drew Tryz.prog 9 scrR b (w.heap.size + 2) L.length D (fun z => left z && !z.sameKey (.string s.data.toList)) cnt1) := Lib.hid HR2.out
        have HB3 : Hid (Below w.heap.size w V.drew) := Lib.hid HB2.out.drew
        have z0 : V.drew.cell? ⟨x, 0, none⟩ = some (.string c.s) := y0
        have z1 : V.drew.cell? ⟨x, 1, none⟩ = some (.int .i64 c.p) := y1
        have z2 : V.drew.cell? ⟨x, 2, none⟩ = some (.bool c.k) := y2
        clear y0 y1 y2 c0 f0 HC2 HR2 HB2
        generalize V.drew = W at z0 z1 z2 HC3 HR3 HB3 ⊢
        clear V
        have c0 := HC3.out.1
        have f0 := HC3.out.2.2.1
        have hst : Only [w.heap.size + 1] W (W.setCell ⟨w.heap.size + 1, 0, none⟩ (.int .i64 (rr + ((c.s.size : Int) - c.p)))) := (Only.refl _ _).setCell (Or.inl (by simp)) _
        have HC4 := Lib.hid (HC3.out.room (rr + ((c.s.size : Int) - c.p)))
        have HR4 := Lib.hid (ranges_only HR3.out hst (by simp; omega) (by simp))
        have HB4 := Lib.hid (Only.under HB3.out hst (by simp))
        have v0 := hst.cellK (p := ⟨x, 0, none⟩) (by simpa using hx1) z0
        have v2 := hst.cellK (p := ⟨x, 2, none⟩) (by simpa using hx1) z2
        have V0 := Lib.hid v0
        have V2 := Lib.hid v2
        clear hst v0 v2 z0 z1 HC3 HR3 HB3
        obtain ⟨C, hCC⟩ : ∃ C, c.s.extract 0 (c.p).toNat = C := ⟨_, rfl⟩
        have hsl : ∀ w, (Instr.slice 9 (.string c.s) none (some (.int .i64 (c.p))) none).run Tryz.prog w = .ok (.string C) w := fun w => by
          have := run_cutS c.s (c.p).toNat (by omega) (by omega) w
          rw [Int.toNat_of_nonneg (by omega)] at this
          rw [← hCC]; exact this
        rw [hCC] at FIN
        obtain ⟨kk, hkk2⟩ : ∃ kk, c.k = kk := ⟨_, rfl⟩
        rw [hkk2] at FIN z2 V2
        obtain ⟨t1, ht1⟩ : ∃ t, decide (0 < c.p) = t := ⟨_, rfl⟩
        rw [ht1] at FIN
        clear hkk2 hCC
        cases t1
        · have d1 : decide (0 < c.p) = false := ht1
          cases kk
          · go_wp2_with fail
            generalize W.setCell ⟨w.heap.size + 1, 0, none⟩ (.int .i64 (rr + ((c.s.size : Int) - c.p))) = W4 at HC4 HR4 HB4 V0 V2 ⊢
            go_roundw
            case rel => exact ⟨_, cnt1, FIN.out _ _ (Lib.hid ⟨HR4.out, HC4.out, HB4.out⟩) (Lib.hid rfl)⟩
            case measure => rw [HR4.out.left_eq, HI.out.1.left_eq]; exact HM.out
          · go_wp2_with fail
            generalize W.setCell ⟨w.heap.size + 1, 0, none⟩ (.int .i64 (rr + ((c.s.size : Int) - c.p))) = W4 at HC4 HR4 HB4 V0 V2 ⊢
            have c1 := HC4.out.2.1
            have v0 := V0.out
            go_still_tail 11, (by kernel_rfl)
            refine wpList_put _ rfl _ _ _ rfl w.heap.size Lt rfl HC4.out.map.drew (by omega) s rfl hs ⟨C, c.p, true⟩ rfl ?_
            intro w5 hM5 ht5
            have hto : Only [w.heap.size] W4 w5 := (Only.refl [w.heap.size] W4).drew.turned ht5 (Or.inl (by simp))
            have HC5 := Lib.hid (HC4.out.drew.turn ht5 hM5)
            have HR5 := Lib.hid (ranges_only HR4.out hto (by simp; omega) (by simp))
            have HB5 := Lib.hid (Only.under HB4.out hto (by simp))
            clear hto hM5 ht5 c0 f0 z2
            clear c1 v0
            go_wp2_with fail
            go_roundw
            case rel => (repeat apply Exists.intro); exact ⟨⟨_, cnt1, FIN.out _ _ (Lib.hid ⟨HR5.out, HC5.out, HB5.out⟩) (Lib.hid (by simp))⟩, rfl⟩
            case measure => rw [HR5.out.left_eq, HI.out.1.left_eq]; exact HM.out
        · have d1 : decide (0 < c.p) = true := ht1
          go_wp2_with fail
          generalize W.setCell ⟨w.heap.size + 1, 0, none⟩ (.int .i64 (rr + ((c.s.size : Int) - c.p))) = W4 at HC4 HR4 HB4 V0 V2 ⊢
          have c1 := HC4.out.2.1
          have v0 := V0.out
          go_still_tail 11, (by kernel_rfl)
          refine wpList_put _ rfl _ _ _ rfl w.heap.size Lt rfl HC4.out.map.drew (by omega) s rfl hs ⟨C, c.p, true⟩ rfl ?_
          intro w5 hM5 ht5
          have hto : Only [w.heap.size] W4 w5 := (Only.refl [w.heap.size] W4).drew.turned ht5 (Or.inl (by simp))
          have HC5 := Lib.hid (HC4.out.drew.turn ht5 hM5)
          have HR5 := Lib.hid (ranges_only HR4.out hto (by simp; omega) (by simp))
          have HB5 := Lib.hid (Only.under HB4.out hto (by simp))
          clear hto hM5 ht5 c0 f0 z2
          clear c1 v0
          go_wp2_with fail
          go_roundw
          case rel => (repeat apply Exists.intro); exact ⟨⟨_, cnt1, FIN.out _ _ (Lib.hid ⟨HR5.out, HC5.out, HB5.out⟩) (Lib.hid (by simp))⟩, rfl⟩
          case measure => rw [HR5.out.left_eq, HI.out.1.left_eq]; exact HM.out
end Go.Proofs.YthiphdcbboapkaaGreatDoor
namespace Go.Proofs.YthiphdcbboapkaaGreatDoor
open Go.RowKit Go.Maps

/-- A chest that the call has made. -/
def ChS (w0 w : World) (g b : Nat) (r : Int) (L : List Rl) : Prop := ChestAt w g b r L ∧ Below w0.heap.size w0 w ∧ w0.heap.size ≤ g ∧ w0.heap.size ≤ b
theorem ChS.low {w0 w w' : World} {g b : Nat} {r : Int} {L : List Rl} (h : ChS w0 w g b r L) (k : Below w.heap.size w w') : ChS w0 w' g b r L := ⟨h.1.low k, below_on h.2.1 k, h.2.2⟩
theorem ChS.step {w0 w w' : World} {g b : Nat} {r r' : Int} {L L' : List Rl} (h : ChS w0 w g b r L) (hc : ChestAt w' g b r' L') (k : Only [g, b] w w') : ChS w0 w' g b r' L' :=
  ⟨hc, Only.under h.2.1 k (fun i hi => by
    rcases List.mem_cons.1 hi with rfl | hi
    · exact h.2.2.1
    · rcases List.mem_cons.1 hi with rfl | hi
      · exact h.2.2.2
      · simp at hi), h.2.2⟩
/-- Another chest stays while this one is turned. -/
theorem ChS.other {w0 w w' : World} {g b g' b' : Nat} {r r' : Int} {L L' : List Rl} (h : ChS w0 w g b r L) (h' : ChS w0 w g' b' r' L') (k : Only [g', b'] w w') (h1 : g ≠ g') (h2 : b ≠ b') (h3 : g ≠ b') (h4 : b ≠ g') : ChS w0 w' g b r L := by
  refine ⟨h.1.keep k (by simp [h1, h3]) (by simp [h2, h4]), ?_, h.2.2⟩
  exact Only.under h.2.1 k (fun i hi => by
    rcases List.mem_cons.1 hi with rfl | hi
    · exact h'.2.2.1
    · rcases List.mem_cons.1 hi with rfl | hi
      · exact h'.2.2.2
      · simp at hi)
theorem new_S {w0 w : World} (hB : Below w0.heap.size w0 w) (k r : Int) (hr : capR k = r) : Calls Tryz.prog 14 #[.int .i64 k] w fun e w' => ∃ g b, e = .returned (.pointer (some ⟨g, 0, none⟩)) ∧ ChS w0 w' g b r [] ∧ Below w.heap.size w w' ∧ w.heap.size ≤ g ∧ w.heap.size ≤ b := by
  refine (new_any k w).mono ?_
  rintro e w' ⟨g, b, rfl, hc, hg, hb, hl⟩
  rw [hr] at hc
  have := hB.size
  exact ⟨g, b, rfl, ⟨hc, below_on hB hl, by omega, by omega⟩, hl, hg, hb⟩
theorem write_S {w0 w : World} {g b : Nat} {r : Int} {L : List Rl} (H : ChS w0 w g b r L) (hL : L.length < 1000000) (hk : OkL r L) (n s : ByteArray) (hn : n.size ≤ 9223372036854775807) {er r' : Int} {L' : List Rl} (he : writeS r L n.data.toList s = (er, r', L')) :
    Calls Tryz.prog 78 #[.pointer (some ⟨g, 0, none⟩), .string n, .string s] w fun e w' => e = .returned (.int .i64 er) ∧ ChS w0 w' g b r' L' ∧ Only [g, b] w w' := by
  refine (write_any H.1 hL hk n s hn).mono ?_
  rintro e w' ⟨rfl, hc, ho⟩
  rw [he] at hc
  exact ⟨by rw [he], H.step hc ho, ho⟩
theorem press_S {w0 w : World} {g b : Nat} {r : Int} {L : List Rl} (H : ChS w0 w g b r L) (hL : L.length < 1000000) (hk : OkL r L) (n : ByteArray) (hn : n.size ≤ 9223372036854775807) {er : Int} {L' : List Rl} (he : pressS L n.data.toList = (er, L')) :
    Calls Tryz.prog 79 #[.pointer (some ⟨g, 0, none⟩), .string n] w fun e w' => e = .returned (.int .i64 er) ∧ ChS w0 w' g b r L' ∧ Only [g, b] w w' := by
  refine (press_any H.1 hL hk n hn).mono ?_
  rintro e w' ⟨rfl, hc, ho⟩
  rw [he] at hc
  exact ⟨by rw [he], H.step hc ho, ho⟩
theorem rcut_S {w0 w : World} {g b : Nat} {r : Int} {L : List Rl} (H : ChS w0 w g b r L) (hL : L.length < 1000000) (hk : OkL r L) (n : ByteArray) (k : Int) (hn : n.size ≤ 9223372036854775807) {er r' : Int} {L' : List Rl} (he : cutSp r L n.data.toList k = (er, r', L')) :
    Calls Tryz.prog 54 #[.pointer (some ⟨g, 0, none⟩), .string n, .int .i64 k] w fun e w' => e = .returned (.int .i64 er) ∧ ChS w0 w' g b r' L' ∧ Only [g, b] w w' := by
  refine (rcut_any H.1 hL hk n k hn).mono ?_
  rintro e w' ⟨rfl, hc, ho⟩
  rw [he] at hc
  exact ⟨by rw [he], H.step hc ho, ho⟩
theorem rcall_S {w0 w : World} {g b : Nat} {r : Int} {L : List Rl} (H : ChS w0 w g b r L) (hL : L.length < 1000000) (hk : OkL r L) (n m : ByteArray) (hn : n.size ≤ 9223372036854775807) (hm : m.size ≤ 9223372036854775807) {er r' : Int} {L' : List Rl} (he : callS r L n.data.toList m.data.toList = (er, r', L')) :
    Calls Tryz.prog 49 #[.pointer (some ⟨g, 0, none⟩), .string n, .string m] w fun e w' => e = .returned (.int .i64 er) ∧ ChS w0 w' g b r' L' ∧ Only [g, b] w w' := by
  refine (rcall_any H.1 hL hk n m hn hm).mono ?_
  rintro e w' ⟨rfl, hc, ho⟩
  rw [he] at hc
  exact ⟨by rw [he], H.step hc ho, ho⟩
theorem read_S {w0 w : World} {g b : Nat} {r : Int} {L : List Rl} (H : ChS w0 w g b r L) (n : ByteArray) (hn : n.size ≤ 9223372036854775807) {s : ByteArray} {t : Bool} (hs : (atL n.data.toList L).s = s) (ht : (lookL n.data.toList L).isSome = t) :
    Calls Tryz.prog 50 #[.pointer (some ⟨g, 0, none⟩), .string n] w fun e w' => e = .returned (.tuple #[.string s, .bool t]) ∧ Below w.heap.size w w' := by
  refine (read_chest H.1 n hn).mono ?_
  rintro e w' ⟨rfl, hb⟩
  rw [hs, ht]; exact ⟨rfl, hb⟩
theorem pressed_S {w0 w : World} {g b : Nat} {r : Int} {L : List Rl} (H : ChS w0 w g b r L) (n : ByteArray) (hn : n.size ≤ 9223372036854775807) {p : Int} (hp : (atL n.data.toList L).p = p) :
    Calls Tryz.prog 97 #[.pointer (some ⟨g, 0, none⟩), .string n] w fun e w' => e = .returned (.int .i64 p) ∧ Below w.heap.size w w' := by
  rw [← hp]; exact pressed_any H.1 n hn
theorem tear_S {w0 w : World} {g b : Nat} {r : Int} {L : List Rl} (H : ChS w0 w g b r L) (hL : L.length < 1000000) (hk : OkL r L) (k : Int) (hkk : -9223372036854775808 ≤ k ∧ k ≤ 9223372036854775807) {r' : Int} {L' : List Rl} (hr : tearS r L k = r') (hl : tearL k L = L') :
    Calls Tryz.prog 22 #[.pointer (some ⟨g, 0, none⟩), .int .i64 k] w fun e w' => ∃ g' b', e = .returned (.pointer (some ⟨g', 0, none⟩)) ∧ ChS w0 w' g' b' r' L' ∧ Below w.heap.size w w' ∧ w.heap.size ≤ g' ∧ w.heap.size ≤ b' := by
  refine (tear_any H.1 hL hk k hkk).mono ?_
  rintro e w' ⟨g', b', rfl, hc, hg, hb, hl'⟩
  rw [hr, hl] at hc
  have := H.2.1.size
  exact ⟨g', b', rfl, ⟨hc, below_on H.2.1 hl', by omega, by omega⟩, hl', hg, hb⟩
/-- What stays well. -/
theorem OkL.nil {r : Int} (h : 0 ≤ r) (h2 : r ≤ 1048576) : OkL r [] := ⟨h, by simp [sumL]; omega, by simp⟩
theorem putL_mem {n : Nm} {c : Scr} {L : List Rl} {x : Rl} (h : x ∈ putL n c L) : x = (n, c) ∨ x ∈ L := by
  induction L with
  | nil => simp [putL] at h; exact Or.inl h
  | cons y r ih =>
    unfold putL at h
    split at h
    · exact List.mem_cons.1 h
    · split at h
      · rcases List.mem_cons.1 h with h | h
        · exact Or.inl h
        · exact Or.inr (List.mem_cons_of_mem _ h)
      · rcases List.mem_cons.1 h with h | h
        · exact Or.inr (h ▸ List.mem_cons_self)
        · rcases ih h with h | h
          · exact Or.inl h
          · exact Or.inr (List.mem_cons_of_mem _ h)
theorem writeS_ok {r : Int} {L : List Rl} (hk : OkL r L) (hs : Rising L) (n : Nm) (s : ByteArray) : OkL (writeS r L n s).2.1 (writeS r L n s).2.2 ∧ Rising (writeS r L n s).2.2 ∧ (writeS r L n s).2.2.length ≤ L.length + 1 ∧ (writeS r L n s).2.1 + sumL (writeS r L n s).2.2 = r + sumL L := by
  unfold writeS
  split
  · exact ⟨hk, hs, by simp, rfl⟩
  · split
    · exact ⟨hk, hs, by simp, rfl⟩
    · rename_i h1 h2
      have e : sumL (putL n ⟨⟨((atL n L).s.data.toList ++ s.data.toList).toArray⟩, (atL n L).p, (atL n L).k⟩ L) = sumL L + s.size := by
        rw [sum_putL hs, ← atL_size, Lib.size_eq, Lib.size_eq s]
        show _ - _ + ((⟨((atL n L).s.data.toList ++ s.data.toList).toArray⟩ : ByteArray).size : Int) = _
        rw [Lib.size_eq]
        simp; omega
      have hp := hk.atp n
      refine ⟨⟨by show 0 ≤ r - (s.size : Int); omega, by rw [e]; have := hk.2.1; show r - (s.size : Int) + _ ≤ _; omega, fun x hx => ?_⟩, putL_rising hs, len_putL _ _ _, by rw [e]; show r - (s.size : Int) + _ = _; omega⟩
      rcases putL_mem hx with rfl | hx
      · refine ⟨hp.1, Int.le_trans hp.2 ?_⟩
        show ((atL n L).s.size : Int) ≤ ((⟨((atL n L).s.data.toList ++ s.data.toList).toArray⟩ : ByteArray).size : Int)
        rw [Lib.size_eq, Lib.size_eq (⟨((atL n L).s.data.toList ++ s.data.toList).toArray⟩ : ByteArray)]
        simp; omega
      · exact hk.2.2 x hx
theorem pressS_ok {r : Int} {L : List Rl} (hk : OkL r L) (hs : Rising L) (n : Nm) : OkL r (pressS L n).2 ∧ Rising (pressS L n).2 ∧ (pressS L n).2.length ≤ L.length + 1 ∧ sumL (pressS L n).2 = sumL L := by
  unfold pressS
  cases h : lookL n L with
  | none => exact ⟨hk, hs, by simp, rfl⟩
  | some c =>
    have e : sumL (putL n ⟨c.s, c.s.size, true⟩ L) = sumL L := by rw [sum_putL hs]; unfold lenL; rw [h]; simp
    refine ⟨⟨hk.1, by show r + sumL (putL n ⟨c.s, c.s.size, true⟩ L) ≤ _; rw [e]; exact hk.2.1, fun x hx => ?_⟩, putL_rising hs, len_putL _ _ _, e⟩
    rcases putL_mem hx with rfl | hx
    · exact ⟨by show 0 ≤ (c.s.size : Int); omega, Int.le_refl _⟩
    · exact hk.2.2 x hx
theorem cutSp_ok {r : Int} {L : List Rl} (hk : OkL r L) (hs : Rising L) (n : Nm) (k : Int) : OkL (cutSp r L n k).2.1 (cutSp r L n k).2.2 ∧ Rising (cutSp r L n k).2.2 ∧ (cutSp r L n k).2.2.length ≤ L.length + 1 ∧ (cutSp r L n k).2.1 + sumL (cutSp r L n k).2.2 = r + sumL L := by
  unfold cutSp
  cases h : lookL n L with
  | none => exact ⟨hk, hs, by simp, rfl⟩
  | some c =>
    dsimp only
    split
    · exact ⟨hk, hs, by simp, rfl⟩
    · rename_i hq
      have hc := hk.look h
      have hz : ((c.s.extract 0 k.toNat).size : Int) = k := by rw [ByteArray.size_extract]; omega
      have e : sumL (putL n ⟨c.s.extract 0 k.toNat, min c.p k, true⟩ L) = sumL L - c.s.size + k := by
        rw [sum_putL hs]; unfold lenL; rw [h]
        show _ - (c.s.size : Int) + ((c.s.extract 0 k.toNat).size : Int) = _
        rw [hz]
      have hl := lenL_le n L
      have hl2 : lenL n L = c.s.size := by unfold lenL; rw [h]
      have := hk.1; have := hk.2.1
      refine ⟨⟨by dsimp only; omega, by dsimp only; rw [e]; omega, fun x hx => ?_⟩, putL_rising hs, len_putL _ _ _, by dsimp only; rw [e]; omega⟩
      rcases putL_mem hx with rfl | hx
      · show 0 ≤ min c.p k ∧ min c.p k ≤ ((c.s.extract 0 k.toNat).size : Int)
        rw [hz]; omega
      · exact hk.2.2 x hx
theorem callS_ok {r : Int} {L : List Rl} (hk : OkL r L) (hs : Rising L) (n m : Nm) : OkL (callS r L n m).2.1 (callS r L n m).2.2 ∧ Rising (callS r L n m).2.2 ∧ (callS r L n m).2.2.length ≤ L.length + 1 ∧ (callS r L n m).2.1 + sumL (callS r L n m).2.2 = r + sumL L := by
  unfold callS
  split
  · exact ⟨hk, hs, by simp, rfl⟩
  · cases h : lookL n L with
    | none => exact ⟨hk, hs, by simp, rfl⟩
    | some c =>
      dsimp only
      split
      · exact ⟨hk, hs, by simp, rfl⟩
      · rename_i hne
        have hc := hk.look h
        have hl2 : lenL n L = c.s.size := by unfold lenL; rw [h]
        have hm2 : lenL m (delL n L) = lenL m L := by
          unfold lenL; rw [look_delL hs, if_neg (fun e => hne e.symm)]
        have e : sumL (putL m ⟨c.s, c.p, true⟩ (delL n L)) = sumL L - lenL m L := by
          rw [sum_putL (delL_rising hs), sum_delL hs, hm2, hl2]
          show _ - (c.s.size : Int) - _ + (c.s.size : Int) = _
          omega
        have h1 := lenL_nonneg m L
        have := hk.1; have := hk.2.1
        refine ⟨⟨by dsimp only; omega, by dsimp only; rw [e]; omega, fun x hx => ?_⟩, putL_rising (delL_rising hs), ?_, by dsimp only; rw [e]; omega⟩
        · rcases putL_mem hx with rfl | hx
          · exact ⟨hc.2.1, hc.2.2⟩
          · exact hk.2.2 x (mem_delL.1 hx).1
        · have h3 := len_putL m ⟨c.s, c.p, true⟩ (delL n L)
          have h4 := len_delL n L
          dsimp only; omega
theorem tearS_ok {r : Int} {L : List Rl} (hk : OkL r L) (hs : Rising L) (k : Int) : OkL (tearS r L k) (tearL k L) ∧ Rising (tearL k L) ∧ (tearL k L).length ≤ L.length ∧ tearS r L k + sumL (tearL k L) = r + sumL L := by
  have h := tearS_bd (k := k) (fun _ => false) hk hs
  rw [doneL_end (fun _ => rfl)] at h
  refine ⟨⟨h.1, h.2.2, fun x hx => ?_⟩, tearL_rising hs, List.length_filterMap_le _ _, by unfold tearS; omega⟩
  obtain ⟨m, d⟩ := x
  obtain ⟨c, hc, ht⟩ := mem_tearL.1 hx
  have hb : 0 ≤ leftK k c ∧ leftK k c ≤ c.s.size := leftK_bd (k := k) (hk.2.2 _ hc)
  unfold tearOne at ht
  split at ht
  · simp only [Option.some.injEq] at ht
    subst ht
    have : ((c.s.extract 0 (leftK k c).toNat).size : Int) = leftK k c := by rw [ByteArray.size_extract]; omega
    show 0 ≤ leftK k c ∧ leftK k c ≤ ((c.s.extract 0 (leftK k c).toNat).size : Int)
    rw [this]; exact ⟨hb.1, Int.le_refl _⟩
  · cases ht
end Go.Proofs.YthiphdcbboapkaaGreatDoor

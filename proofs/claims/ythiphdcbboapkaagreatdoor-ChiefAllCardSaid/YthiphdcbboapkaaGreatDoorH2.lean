/- A roster's text is read back. A chief in memory, with all that it holds: its cells, its journal, whom it heard. A chief as a plain machine: what a word, what a tick makes of it. A chief's roster lasts: the journal takes it, the cells take it. -/
import Derived.Test.YthiphdcbboapkaaGreatDoorHc
import Derived.Test.YthiphdcbboapkaaGreatDoorL1
import Derived.Test.YthiphdcbboapkaaGreatDoorNE
import Derived.Test.YthiphdcbboapkaaGreatDoorR1
import Derived.Maps.OwnOps
import Derived.Maps.OwnSet
import Derived.Deep.RegionLaw
import Derived.Deep.RegionHeld3
namespace Go.Proofs.YthiphdcbboapkaaGreatDoor
open Go.RowKit

set_option maxRecDepth 100000
/-- What stands in memory behind the reading of a roster's text. -/
theorem rosP_form {P : Nat → Prop} {w : World} {e nw : Int} {zs : List Int} {v : Value} (h : PAtO P w (rosP e nw zs) v) : ∃ b off c, v = .agg #[.int .i64 3, .int .i64 0, .string ⟨#[]⟩, .slice (some ⟨b, off, none⟩) (zs.length + 2) c] ∧ zs.length + 2 ≤ c ∧ b < w.heap.size ∧
    ∀ j n, (e :: nw :: zs)[j]? = some n → ∃ a' c', w.cell? ⟨b, off + j * 4, none⟩ = some (.int .i64 1) ∧ w.cell? ⟨b, off + j * 4 + 1, none⟩ = some (.int .i64 n) ∧ w.cell? ⟨b, off + j * 4 + 2, none⟩ = some (.string ⟨#[]⟩) ∧ w.cell? ⟨b, off + j * 4 + 3, none⟩ = some (.slice a' 0 c') := by
  unfold rosP at h
  have hlen : ((e :: nw :: zs).map numPV).length = zs.length + 2 := by simp
  generalize hl : (e :: nw :: zs).map numPV = l at h hlen
  cases h with
  | mk _ _ _ _ a c vs hk hn hs hl2 hr hv hcp =>
    rcases hr with h0 | ⟨b, off, rfl, hb, -, hc⟩
    · omega
    · refine ⟨b, off, c, by rw [hlen], by omega, hb, fun j n hj => ?_⟩
      have hj2 : l[j]? = some (numPV n) := by rw [← hl, List.getElem?_map, hj]; rfl
      obtain ⟨a', c', e'⟩ := cut_flat (hv j _ hj2)
      obtain ⟨h0, h1, h2, h3⟩ := (hc j (by have := (List.getElem?_eq_some_iff.1 hj2).1; exact this)).of e'
      exact ⟨a', c', h0, h1, h2, h3⟩
/-- 'v.L[2:]'. -/
theorem run_tail2 {b off n c : Nat} (h1 : 2 < n + 2) (h2 : n + 2 ≤ c) (w' : World) : (Instr.slice 100 (.slice (some ⟨b, off, none⟩) (n + 2) c) (some (.int .i64 2)) none none).run Tryz.prog w' = .ok (.slice (some ⟨b, off + 8, none⟩) n (c - 2)) w' := by
  obtain ⟨i, hi, hz, hs, hby⟩ := info_parts Tryz.infoVal
  have e1 : Tryz.prog.elem 100 = 102 := by kernel_rfl
  have e2 : (sizeOf (Tryz.prog.elem 100)).run Tryz.prog w' = .ok 4 w' := by rw [e1]; simp [sizeOf, typeInfo, hi, hs]
  rw [run_slice_l w' _ _ _ _ Tryz.underlying100 _ _ (by omega) (by omega), e2]
  simp only [Result.andThen, sliced]
  have e3 : ¬ (c = 2) := by omega
  simp [Addr.add, e3]
theorem mayB_ok {e nw : Int} {zs : List Int} (h : mayB e zs nw = true) : RosOk e nw zs ∧ 1 ≤ zs.length ∧ zs.length ≤ 5 ∧ (1 ≤ e ∧ e ≤ 1099511627776) ∧ (∀ n ∈ zs, 1 ≤ n ∧ n ≤ 5) ∧ (0 ≤ nw ∧ nw ≤ 5) := by
  obtain ⟨h1, h2, h3⟩ := mayB_mayL h
  have h4 : ∀ n ∈ zs, 1 ≤ n ∧ n ≤ 5 := (of_decide_eq_true h1).1
  have h5 : 1 ≤ e ∧ e ≤ 1099511627776 := by
    unfold mayB epB at h
    simp only [Bool.and_eq_true, decide_eq_true_eq] at h
    exact h.1.1.1
  have h6 : 0 ≤ nw ∧ nw ≤ 5 := by
    unfold mayB newB at h
    simp only [Bool.and_eq_true, decide_eq_true_eq] at h
    rcases h.2 with h0 | ⟨h0, h7⟩
    · omega
    · rw [atI_last h2] at h7
      have := h4 _ (nthI_mem zs (zs.length - 1) (by omega))
      omega
  refine ⟨⟨by omega, fun n hn => ?_⟩, h2, h3, h5, h4, h6⟩
  simp only [List.mem_cons] at hn
  rcases hn with rfl | rfl | hn
  · omega
  · omega
  · have := h4 n hn; omega
end Go.Proofs.YthiphdcbboapkaaGreatDoor
namespace Go.Proofs.YthiphdcbboapkaaGreatDoor
open Go.RowKit Go.Maps

/-- A chief, plain: its roster, the one that is to be, when leases end, when each was heard, who asks, whether it is lost; how many records at most, how many entries at most, whether it has heard anybody; the roster that lasts. -/
structure St where
  e : Int
  zs : List Int
  nw : Int
  e2 : Int
  zs2 : List Int
  nw2 : Int
  un : Int
  hd : Int → Int
  asks : Int
  lost : Bool
  k : Nat
  m : Nat
  on : Bool
  le : Int
  lzs : List Int
  lnw : Int
/-- Where it stands. -/
structure Ft where
  J : Nat
  g : Nat
  b : Nat
  v : Value
  hb : Option Nat
  a : Option Addr
  c : Nat
  a2 : Option Addr
  c2 : Nat
def mkC (S : St) (f : Ft) : Chf := { J := f.J, e := S.e, a := f.a, c := f.c, zs := S.zs, nw := S.nw, e2 := S.e2, a2 := f.a2, c2 := f.c2, zs2 := S.zs2, nw2 := S.nw2, un := S.un, hb := f.hb, asks := S.asks, lost := S.lost, bad := false }
def rowB (a : Option Addr) : List Nat := a.toList.map (·.block)
theorem rowB_none : rowB none = [] := rfl
theorem rowB_some (p : Addr) : rowB (some p) = [p.block] := rfl
def jown (f : Ft) : List Nat := f.J :: f.g :: f.b :: ownL f.v
def own (x : Nat) (f : Ft) : List Nat := x :: (f.hb.toList ++ jown f)
def foot (x : Nat) (f : Ft) : List Nat := own x f ++ (rowB f.a ++ rowB f.a2)
theorem IntsAt.keepO {S : List Nat} {w w' : World} {a : Option Addr} {zs : List Int} (h : IntsAt w a zs) (k : Only S w w') (hn : ∀ q ∈ rowB a, q ∉ S) : IntsAt w' a zs := by
  rcases h with h | ⟨b, off, rfl, hb, hc⟩
  · exact Or.inl h
  · refine Or.inr ⟨b, off, rfl, Nat.lt_of_lt_of_le hb k.size, fun j hj => k.cellK (p := ⟨b, off + j, none⟩) (hn b (by simp [rowB])) (hc j hj)⟩
theorem Only.mono {S T : List Nat} {a b : World} (h : Only S a b) (hT : ∀ i ∈ S, i ∈ T) : Only T a b := ⟨h.1, h.2.1, h.2.2.1, h.2.2.2.1, fun i hi hn => h.2.2.2.2 i hi (fun hm => hn (hT i hm))⟩
/-! the twelve cells -/
def cellsOf (C : Chf) : Nat → Value
  | 0 => .pointer (some ⟨C.J, 0, none⟩)
  | 1 => .int .i64 C.e
  | 2 => .slice C.a C.zs.length C.c
  | 3 => .int .i64 C.nw
  | 4 => .int .i64 C.e2
  | 5 => .slice C.a2 C.zs2.length C.c2
  | 6 => .int .i64 C.nw2
  | 7 => .int .i64 C.un
  | 8 => .map C.hb
  | 9 => .int .i64 C.asks
  | 10 => .bool C.lost
  | _ => .bool C.bad
theorem lt12 {P : Nat → Prop} (h0 : P 0) (h1 : P 1) (h2 : P 2) (h3 : P 3) (h4 : P 4) (h5 : P 5) (h6 : P 6) (h7 : P 7) (h8 : P 8) (h9 : P 9) (h10 : P 10) (h11 : P 11) : ∀ j, j < 12 → P j := fun j hj => by
  match j, hj with
  | 0, _ => exact h0
  | 1, _ => exact h1
  | 2, _ => exact h2
  | 3, _ => exact h3
  | 4, _ => exact h4
  | 5, _ => exact h5
  | 6, _ => exact h6
  | 7, _ => exact h7
  | 8, _ => exact h8
  | 9, _ => exact h9
  | 10, _ => exact h10
  | 11, _ => exact h11
theorem ChfAt.d {w : World} {x : Nat} {C : Chf} (h : ChfAt w x C) : ∀ j, j < 12 → w.cell? ⟨x, j, none⟩ = some (cellsOf C j) :=
  lt12 h.d0 h.d1 h.d2 h.d3 h.d4 h.d5 h.d6 h.d7 h.d8 h.d9 h.d10 h.d11
theorem ChfAt.of {w : World} {x : Nat} {C : Chf} (h : ∀ j, j < 12 → w.cell? ⟨x, j, none⟩ = some (cellsOf C j)) (hf : ∀ i, w.frozen? ⟨x, i, none⟩ = false) (h1 : IntsAt w C.a C.zs) (h2 : IntsAt w C.a2 C.zs2) : ChfAt w x C :=
  ⟨h 0 (by decide), h 1 (by decide), h 2 (by decide), h 3 (by decide), h 4 (by decide), h 5 (by decide), h 6 (by decide), h 7 (by decide), h 8 (by decide), h 9 (by decide), h 10 (by decide), h 11 (by decide), hf, h1, h2⟩
/-- One cell stored. -/
theorem ChfAt.put {w : World} {x : Nat} {C C' : Chf} (h : ChfAt w x C) (i : Nat) (hi : i < 12) (v : Value) (hc : ∀ j, j < 12 → cellsOf C' j = if j = i then v else cellsOf C j) (h1 : IntsAt w C'.a C'.zs) (h2 : IntsAt w C'.a2 C'.zs2) (n1 : ∀ q ∈ rowB C'.a, q ≠ x) (n2 : ∀ q ∈ rowB C'.a2, q ≠ x) : ChfAt (w.setCell ⟨x, i, none⟩ v) x C' := by
  have ho : Only [x] w (w.setCell ⟨x, i, none⟩ v) := only_one i v
  refine ChfAt.of (fun j hj => ?_) (fun j => by rw [World.frozen?_setCell]; exact h.fz j) (h1.keepO ho (fun q hq => by simpa using n1 q hq)) (h2.keepO ho (fun q hq => by simpa using n2 q hq))
  rw [hc j hj]
  by_cases e : j = i
  · subst e
    rw [if_pos rfl]
    exact World.cell?_setCell_same _ _ _ (h.d j hj)
  · rw [if_neg e, World.cell?_setCell_other _ _ _ _ (fun e2 => by injection e2 with h1 h2; omega)]
    exact h.d j hj
theorem ChfAt.keep {S : List Nat} {w w' : World} {x : Nat} {C : Chf} (h : ChfAt w x C) (k : Only S w w') (hx : x ∉ S) (h1 : ∀ q ∈ rowB C.a, q ∉ S) (h2 : ∀ q ∈ rowB C.a2, q ∉ S) : ChfAt w' x C :=
  ChfAt.of (fun j hj => k.cellK (p := ⟨x, j, none⟩) hx (h.d j hj)) (fun i => by
    have hlt : x < w.heap.size := cell_old h.d0
    exact (k.frozen (p := ⟨x, i, none⟩) hlt hx).trans (h.fz i)) (h.rz.keepO k h1) (h.rz2.keepO k h2)
/-! whom it heard -/
def fitI (n : Int) : Prop := (Lit.int .i64 n).wf = true
theorem fitI_of {n : Int} (h : -9223372036854775808 ≤ n ∧ n ≤ 9223372036854775807) : fitI n := by
  have := wrap64_wf n
  rwa [show wrap64 n = n by unfold wrap64; omega] at this
theorem keyInt : Keyed Tryz.prog 3 := int_keyed Tryz.underlying3
theorem zero64 (w : World) : (zeroValue 2).run Tryz.prog w = .ok (.int .i64 0) w := by kernel_rfl
def HeardAt (w : World) (hb : Nat) (hd : Int → Int) (m : Nat) : Prop :=
  ∃ D : DataW Unit, w.ownsMap Tryz.prog 3 (plainElem Tryz.prog 2) hb m D ∧ ∀ n, fitI n → D.atKey (.int .i64 n) (.lit (.int .i64 0)) = .lit (.int .i64 (hd n))
theorem HeardAt.keep {S : List Nat} {w w' : World} {hb : Nat} {hd : Int → Int} {m : Nat} (h : HeardAt w hb hd m) (k : Only S w w') (hn : hb ∉ S) : HeardAt w' hb hd m := by
  obtain ⟨D, h1, h2⟩ := h; exact ⟨D, k.keep hn h1, h2⟩
theorem HeardAt.lt {w : World} {hb : Nat} {hd : Int → Int} {m : Nat} (h : HeardAt w hb hd m) : hb < w.heap.size := by obtain ⟨D, h1, _⟩ := h; exact h1.lt
theorem HeardAt.made (w : World) : HeardAt (w.alloc (.map #[] 0)) w.heap.size (fun _ => 0) 0 := ⟨.map [], World.ownsMap_made w _ _ _, fun _ _ => rfl⟩
/-! its journal -/
def JB (w0 w : World) (J g b : Nat) (v : Value) (e : Int) (zs : List Int) (nw : Int) (k : Nat) : Prop :=
  ∃ n r L s kk recs, JL w0 w J g b v n r L s s.size kk ⟨#[]⟩ recs ∧ n ≤ 3 + 2 * k ∧ 1040000 - 200 * (k : Int) ≤ r ∧ recs.length ≤ k ∧ (zs ≠ [] → recs.getLast? = some (rosT e nw zs))
theorem JB.aside {w0 w w' : World} {J g b : Nat} {v : Value} {e nw : Int} {zs : List Int} {k : Nat} {S : List Nat} (h : JB w0 w J g b v e zs nw k) (ho : Only S w w') (hS : ∀ q ∈ J :: g :: b :: ownL v, q ∉ S) (hl : ∀ i ∈ S, w0.heap.size ≤ i) : JB w0 w' J g b v e zs nw k := by
  obtain ⟨n, r, L, s, kk, recs, h1, h2⟩ := h
  exact ⟨n, r, L, s, kk, recs, ⟨h1.js.aside ho (hS _ (by simp)) (hS _ (by simp)) (hS _ (by simp)) (fun q hq => hS _ (by simp [hq])) hl, h1.lg, h1.nn, h1.da, h1.sz⟩, h2⟩
/-- A chief with all that it holds. -/
structure CH (w0 w : World) (x : Nat) (S : St) (f : Ft) : Prop where
  at' : ChfAt w x (mkC S f)
  jb : JB w0 w f.J f.g f.b f.v S.le S.lzs S.lnw S.k
  mp : S.on = true → ∃ q, f.hb = some q ∧ HeardAt w q S.hd S.m
  lo : ∀ q ∈ own x f, w0.heap.size ≤ q
  dx : x ∉ f.hb.toList ++ jown f
  dh : ∀ q ∈ f.hb.toList, q ∉ jown f
  da : ∀ q ∈ rowB f.a, q ∉ own x f
  da2 : ∀ q ∈ rowB f.a2, q ∉ own x f
  lt : ∀ q ∈ foot x f, q < w.heap.size
theorem own_foot {x : Nat} {f : Ft} {q : Nat} (h : q ∈ own x f) : q ∈ foot x f := List.mem_append_left _ h
theorem x_own (x : Nat) (f : Ft) : x ∈ own x f := by simp [own]
theorem j_own {x : Nat} {f : Ft} {q : Nat} (h : q ∈ jown f) : q ∈ own x f := by simp [own, h]
theorem CH.below {w0 w : World} {x : Nat} {S : St} {f : Ft} (h : CH w0 w x S f) : Below w0.heap.size w0 w := by
  obtain ⟨_, _, _, _, _, _, h1, _⟩ := h.jb; exact h1.js.ch.2.1
theorem CH.keep {T : List Nat} {w0 w w' : World} {x : Nat} {S : St} {f : Ft} (h : CH w0 w x S f) (k : Only T w w') (hT : ∀ q ∈ foot x f, q ∉ T) (hl : ∀ i ∈ T, w0.heap.size ≤ i) : CH w0 w' x S f where
  at' := h.at'.keep k (hT _ (own_foot (x_own x f))) (fun q hq => hT _ (by unfold foot; exact List.mem_append_right _ (List.mem_append_left _ hq))) (fun q hq => hT _ (by unfold foot; exact List.mem_append_right _ (List.mem_append_right _ hq)))
  jb := h.jb.aside k (fun q hq => hT _ (own_foot (j_own hq))) hl
  mp := fun ho => by
    obtain ⟨q, e, hq⟩ := h.mp ho
    exact ⟨q, e, hq.keep k (hT _ (own_foot (by simp [own, e])))⟩
  lo := h.lo
  dx := h.dx
  dh := h.dh
  da := h.da
  da2 := h.da2
  lt := fun q hq => Nat.lt_of_lt_of_le (h.lt q hq) k.size
theorem CH.low {w0 w w' : World} {x : Nat} {S : St} {f : Ft} (h : CH w0 w x S f) (k : Below w.heap.size w w') : CH w0 w' x S f := h.keep (T := []) (Only.of_below k) (by simp) (by simp)
/-- A cell of its own stored. -/
theorem CH.put {w0 w : World} {x : Nat} {S S' : St} {f f' : Ft} (h : CH w0 w x S f) (i : Nat) (hi : i < 12) (v : Value) (hc : ∀ j, j < 12 → cellsOf (mkC S' f') j = if j = i then v else cellsOf (mkC S f) j)
    (h1 : IntsAt w f'.a S'.zs) (h2 : IntsAt w f'.a2 S'.zs2) (hj : f'.J = f.J ∧ f'.g = f.g ∧ f'.b = f.b ∧ f'.v = f.v ∧ f'.hb = f.hb) (hm : S'.on = true → S'.on = S.on ∧ S'.hd = S.hd ∧ S'.m = S.m)
    (hl : S'.le = S.le ∧ S'.lzs = S.lzs ∧ S'.lnw = S.lnw ∧ S'.k = S.k) (n1 : ∀ q ∈ rowB f'.a, q ∉ own x f ∧ q < w.heap.size) (n2 : ∀ q ∈ rowB f'.a2, q ∉ own x f ∧ q < w.heap.size) : CH w0 (w.setCell ⟨x, i, none⟩ v) x S' f' := by
  obtain ⟨J, g, b, v0, hb, a, c, a2, c2⟩ := f
  obtain ⟨J', g', b', v0', hb', a', c', a2', c2'⟩ := f'
  obtain ⟨rfl, rfl, rfl, rfl, rfl⟩ := hj
  have ho : Only [x] w (w.setCell ⟨x, i, none⟩ v) := only_one i v
  have hxj : ∀ q ∈ J' :: g' :: b' :: ownL v0', q ∉ [x] := fun q hq hm => by
    simp at hm; subst hm; exact h.dx (List.mem_append_right _ hq)
  refine ⟨h.at'.put i hi v hc h1 h2 (fun q hq e => (n1 q hq).1 (e ▸ x_own x _)) (fun q hq e => (n2 q hq).1 (e ▸ x_own x _)), (by obtain ⟨e1, e2, e3, e4⟩ := hl; have := h.jb; rw [← e1, ← e2, ← e3, ← e4] at this; exact this.aside ho hxj (fun i hi => by simp at hi; subst hi; exact h.lo _ (x_own _ _))), fun hon => ?_, h.lo, h.dx, h.dh, fun q hq => (n1 q hq).1, fun q hq => (n2 q hq).1, fun q hq => ?_⟩
  · obtain ⟨e1, e2, e3⟩ := hm hon
    obtain ⟨q, e, hq⟩ := h.mp (e1 ▸ hon)
    rw [e2, e3]
    exact ⟨q, e, hq.keep ho (fun hm => by
      simp at hm; subst hm
      refine h.dx (List.mem_append_left _ ?_)
      have e' : hb' = some q := e
      rw [show (Ft.mk J' g' b' v0' hb' a c a2 c2).hb = hb' from rfl, e']; simp)⟩
  · simp only [foot, List.mem_append] at hq
    have hs : (w.setCell ⟨x, i, none⟩ v).heap.size = w.heap.size := by simp
    rw [hs]
    rcases hq with hq | hq | hq
    · exact h.lt q (own_foot hq)
    · exact (n1 q hq).2
    · exact (n2 q hq).2
/-- What an operation leaves. -/
structure PostF (w0 w : World) (x : Nat) (f : Ft) (S' : St) (f' : Ft) (w' : World) : Prop where
  ch : CH w0 w' x S' f'
  only : Only (own x f) w w'
  own' : ∀ q ∈ own x f', q ∈ own x f ∨ w.heap.size ≤ q
  foot' : ∀ q ∈ foot x f', q ∈ foot x f ∨ w.heap.size ≤ q
theorem PostF.trans {w0 w w1 w2 : World} {x : Nat} {f f1 f2 : Ft} {S1 S2 : St} (h : PostF w0 w x f S1 f1 w1) (k : PostF w0 w1 x f1 S2 f2 w2) : PostF w0 w x f S2 f2 w2 := by
  have hs := h.only.size
  refine ⟨k.ch, h.only.join k.only h.own', fun q hq => ?_, fun q hq => ?_⟩
  · rcases k.own' q hq with h1 | h1
    · exact h.own' q h1
    · exact Or.inr (Nat.le_trans hs h1)
  · rcases k.foot' q hq with h1 | h1
    · exact h.foot' q h1
    · exact Or.inr (Nat.le_trans hs h1)
theorem PostF.refl {w0 w : World} {x : Nat} {f : Ft} {S : St} (h : CH w0 w x S f) : PostF w0 w x f S f w := ⟨h, Only.refl _ _, fun _ h => Or.inl h, fun _ h => Or.inl h⟩
theorem PostF.low {w0 w w1 w2 : World} {x : Nat} {f f1 : Ft} {S1 : St} (h : PostF w0 w x f S1 f1 w1) (k : Below w1.heap.size w1 w2) : PostF w0 w x f S1 f1 w2 := ⟨h.ch.low k, h.only.top k, h.own', h.foot'⟩
/-- Something other stays beside it. -/
theorem PostF.aside {w0 w w' : World} {x : Nat} {f f' : Ft} {S' : St} (h : PostF w0 w x f S' f' w') {T : List Nat} (hT : ∀ q ∈ foot x f, q ∉ T) (hl : ∀ q ∈ T, q < w.heap.size) : ∀ q ∈ foot x f', q ∉ T := fun q hq hm => by
  rcases h.foot' q hq with h1 | h1
  · exact hT q h1 hm
  · have := hl q hm; omega
end Go.Proofs.YthiphdcbboapkaaGreatDoor
namespace Go.Proofs.YthiphdcbboapkaaGreatDoor
open Go.RowKit

def upd (h : Int → Int) (n t : Int) : Int → Int := fun m => if m = n then t else h m
/-- Another roster, that lasts. -/
def setR (S : St) (e : Int) (zs : List Int) (nw : Int) : St := { S with e := e, zs := zs, nw := nw, le := e, lzs := zs, lnw := nw, k := S.k + 1 }
/-- A member's beat. -/
def beatS (S : St) (n now : Int) : St := if 0 < S.e2 then { S with hd := upd S.hd n now, m := S.m + 1 } else { S with hd := upd S.hd n now, m := S.m + 1, un := max S.un (now + 6) }
def stepS (S : St) (kind fr tt ep now : Int) : St :=
  if tt ≠ 0 ∨ fr < 1 ∨ 5 < fr then S
  else if kind = 1 then (if idx S.zs fr < 0 then { S with asks := fr } else beatS S fr now)
  else if kind = 11 ∧ fr = S.nw ∧ ep = S.e ∧ ¬ 0 < S.e2 then setR S S.e S.zs 0 else S
/-- Is a lease granted? -/
def leaseB (S : St) (kind fr tt : Int) : Bool := decide (tt = 0 ∧ 1 ≤ fr ∧ fr ≤ 5 ∧ kind = 1 ∧ 0 ≤ idx S.zs fr ∧ ¬ 0 < S.e2)
def hearS (S : St) (now : Int) : St := { S with hd := fun n => if n ∈ S.zs then now else 0, m := S.zs.length, on := true }
/-- The first member that is silent. -/
def muteL : List Int → (Int → Int) → Int → Int
  | [], _, _ => 0
  | n :: r, hd, now => if 9 < now - hd n then n else muteL r hd now
/-- The one that was to be is. -/
def roundS (S : St) (now : Int) : St := hearS { setR S S.e2 S.zs2 S.nw2 with e2 := 0, zs2 := [], nw2 := 0, asks := 0 } now
def nextS (S : St) (r : Int × List Int × Int × Bool) : St := if r.2.2.2 = true then { S with e2 := r.1, zs2 := r.2.1, nw2 := r.2.2.1 } else S
def tickS (S : St) (now : Int) : St :=
  if 0 < S.e2 then (if S.un < now then roundS S now else S)
  else if 0 < muteL S.zs S.hd now then nextS { S with lost := !(dropF S.e S.zs S.nw (muteL S.zs S.hd now)).2.2.2 } (dropF S.e S.zs S.nw (muteL S.zs S.hd now))
  else if 0 < S.asks then nextS { S with lost := false } (addF S.e S.zs S.nw S.asks)
  else { S with lost := false }
/-- What holds of it at any time up to T. -/
structure OkS (S : St) (T : Int) : Prop where
  may : mayB S.e S.zs S.nw = true
  nx : S.e2 = 0 ∧ S.zs2 = [] ∧ S.nw2 = 0 ∨ 0 < S.e2 ∧ mayB S.e2 S.zs2 S.nw2 = true ∧ S.e2 = S.e + 1 ∧ S.lost = false
  un : 0 ≤ S.un ∧ S.un ≤ T + 6
  hd : ∀ n, 0 ≤ S.hd n ∧ S.hd n ≤ T
  asks : 0 ≤ S.asks ∧ S.asks ≤ 5
  on : S.on = true
  la : S.le = S.e ∧ S.lzs = S.zs ∧ S.lnw = S.nw
theorem OkS.mono {S : St} {T T' : Int} (h : OkS S T) (hT : T ≤ T') : OkS S T' :=
  ⟨h.may, h.nx, ⟨h.un.1, by have := h.un.2; omega⟩, fun n => ⟨(h.hd n).1, by have := (h.hd n).2; omega⟩, h.asks, h.on, h.la⟩
theorem upd_bd {h : Int → Int} {n t T : Int} (hh : ∀ n, 0 ≤ h n ∧ h n ≤ T) (ht : 0 ≤ t ∧ t ≤ T) : ∀ m, 0 ≤ upd h n t m ∧ upd h n t m ≤ T := fun m => by
  unfold upd; split
  · exact ht
  · exact hh m
theorem beatS_ok {S : St} {T n now : Int} (h : OkS S T) (hn : 0 ≤ now ∧ now ≤ T) : OkS (beatS S n now) T := by
  unfold beatS
  split
  · exact ⟨h.may, h.nx, h.un, upd_bd h.hd hn, h.asks, h.on, h.la⟩
  · exact ⟨h.may, h.nx, by have := h.un; simp only; omega, upd_bd h.hd hn, h.asks, h.on, h.la⟩
theorem stepS_ok {S : St} {T kind fr tt ep now : Int} (h : OkS S T) (hn : 0 ≤ now ∧ now ≤ T) : OkS (stepS S kind fr tt ep now) T := by
  unfold stepS
  split
  · exact h
  · rename_i h1
    split
    · split
      · exact ⟨h.may, h.nx, h.un, h.hd, by simp only; omega, h.on, h.la⟩
      · exact beatS_ok h hn
    · split
      · exact ⟨learn_turn h.may, h.nx, h.un, h.hd, h.asks, h.on, rfl, rfl, rfl⟩
      · exact h
theorem dropF_may {e nw n : Int} {zs : List Int} (h : (dropF e zs nw n).2.2.2 = true) : (dropF e zs nw n).1 = e + 1 ∧ mayB (dropF e zs nw n).1 (dropF e zs nw n).2.1 (dropF e zs nw n).2.2.1 = true ∧ 0 < (dropF e zs nw n).1 := by
  unfold dropF at h ⊢
  split at h
  · rename_i h1
    rw [if_pos h1]
    have := mayB_ep h1.1
    exact ⟨rfl, h1.2.2, by simp only; omega⟩
  · cases h
theorem addF_may {e nw n : Int} {zs : List Int} (h : (addF e zs nw n).2.2.2 = true) : (addF e zs nw n).1 = e + 1 ∧ mayB (addF e zs nw n).1 (addF e zs nw n).2.1 (addF e zs nw n).2.2.1 = true ∧ 0 < (addF e zs nw n).1 := by
  unfold addF at h ⊢
  split at h
  · rename_i h1
    rw [if_pos h1]
    have := mayB_ep h1.1
    exact ⟨rfl, h1.2.2, by simp only; omega⟩
  · cases h
theorem nextS_ok {S : St} {T : Int} {r : Int × List Int × Int × Bool} (h : OkS S T) (hr : r.2.2.2 = true → r.1 = S.e + 1 ∧ mayB r.1 r.2.1 r.2.2.1 = true ∧ 0 < r.1) (hl : r.2.2.2 = true → S.lost = false) : OkS (nextS S r) T := by
  unfold nextS
  split
  · rename_i h1
    obtain ⟨a, b, c⟩ := hr h1
    exact ⟨h.may, Or.inr ⟨c, b, a, hl h1⟩, h.un, h.hd, h.asks, h.on, h.la⟩
  · exact h
theorem hearS_ok {S : St} {T now : Int} (h1 : mayB S.e S.zs S.nw = true) (h2 : S.e2 = 0 ∧ S.zs2 = [] ∧ S.nw2 = 0) (h3 : 0 ≤ S.un ∧ S.un ≤ T + 6) (h4 : 0 ≤ S.asks ∧ S.asks ≤ 5) (h5 : S.le = S.e ∧ S.lzs = S.zs ∧ S.lnw = S.nw) (hn : 0 ≤ now ∧ now ≤ T) : OkS (hearS S now) T :=
  ⟨h1, Or.inl h2, h3, fun n => by
    unfold hearS; simp only
    split
    · exact hn
    · omega, h4, rfl, h5⟩
theorem roundS_ok {S : St} {T now : Int} (h : OkS S T) (hn : 0 ≤ now ∧ now ≤ T) (h2 : 0 < S.e2) : OkS (roundS S now) T := by
  rcases h.nx with h1 | h1
  · omega
  · exact hearS_ok h1.2.1 ⟨rfl, rfl, rfl⟩ h.un (show (0 : Int) ≤ 0 ∧ (0 : Int) ≤ 5 by decide) ⟨rfl, rfl, rfl⟩ hn
theorem tickS_ok {S : St} {T now : Int} (h : OkS S T) (hn : 0 ≤ now ∧ now ≤ T) : OkS (tickS S now) T := by
  unfold tickS
  split
  · split
    · exact roundS_ok h hn ‹_›
    · exact h
  · rename_i h0
    have hx : S.e2 = 0 ∧ S.zs2 = [] ∧ S.nw2 = 0 := by
      rcases h.nx with h1 | h1
      · exact h1
      · omega
    split
    · exact nextS_ok (S := { S with lost := !(dropF S.e S.zs S.nw (muteL S.zs S.hd now)).2.2.2 }) ⟨h.may, Or.inl hx, h.un, h.hd, h.asks, h.on, h.la⟩ (fun hr => dropF_may hr) (fun hr => by simp only [hr]; rfl)
    · split
      · exact nextS_ok (S := { S with lost := false }) ⟨h.may, Or.inl hx, h.un, h.hd, h.asks, h.on, h.la⟩ (fun hr => addF_may hr) (fun _ => rfl)
      · exact ⟨h.may, Or.inl hx, h.un, h.hd, h.asks, h.on, h.la⟩
/-! the budgets -/
theorem nextS_k (S : St) (r : Int × List Int × Int × Bool) : (nextS S r).k = S.k ∧ (nextS S r).m = S.m := by unfold nextS; split <;> exact ⟨rfl, rfl⟩
theorem tickS_k (S : St) (now : Int) : (tickS S now).k ≤ S.k + 1 ∧ (tickS S now).m ≤ max S.m S.zs2.length := by
  unfold tickS
  split
  · split
    · exact ⟨Nat.le_refl _, by unfold roundS hearS setR; simp only; omega⟩
    · omega
  · split
    · rw [(nextS_k _ _).1, (nextS_k _ _).2]; simp only; omega
    · split
      · rw [(nextS_k _ _).1, (nextS_k _ _).2]; simp only; omega
      · simp only; omega
theorem beatS_k (S : St) (n now : Int) : (beatS S n now).k = S.k ∧ (beatS S n now).m = S.m + 1 := by unfold beatS; split <;> exact ⟨rfl, rfl⟩
theorem stepS_k (S : St) (kind fr tt ep now : Int) : (stepS S kind fr tt ep now).k ≤ S.k + 1 ∧ (stepS S kind fr tt ep now).m ≤ S.m + 1 ∧ (kind ≠ 11 → (stepS S kind fr tt ep now).k = S.k) := by
  have h0 := beatS_k S fr now
  unfold stepS
  split
  · exact ⟨by omega, by omega, fun _ => rfl⟩
  · split
    · split
      · exact ⟨Nat.le_succ _, Nat.le_succ _, fun _ => rfl⟩
      · exact ⟨by omega, by omega, fun _ => h0.1⟩
    · split
      · rename_i h; exact ⟨Nat.le_refl _, Nat.le_succ _, fun hn => absurd h.1 hn⟩
      · exact ⟨by omega, by omega, fun _ => rfl⟩
end Go.Proofs.YthiphdcbboapkaaGreatDoor
namespace Go.Proofs.YthiphdcbboapkaaGreatDoor
open Go.RowKit Go.Maps

theorem mem_jown {f : Ft} {q : Nat} : q ∈ jown f ↔ q = f.J ∨ q = f.g ∨ q = f.b ∨ q ∈ ownL f.v := by simp [jown]
theorem mem_own {x : Nat} {f : Ft} {q : Nat} : q ∈ own x f ↔ q = x ∨ q ∈ f.hb.toList ∨ q ∈ jown f := by simp [own]
theorem mem_foot {x : Nat} {f : Ft} {q : Nat} : q ∈ foot x f ↔ q ∈ own x f ∨ q ∈ rowB f.a ∨ q ∈ rowB f.a2 := by simp [foot]
/-- The journal takes a roster. -/
theorem jb_add {w0 w : World} (LA : Laid w0) {J g b : Nat} {v : Value} {e1 nw1 : Int} {zs1 : List Int} {k : Nat} (h : JB w0 w J g b v e1 zs1 nw1 k) (hk : k ≤ 300) {e nw : Int} {zs : List Int} (hok : RosOk e nw zs) (hl : zs.length ≤ 5) :
    Calls Tryz.prog 59 #[.pointer (some ⟨J, 0, none⟩), .string (rosT e nw zs), .bool true] w fun e' w' => e' = .returned (.int .i64 0) ∧ ∃ v', JB w0 w' J g b v' e zs nw (k + 1) ∧ Only (J :: g :: b :: ownL v) w w' ∧ (∀ q ∈ ownL v', q ∈ ownL v ∨ w.heap.size ≤ q) ∧ (∀ q ∈ ownL v', q < w'.heap.size) := by
  obtain ⟨n, r, L, s, kk, recs, h1, h2, h3, h4, -⟩ := h
  have hsz := rosT_size hok
  have hbd := (leaf_bd (s := rosT e nw zs) (by omega)).2
  have hlf : (leafB (rosT e nw zs)).size ≤ 197 := by omega
  refine (add_press LA h1 (by omega) (by omega) (rosT e nw zs) (by omega) (by omega) (r' := r - (leafB (rosT e nw zs)).size) (p' := (s.size : Int) + (leafB (rosT e nw zs)).size) rfl rfl).mono ?_
  rintro e' w' ⟨rfl, v', L', hj, ho, hq⟩
  refine ⟨rfl, v', ⟨n + 2, r - (leafB (rosT e nw zs)).size, L', catB s (leafB (rosT e nw zs)), true, recs ++ [rosT e nw zs], ?_, by omega, by omega, by simp; omega, fun _ => by simp⟩, ho, hq, hj.js.j.mr.lt⟩
  rw [catB_size, Int.natCast_add]
  exact hj
theorem CH.added {w0 w w' : World} {x : Nat} {S : St} {f : Ft} (H : CH w0 w x S f) {e nw : Int} {zs : List Int} {v' : Value} (hj : JB w0 w' f.J f.g f.b v' e zs nw (S.k + 1)) (ho : Only (jown f) w w') (hq : ∀ q ∈ ownL v', q ∈ ownL f.v ∨ w.heap.size ≤ q) (hlt : ∀ q ∈ ownL v', q < w'.heap.size) :
    PostF w0 w x f { S with le := e, lzs := zs, lnw := nw, k := S.k + 1 } { f with v := v' } w' := by
  have hb := H.below.size
  have hs := ho.size
  have hjo : ∀ q ∈ jown { f with v := v' }, q ∈ jown f ∨ w.heap.size ≤ q := fun q h => by
    rcases mem_jown.1 h with h | h | h | h
    · exact Or.inl (mem_jown.2 (Or.inl h))
    · exact Or.inl (mem_jown.2 (Or.inr (Or.inl h)))
    · exact Or.inl (mem_jown.2 (Or.inr (Or.inr (Or.inl h))))
    · rcases hq q h with h | h
      · exact Or.inl (mem_jown.2 (Or.inr (Or.inr (Or.inr h))))
      · exact Or.inr h
  have hoo : ∀ q ∈ own x { f with v := v' }, q ∈ own x f ∨ w.heap.size ≤ q := fun q h => by
    rcases mem_own.1 h with h | h | h
    · exact Or.inl (mem_own.2 (Or.inl h))
    · exact Or.inl (mem_own.2 (Or.inr (Or.inl h)))
    · rcases hjo q h with h | h
      · exact Or.inl (mem_own.2 (Or.inr (Or.inr h)))
      · exact Or.inr h
  have hfo : ∀ q ∈ foot x { f with v := v' }, q ∈ foot x f ∨ w.heap.size ≤ q := fun q h => by
    rcases mem_foot.1 h with h | h
    · rcases hoo q h with h | h
      · exact Or.inl (mem_foot.2 (Or.inl h))
      · exact Or.inr h
    · exact Or.inl (mem_foot.2 (Or.inr h))
  have hxj : x ∉ jown f := fun h => H.dx (List.mem_append_right _ h)
  have hown : ∀ q, q ∉ own x f → q ∉ jown f := fun q h hm => h (mem_own.2 (Or.inr (Or.inr hm)))
  refine ⟨⟨H.at'.keep ho hxj (fun q h => hown q (H.da q h)) (fun q h => hown q (H.da2 q h)), hj, fun hon => ?_, fun q h => ?_, fun h => ?_, fun q h hm => ?_, fun q h hm => ?_, fun q h hm => ?_, fun q h => ?_⟩, ?_, hoo, hfo⟩
  · obtain ⟨q, e, hh⟩ := H.mp hon
    exact ⟨q, e, hh.keep ho (H.dh q (by rw [e]; simp))⟩
  · rcases hoo q h with h | h
    · exact H.lo q h
    · omega
  · rcases List.mem_append.1 h with h | h
    · exact H.dx (List.mem_append_left _ h)
    · rcases hjo x h with h | h
      · exact hxj h
      · have := H.lt x (own_foot (x_own x f)); omega
  · rcases hjo q hm with h1 | h1
    · exact H.dh q h h1
    · have := H.lt q (mem_foot.2 (Or.inl (mem_own.2 (Or.inr (Or.inl h))))); omega
  · rcases hoo q hm with h1 | h1
    · exact H.da q h h1
    · have := H.lt q (mem_foot.2 (Or.inr (Or.inl h))); omega
  · rcases hoo q hm with h1 | h1
    · exact H.da2 q h h1
    · have := H.lt q (mem_foot.2 (Or.inr (Or.inr h))); omega
  · rcases mem_foot.1 h with h | h
    · rcases mem_own.1 h with h | h | h
      · exact Nat.lt_of_lt_of_le (H.lt q (mem_foot.2 (Or.inl (mem_own.2 (Or.inl h))))) hs
      · exact Nat.lt_of_lt_of_le (H.lt q (mem_foot.2 (Or.inl (mem_own.2 (Or.inr (Or.inl h)))))) hs
      · rcases mem_jown.1 h with h | h | h | h
        · exact Nat.lt_of_lt_of_le (H.lt q (mem_foot.2 (Or.inl (j_own (mem_jown.2 (Or.inl h)))))) hs
        · exact Nat.lt_of_lt_of_le (H.lt q (mem_foot.2 (Or.inl (j_own (mem_jown.2 (Or.inr (Or.inl h))))))) hs
        · exact Nat.lt_of_lt_of_le (H.lt q (mem_foot.2 (Or.inl (j_own (mem_jown.2 (Or.inr (Or.inr (Or.inl h)))))))) hs
        · exact hlt q h
    · exact Nat.lt_of_lt_of_le (H.lt q (mem_foot.2 (Or.inr h))) hs
  · exact ho.mono (fun i hi => mem_own.2 (Or.inr (Or.inr hi)))
end Go.Proofs.YthiphdcbboapkaaGreatDoor

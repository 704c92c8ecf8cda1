/- No chief; a chief in memory: what it is, what is read of it. A roster's text: numbers as a list of values. -/
import Derived.Test.YthiphdcbboapkaaGreatDoorR2
import Derived.Test.YthiphdcbboapkaaGreatDoorPj
import Derived.Test.YthiphdcbboapkaaGreatDoorN9
import Derived.Maps.AppendAt
import Derived.Deep.RegionLaw
import Derived.Deep.RegionHeld3
namespace Go.Proofs.YthiphdcbboapkaaGreatDoor
open Go.RowKit

set_option maxRecDepth 100000
theorem off_nil (w : World) : Calls Tryz.prog 39 #[.pointer none] w fun e w' => e = .returned (.bool true) ∧ w = w' := by
  go_enter Tryz.func39, Tryz.ntmps39
  go_wp2_with fail
  go_ret
  exact ⟨rfl, rfl⟩
theorem changing_nil (w : World) : Calls Tryz.prog 25 #[.pointer none] w fun e w' => e = .returned (.bool false) ∧ w = w' := by
  go_enter Tryz.func25, Tryz.ntmps25
  go_wp2_with fail
  go_ret
  exact ⟨rfl, rfl⟩
theorem until_nil (w : World) : Calls Tryz.prog 26 #[.pointer none] w fun e w' => e = .returned (.int .i64 0) ∧ w = w' := by
  go_enter Tryz.func26, Tryz.ntmps26
  go_wp2_with fail
  go_ret
  exact ⟨rfl, rfl⟩
theorem lost_nil (w : World) : Calls Tryz.prog 27 #[.pointer none] w fun e w' => e = .returned (.bool true) ∧ w = w' := by
  go_enter Tryz.func27, Tryz.ntmps27
  go_wp2_with fail
  refine (off_nil _).mono ?_
  rintro e w1 ⟨rfl, rfl⟩
  go_wp2_with fail
  go_ret
  exact ⟨rfl, rfl⟩
theorem tick_nil (n : Int) (w : World) : Calls Tryz.prog 20 #[.pointer none, .int .i64 n] w fun e w' => e = .returned (.slice none 0 0) ∧ w = w' := by
  go_enter Tryz.func20, Tryz.ntmps20
  go_wp2_with fail
  refine (off_nil _).mono ?_
  rintro e w1 ⟨rfl, rfl⟩
  go_wp2_with fail
  go_ret
  exact ⟨rfl, rfl⟩
/-- What a chief holds. -/
structure Chf where
  J : Nat
  e : Int
  a : Option Addr
  c : Nat
  zs : List Int
  nw : Int
  e2 : Int
  a2 : Option Addr
  c2 : Nat
  zs2 : List Int
  nw2 : Int
  un : Int
  hb : Option Nat
  asks : Int
  lost : Bool
  bad : Bool
/-- A chief's cells. -/
structure ChfAt (w : World) (x : Nat) (C : Chf) : Prop where
  d0 : w.cell? ⟨x, 0, none⟩ = some (.pointer (some ⟨C.J, 0, none⟩))
  d1 : w.cell? ⟨x, 1, none⟩ = some (.int .i64 C.e)
  d2 : w.cell? ⟨x, 2, none⟩ = some (.slice C.a C.zs.length C.c)
  d3 : w.cell? ⟨x, 3, none⟩ = some (.int .i64 C.nw)
  d4 : w.cell? ⟨x, 4, none⟩ = some (.int .i64 C.e2)
  d5 : w.cell? ⟨x, 5, none⟩ = some (.slice C.a2 C.zs2.length C.c2)
  d6 : w.cell? ⟨x, 6, none⟩ = some (.int .i64 C.nw2)
  d7 : w.cell? ⟨x, 7, none⟩ = some (.int .i64 C.un)
  d8 : w.cell? ⟨x, 8, none⟩ = some (.map C.hb)
  d9 : w.cell? ⟨x, 9, none⟩ = some (.int .i64 C.asks)
  d10 : w.cell? ⟨x, 10, none⟩ = some (.bool C.lost)
  d11 : w.cell? ⟨x, 11, none⟩ = some (.bool C.bad)
  fz : ∀ i, w.frozen? ⟨x, i, none⟩ = false
  rz : IntsAt w C.a C.zs
  rz2 : IntsAt w C.a2 C.zs2
theorem off_any {w : World} {x : Nat} {C : Chf} (h : ChfAt w x C) : Calls Tryz.prog 39 #[.pointer (some ⟨x, 0, none⟩)] w fun e w' => e = .returned (.bool C.bad) ∧ w = w' := by
  have h11 := h.d11
  generalize C.bad = b at h11 ⊢
  clear h
  go_enter Tryz.func39, Tryz.ntmps39
  go_wp2_with fail
  go_ret
  exact ⟨rfl, rfl⟩
theorem changing_any {w : World} {x : Nat} {C : Chf} (h : ChfAt w x C) : Calls Tryz.prog 25 #[.pointer (some ⟨x, 0, none⟩)] w fun e w' => e = .returned (.bool (decide (0 < C.e2))) ∧ w = w' := by
  have h4 := h.d4
  generalize C.e2 = e at h4 ⊢
  obtain ⟨b, hb⟩ : ∃ b, decide (0 < e) = b := ⟨_, rfl⟩
  rw [hb]
  clear h
  go_enter Tryz.func25, Tryz.ntmps25
  go_wp2_with fail
  go_ret
  exact ⟨rfl, rfl⟩
theorem until_any {w : World} {x : Nat} {C : Chf} (h : ChfAt w x C) : Calls Tryz.prog 26 #[.pointer (some ⟨x, 0, none⟩)] w fun e w' => e = .returned (.int .i64 C.un) ∧ w = w' := by
  have h7 := h.d7
  generalize C.un = n at h7 ⊢
  clear h
  go_enter Tryz.func26, Tryz.ntmps26
  go_wp2_with fail
  go_ret
  exact ⟨rfl, rfl⟩
theorem lost_any {w : World} {x : Nat} {C : Chf} (h : ChfAt w x C) : Calls Tryz.prog 27 #[.pointer (some ⟨x, 0, none⟩)] w fun e w' => e = .returned (.bool (C.bad || (C.lost && !decide (0 < C.e2)))) ∧ w = w' := by
  have HO := Lib.hid (off_any h)
  have HC := Lib.hid (changing_any h)
  have h10 := h.d10
  clear h
  generalize C.bad = b at HO ⊢
  generalize C.lost = l at h10 ⊢
  generalize decide (0 < C.e2) = g at HC ⊢
  cases b <;> cases l
  all_goals
    go_enter Tryz.func27, Tryz.ntmps27
    go_wp2_with fail
    refine HO.out.mono ?_
    rintro e w1 ⟨rfl, rfl⟩
    go_wp2_with (go_at_call 25; refine HC.out.mono ?_; rintro e' w' ⟨rfl, rfl⟩)
    go_ret
    exact ⟨by cases g <;> rfl, rfl⟩
end Go.Proofs.YthiphdcbboapkaaGreatDoor
namespace Go.Proofs.YthiphdcbboapkaaGreatDoor
open Go.RowKit

set_option maxRecDepth 100000
/-- A number's cells. -/
def numC (n : Int) : List Value := [.int .i64 1, .int .i64 n, .string ⟨#[]⟩, .slice none 0 0]
def numsC (L : List Int) : List Value := L.flatMap numC
theorem numsC_cons (x : Int) (L : List Int) : numsC (x :: L) = numC x ++ numsC L := rfl
theorem numsC_append (a b : List Int) : numsC (a ++ b) = numsC a ++ numsC b := List.flatMap_append
theorem numsC_len : ∀ L : List Int, (numsC L).length = L.length * 4
  | [] => rfl
  | x :: r => by rw [numsC_cons, List.length_append, numsC_len r, List.length_cons]; show 4 + _ = _; omega
theorem numsC_get : ∀ {L : List Int} {i : Nat} {x : Int}, L[i]? = some x → ∀ j, j < 4 → (numsC L)[i * 4 + j]? = (numC x)[j]?
  | [], i, x, h, _, _ => by simp at h
  | y :: r, 0, x, h, j, hj => by
    simp at h; subst h
    rw [numsC_cons, Nat.zero_mul, Nat.zero_add, List.getElem?_append_left (by exact hj)]
  | y :: r, i + 1, x, h, j, hj => by
    rw [numsC_cons, List.getElem?_append_right (by show 4 ≤ _; omega)]
    have : (i + 1) * 4 + j - (numC y).length = i * 4 + j := by show (i + 1) * 4 + j - 4 = _; omega
    rw [this]
    exact numsC_get (by simpa using h) j hj
theorem numsC_one {L : List Int} : ∀ u ∈ numsC L, u.oneCell' = true := fun u hu => by
  obtain ⟨x, -, hx⟩ := List.mem_flatMap.1 hu
  simp only [numC, List.mem_cons, List.mem_nil_iff, or_false] at hx
  rcases hx with rfl | rfl | rfl | rfl <;> rfl
theorem numsC_take (L : List Int) (k : Nat) (h : k < L.length) : numsC (L.take (k + 1)) = numsC (L.take k) ++ numC (nthI L k) := by
  rw [take_snocI L k h, numsC_append]; rfl
/-- A row of numbers as values, in a block of its own. -/
def RowN (w : World) (B : Nat) (v : Value) (L : List Int) : Prop := w.ownsRow B 102 4 v L.length (numsC L)
/-- A number as a value. -/
def numPV (n : Int) : PV := .mk 1 n ⟨#[]⟩ []
theorem RowN.pat {w : World} {B : Nat} {a : Option Addr} {c : Nat} {L : List Int} (h : RowN w B (.slice a L.length c) L) (hl : L.length ≤ 9223372036854775807) (hb : ∀ n ∈ L, -9223372036854775808 ≤ n ∧ n ≤ 9223372036854775807) :
    PAt w (.mk 3 0 ⟨#[]⟩ (L.map numPV)) (.agg #[.int .i64 3, .int .i64 0, .string ⟨#[]⟩, .slice a L.length c]) := by
  have e : L.length = (L.map numPV).length := by simp
  rw [e]
  refine .mk 3 0 ⟨#[]⟩ (L.map numPV) a c (fun j => .agg (numC (L.getD j 0)).toArray) (by decide) (by decide) (by decide) (by simpa using hl) ?_ (fun j x hx => ?_)
  · rw [← e]
    by_cases h0 : L.length = 0
    · exact Or.inl h0
    · rcases h.2 with ⟨-, h2⟩ | ⟨g, cap, cur, hv, hbg, hg, -⟩
      · exact absurd h2 h0
      · simp only [Value.slice.injEq] at hv
        obtain ⟨rfl, -, rfl⟩ := hv
        refine Or.inr ⟨g, 0, rfl, (World.ownsRow.lt h g rfl).2, fun j hj => ?_⟩
        have hj2 : L[j]? = some (L.getD j 0) := by rw [List.getD_eq_getElem?_getD, List.getElem?_eq_getElem hj]; rfl
        have hc : ∀ i, i < 4 → w.cell? ⟨g, j * 4 + i, none⟩ = (numC (L.getD j 0))[i]? := fun i hi => by
          rw [World.ownsRow.cellAt h (j * 4 + i) (by omega), numsC_get hj2 i hi]
        rw [Nat.zero_add]
        exact ⟨_, _, _, _, rfl, hc 0 (by omega), hc 1 (by omega), hc 2 (by omega), hc 3 (by omega)⟩
  · rw [List.getElem?_map] at hx
    cases hj : L[j]? with
    | none => rw [hj] at hx; simp at hx
    | some n =>
      rw [hj] at hx
      simp only [Option.map_some, Option.some.injEq] at hx
      subst hx
      have hn := hb n (List.mem_of_getElem? hj)
      rw [List.getD_eq_getElem?_getD, hj]
      exact .mk 1 n ⟨#[]⟩ [] none 0 (fun _ => undef) (by decide) hn (by decide) (by decide) (Or.inl rfl) (fun j x hx => by simp at hx)
/-- A roster as a value. -/
def rosP (e nw : Int) (zs : List Int) : PV := .mk 3 0 ⟨#[]⟩ ((e :: nw :: zs).map numPV)
theorem count_numPV (l : List Int) : ∀ x ∈ l.map numPV, pcount x 2 = 1 := fun x hx => by
  obtain ⟨n, -, rfl⟩ := List.mem_map.1 hx
  unfold numPV pcount
  rw [if_neg (by decide), if_pos (Or.inl ⟨rfl, rfl, rfl⟩)]
theorem rosP_may (e nw : Int) (zs : List Int) (hl : zs.length ≤ 100) : pmay (rosP e nw zs) = true := by
  rw [pmay_iff]
  unfold rosP pcount
  rw [if_neg (by decide), if_neg (by rintro (⟨h, _⟩ | ⟨h, _⟩) <;> exact absurd h (by decide)), if_neg (by decide), pcountL_flat _ _ (count_numPV _) (by decide)]
  simp
  split <;> omega
theorem fits_numPV : ∀ l : List Int, (∀ n ∈ l, -9223372036854775808 ≤ n ∧ n ≤ 9223372036854775807) → fitsL (l.map numPV)
  | [], _ => trivial
  | x :: r, h => ⟨⟨h x (by simp), trivial⟩, fits_numPV r fun n hn => h n (by simp [hn])⟩
theorem pput_numPV {n : Int} (h : -9223372036854775808 ≤ n ∧ n ≤ 9223372036854775807) : (pput (numPV n)).length ≤ 24 := by
  have h1 := itoa_len h
  rw [pput_wrap]
  show (wrapT (Lib.itoa n) 35).length ≤ 24
  rw [← wrapT_len, itoa_nat]
  have := nDigits_le 1 (Lib.itoa n).length (by omega)
  omega
theorem pputL_numPV : ∀ l : List Int, (∀ n ∈ l, -9223372036854775808 ≤ n ∧ n ≤ 9223372036854775807) → (pputL (l.map numPV)).length ≤ l.length * 24
  | [], _ => Nat.le_refl _
  | x :: r, h => by
    show (pput (numPV x) ++ pputL (r.map numPV)).length ≤ _
    have h1 := pput_numPV (h x (by simp))
    have h2 := pputL_numPV r fun n hn => h n (by simp [hn])
    rw [List.length_append, List.length_cons]
    omega
/-- What a roster's numbers may be. -/
def RosOk (e nw : Int) (zs : List Int) : Prop := zs.length ≤ 100 ∧ ∀ n ∈ e :: nw :: zs, -9223372036854775808 ≤ n ∧ n ≤ 9223372036854775807
theorem rosP_body {e nw : Int} {zs : List Int} (h : RosOk e nw zs) : (pbody (rosP e nw zs)).length ≤ zs.length * 24 + 48 := by
  have := pputL_numPV _ h.2
  show (pputL ((e :: nw :: zs).map numPV)).length ≤ _
  simp only [List.length_cons] at this
  omega
theorem rosP_put {e nw : Int} {zs : List Int} (h : RosOk e nw zs) : pPut (rosP e nw zs) = pput (rosP e nw zs) ∧ pPut (rosP e nw zs) ≠ [] ∧ (pput (rosP e nw zs)).length ≤ zs.length * 24 + 60 := by
  have h1 := rosP_body h
  have h2 := h.1
  have e1 : pPut (rosP e nw zs) = pput (rosP e nw zs) := by rw [pPut_eq, if_pos ⟨rosP_may e nw zs h2, by omega⟩]
  have h3 := pput_ne (rosP e nw zs)
  refine ⟨e1, fun h0 => ?_, ?_⟩
  · rw [← e1, h0] at h3; simp at h3
  · rw [pput_wrap, ← wrapT_len, itoa_nat]
    have := nDigits_le 6 (pbody (rosP e nw zs)).length (by omega)
    omega
theorem rosP_fits {e nw : Int} {zs : List Int} (h : RosOk e nw zs) : fits (rosP e nw zs) := ⟨⟨by decide, by decide⟩, fits_numPV _ h.2⟩
/-- The text of a roster. -/
def rosT (e nw : Int) (zs : List Int) : ByteArray := ⟨(pPut (rosP e nw zs)).toArray⟩
theorem rosT_list (e nw : Int) (zs : List Int) : (rosT e nw zs).data.toList = pPut (rosP e nw zs) := rfl
theorem rosT_size {e nw : Int} {zs : List Int} (h : RosOk e nw zs) : (rosT e nw zs).size ≤ zs.length * 24 + 60 := by
  rw [Lib.size_eq, rosT_list, (rosP_put h).1]; exact (rosP_put h).2.2
theorem rosT_all {e nw : Int} {zs : List Int} (h : RosOk e nw zs) : pAll (rosT e nw zs) = (rosP e nw zs, 0) := pAll_ok (rosP_fits h) (rosP_put h).2.1 rfl
theorem num_any (n : Int) (w : World) : Calls Tryz.prog 82 #[.int .i64 n] w fun e w' => e = .returned (.agg #[.int .i64 1, .int .i64 n, .string ⟨#[]⟩, .slice none 0 0]) ∧ Below w.heap.size w w' := by
  go_enter Tryz.func82, Tryz.ntmps82
  go_wp2_with fail
  refine bodyPost_ret (v := .agg #[.int .i64 1, .int .i64 n, .string ⟨#[]⟩, .slice none 0 0]) (by simp [results, Tryz.results82, go_sem]) rfl ⟨rfl, below_alloc (Below.refl _ _) _⟩
end Go.Proofs.YthiphdcbboapkaaGreatDoor

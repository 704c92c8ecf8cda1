/- Walks of package roster's functions that make rosters. -/
import Derived.Test.YthiphdcbboapkaaGreatDoorRoA
import Derived.Test.YthiphdcbboapkaaGreatDoorShelf
namespace Go.Proofs.YthiphdcbboapkaaGreatDoor
open Go.RowKit

theorem infoInt : (Tryz.prog.info? 3).map (fun i => (i.zero, i.size, i.bytes)) = some (some (.int .i64 0), 1, 8) := by kernel_rfl
theorem tyInts : ElemTy Tryz.prog 22 3 (.int .i64 0) 1 8 := by
  obtain ⟨i0, hi, hz0, hz1, hz2⟩ := info_parts infoInt
  exact ⟨Tryz.underlying22, ⟨i0, hi, hz0, hz1, hz2⟩, rfl, by decide⟩

/-- A row of numbers of the call's own. -/
def OwnI (w : World) (base : Nat) (v : Value) (zs : List Int) : Prop := w.ownsRow base 3 1 v zs.length (zs.map (.int .i64))

def CloneR (w : World) (zs : List Int) (e : Ending) (w' : World) : Prop := ∃ v', e = .returned v' ∧ OwnI w' w.heap.size v' zs ∧ Below w.heap.size w w'

theorem getD_nthI (zs : List Int) (j : Nat) : zs.getD j 0 = nthI zs j := rfl

theorem clone_any (a : Option Addr) (c : Nat) (zs : List Int) (w : World) (hl : zs.length * 8 ≤ 140737488355328) (hz : IntsAt w a zs) :
    Calls Tryz.prog 46 #[.slice a zs.length c] w (CloneR w zs) := by
  cases a with
  | none =>
    have hn : zs = [] := by
      rcases hz with h | ⟨b, off, h, _⟩
      · exact h
      · cases h
    subst hn
    refine (Tryz.slices_Clone_int_nil _ _ _).mono ?_
    rintro e w' ⟨rfl, rfl⟩
    exact ⟨_, rfl, World.ownsRow_nil _ _ _ _, Below.refl _ _⟩
  | some a =>
    rcases hz with rfl | ⟨b, off, h, hb, hc⟩
    · refine (Tryz.slices_Clone_int_zero _ _ _).mono ?_
      rintro e w' ⟨v', rfl, h1, _, h2⟩
      exact ⟨v', rfl, h1, h2⟩
    · cases h
      refine (Tryz.slices_Clone_int b off zs.length c zs w (Nat.le_refl _) hl hc).mono ?_
      rintro e w' ⟨v', rfl, h1, _, h2⟩
      rw [List.take_length] at h1
      exact ⟨v', rfl, h1, h2⟩

def DelR (base g : Nat) (w : World) (zs : List Int) (e : Ending) (w' : World) : Prop := ∃ c', e = .returned (.slice (some ⟨g, 0, none⟩) zs.length c') ∧ OwnI w' base (.slice (some ⟨g, 0, none⟩) zs.length c') zs ∧ Below base w w' ∧ w.grownBy w' (some g)

theorem below_but {g : Nat} {w : World} : ∀ (vs : List Value) (o : Nat) (w1 : World), w.grownBy w1 (some g) → w.grownBy (w1.setCells g o vs) (some g)
  | [], _, _, h => h
  | v :: r, o, w1, h => below_but r (o + 1) (w1.setCell ⟨g, o, none⟩ v) ⟨h.os, h.tape, h.output, by simpa using h.size, fun k hk hne => by
      rw [heap_setCell_other w1 ⟨g, o, none⟩ k v (fun e => hne (by simp [e]))]; exact h.block k hk hne⟩

theorem delete_any (base g cap : Nat) (zs : List Int) (i : Nat) (w : World) (hi : i < zs.length) (hown : OwnI w base (.slice (some ⟨g, 0, none⟩) zs.length cap) zs) :
    Calls Tryz.prog 62 #[.slice (some ⟨g, 0, none⟩) zs.length cap, .int .i64 i, .int .i64 (i + 1)] w (DelR base g w (zs.eraseIdx i)) := by
  obtain ⟨hlen, h2⟩ := hown
  rcases h2 with ⟨_, h⟩ | ⟨g', cap', cur, hv, hb, hg, hn, hm, hs, ht⟩
  · omega
  simp only [Value.slice.injEq, Option.some.injEq, Addr.mk.injEq, and_true, true_and] at hv
  obtain ⟨rfl, rfl⟩ := hv
  unfold maxLen at hm
  simp only [Nat.mul_one] at hs ht
  have hcell : ∀ j, j < zs.length → w.cell? ⟨g, 0 + j, none⟩ = some (.int .i64 (zs.getD j 0)) := by
    intro j hj
    rw [Nat.zero_add, cell_of_row w g j cur _ _ hg]
    have := congrArg (fun l => l[j]?) ht
    simp only [map_getElem?_int zs j hj] at this
    rw [List.getElem?_take, if_pos hj] at this
    rw [getD_nthI]
    simpa using this
  have hfz : ∀ j, j < zs.length → w.frozen? ⟨g, 0 + j, none⟩ = false := fun j _ => frozen_of_row w g (0 + j) cur _ hg
  have hk := Tryz.slices_Delete_int_cells g 0 zs.length cap i (i + 1) zs w (Nat.le_refl _) hn hm (by omega) (by omega) hcell hfz
  rw [show ((i + 1 : Nat) : Int) = (i : Int) + 1 from by omega] at hk
  refine hk.mono ?_
  rintro e w' ⟨rfl, q, rfl⟩
  have hl' : ((((zs.take zs.length).take i ++ (zs.take zs.length).drop (i + 1) ++ List.replicate (i + 1 - i) 0).map (Value.int .i64))).length = zs.length := by
    simp; omega
  obtain ⟨cur', k1, k2, k3, _, k5⟩ := setCells_row g 3 _ 0 (w.drewN q) cur hg (by rw [hl']; omega)
  have he : (zs.eraseIdx i).length = zs.length - 1 := by rw [List.length_eraseIdx]; simp [hi]
  have hz1 : (zs.eraseIdx i).length = zs.length - (i + 1 - i) := by omega
  rw [← hz1]
  refine ⟨cap, rfl, ⟨by simp, Or.inr ⟨g, cap, cur', rfl, hb, k1, ?_, hm, by omega, ?_⟩⟩, ((below_drews (Below.refl base w) q).trans (k5.mono hb)), below_but _ _ _ ⟨rfl, rfl, rfl, Nat.le_refl _, fun _ _ _ => rfl⟩⟩
  · omega
  · rw [he, Nat.mul_one]
    apply List.ext_getElem?
    intro j
    rw [List.getElem?_take]
    by_cases hj : j < zs.length - 1
    · rw [if_pos hj]
      have h3 := k3 j (by rw [hl']; omega)
      rw [Nat.zero_add] at h3
      rw [Array.getElem?_toList, h3, List.take_length, List.eraseIdx_eq_take_drop_succ]
      rw [List.map_append, List.getElem?_append_left (by simp; omega)]
    · rw [if_neg hj, List.getElem?_eq_none (by simp [he]; omega)]

/-- No roster. -/
@[reducible] def ros0 : Value := .agg #[.int .i64 0, .slice none 0 0, .int .i64 0]

set_option maxRecDepth 100000 in
set_option maxHeartbeats 400000 in
theorem asked_yes (e nw : Int) (a : Option Addr) (c : Nat) (zs : List Int) (w : World) (hl : zs.length ≤ 9223372036854775807) (hz : IntsAt w a zs) (hm : mayB e zs nw = true) :
    Calls Tryz.prog 63 #[rosV e a zs c nw] w fun e' w' => e' = .returned (.tuple #[rosV e a zs c nw, .bool true]) ∧ Below w.heap.size w w' := by
  go_enter Tryz.func63, Tryz.ntmps63
  go_wp2_with (go_at_call 35; refine (may_any _ _ _ _ _ _ hl ((hz.alloc _).alloc _)).mono ?_; rw [hm]; rintro e w' ⟨rfl, hb⟩; obtain ⟨hc, hf⟩ := bcell hb)
  refine bodyPost_ret (v := .tuple #[rosV e a zs c nw, .bool true]) (by simp [results, Tryz.results63, go_sem, hc]) rfl ⟨rfl, ?_⟩
  exact below_set3 (below_on (below_alloc (below_alloc (Below.refl _ _) _) _) hb) (by omega) _ _ _ _ _ _

set_option maxRecDepth 100000 in
set_option maxHeartbeats 400000 in
theorem asked_no (e nw : Int) (a : Option Addr) (c : Nat) (zs : List Int) (w : World) (hl : zs.length ≤ 9223372036854775807) (hz : IntsAt w a zs) (hm : mayB e zs nw = false) :
    Calls Tryz.prog 63 #[rosV e a zs c nw] w fun e' w' => e' = .returned (.tuple #[ros0, .bool false]) ∧ Below w.heap.size w w' := by
  go_enter Tryz.func63, Tryz.ntmps63
  go_wp2_with (go_at_call 35; refine (may_any _ _ _ _ _ _ hl ((hz.alloc _).alloc _)).mono ?_; rw [hm]; rintro e w' ⟨rfl, hb⟩; obtain ⟨hc, hf⟩ := bcell hb)
  refine bodyPost_ret (v := .tuple #[ros0, .bool false]) (by simp [results, Tryz.results63, go_sem, hc]) rfl ⟨rfl, ?_⟩
  exact below_set3 (below_on (below_alloc (below_alloc (Below.refl _ _) _) _) hb) (by omega) _ _ _ _ _ _

/-- The same, the length said apart. -/
theorem asked_yes' (e nw : Int) (a : Option Addr) (m c : Nat) (zs : List Int) (w : World) (hl : zs.length ≤ 9223372036854775807) (hz : IntsAt w a zs) (hm : mayB e zs nw = true) (h : zs.length = m) :
    Calls Tryz.prog 63 #[.agg #[.int .i64 e, .slice a m c, .int .i64 nw]] w fun e' w' => e' = .returned (.tuple #[.agg #[.int .i64 e, .slice a m c, .int .i64 nw], .bool true]) ∧ Below w.heap.size w w' := by
  subst h; exact asked_yes e nw a c zs w hl hz hm
theorem asked_no' (e nw : Int) (a : Option Addr) (m c : Nat) (zs : List Int) (w : World) (hl : zs.length ≤ 9223372036854775807) (hz : IntsAt w a zs) (hm : mayB e zs nw = false) (h : zs.length = m) :
    Calls Tryz.prog 63 #[.agg #[.int .i64 e, .slice a m c, .int .i64 nw]] w fun e' w' => e' = .returned (.tuple #[ros0, .bool false]) ∧ Below w.heap.size w w' := by
  subst h; exact asked_no e nw a c zs w hl hz hm

def AddR (w : World) (e n : Int) (zs : List Int) (e' : Ending) (w' : World) : Prop := ∃ v', e' = .returned (.tuple #[.agg #[.int .i64 e, v', .int .i64 n], .bool true]) ∧ OwnI w' w.heap.size v' zs ∧ Below w.heap.size w w'

theorem ownI_ros {w : World} {base : Nat} {v : Value} {zs : List Int} (h : OwnI w base v zs) : ∃ a c, v = .slice a zs.length c ∧ IntsAt w a zs := by
  obtain ⟨a, c, h1, h2⟩ := ownsRow_row h
  exact ⟨a, c, h1, h2.ints⟩

set_option maxRecDepth 100000 in
set_option maxHeartbeats 400000 in
theorem add9_no (e nw n : Int) (a : Option Addr) (c : Nat) (zs : List Int) (w : World) (hl : zs.length ≤ 9223372036854775807) (hz : IntsAt w a zs) (hm : mayB e zs nw = false ∨ nw ≠ 0) :
    Calls Tryz.prog 43 #[rosV e a zs c nw, .int .i64 n] w fun e' w' => e' = .returned (.tuple #[ros0, .bool false]) ∧ Below w.heap.size w w' := by
  by_cases h1 : mayB e zs nw = false
  · go_enter Tryz.func43, Tryz.ntmps43
    go_wp2_with (go_at_call 35; refine (may_any _ _ _ _ _ _ hl ((hz.alloc _).alloc _)).mono ?_; rw [h1]; rintro e w' ⟨rfl, hb⟩; obtain ⟨hc, hf⟩ := bcell hb)
    refine bodyPost_ret (v := .tuple #[ros0, .bool false]) (by simp [results, Tryz.results43, go_sem, hc]) rfl ⟨rfl, ?_⟩
    exact below_set3 (below_on (below_alloc (below_alloc (Below.refl _ _) _) _) hb) (by omega) _ _ _ _ _ _
  · have h2 : mayB e zs nw = true := by simpa using h1
    have h3 : (nw != 0) = true := by simpa using hm.resolve_left h1
    clear h1 hm
    go_enter Tryz.func43, Tryz.ntmps43
    go_wp2_with (go_at_call 35; refine (may_any _ _ _ _ _ _ hl ((hz.alloc _).alloc _)).mono ?_; rw [h2]; rintro e w' ⟨rfl, hb⟩; obtain ⟨hc, hf⟩ := bcell hb)
    refine bodyPost_ret (v := .tuple #[ros0, .bool false]) (by simp [results, Tryz.results43, go_sem, hc]) rfl ⟨rfl, ?_⟩
    exact below_set3 (below_on (below_alloc (below_alloc (Below.refl _ _) _) _) hb) (by omega) _ _ _ _ _ _

set_option maxRecDepth 100000 in
set_option maxHeartbeats 800000 in
theorem add_yes (e n : Int) (a : Option Addr) (c : Nat) (zs : List Int) (w : World) (hz : IntsAt w a zs) (hm : mayB e zs 0 = true) (he : 1 ≤ e ∧ e ≤ 1099511627776) (hl : zs.length ≤ 5) (hy : mayB (e + 1) (zs ++ [n]) n = true) :
    Calls Tryz.prog 43 #[rosV e a zs c 0, .int .i64 n] w (AddR w (e + 1) n (zs ++ [n])) := by
  have hw : IntKind.i64.wrap (e + 1) = e + 1 := IntWalk.i64_in _ (by omega)
  have hyH := Lib.hid hy
  clear hy
  go_enter Tryz.func43, Tryz.ntmps43
  go_wp2_with (go_at_call 35; refine (may_any _ _ _ _ _ _ (by omega) ((hz.alloc _).alloc _)).mono ?_; rw [hm]; rintro e w' ⟨rfl, hb⟩; obtain ⟨hc, hf⟩ := bcell hb)
  have hS : RosS w (.int .i64 e) (.slice a zs.length c) (.int .i64 0) w' := (RosS.start w _ _ _ _ _ _ _ _).keep hb
  clear hb hc hf
  go_region_held3 (fun w' => w'.cell? ⟨w.heap.size, 0, none⟩ = some (.int .i64 e) ∧ w'.cell? ⟨w.heap.size, 1, none⟩ = some (.slice a zs.length c) ∧ w'.cell? ⟨w.heap.size, 2, none⟩ = some (.int .i64 0) ∧
      w'.cell? ⟨w.heap.size + 1, 0, none⟩ = some (cellD w' ⟨w.heap.size + 1, 0, none⟩) ∧ w'.cell? ⟨w.heap.size + 1, 1, none⟩ = some (cellD w' ⟨w.heap.size + 1, 1, none⟩) ∧ w'.cell? ⟨w.heap.size + 1, 2, none⟩ = some (cellD w' ⟨w.heap.size + 1, 2, none⟩) ∧
      w'.frozen? ⟨w.heap.size + 1, 0, none⟩ = false ∧ w'.frozen? ⟨w.heap.size + 1, 1, none⟩ = false ∧ w'.frozen? ⟨w.heap.size + 1, 2, none⟩ = false ∧ Below w.heap.size w w')
    (first | exact RosS.keep hS (Below.refl _ _).drew | exact RosS.keep (show RosS w _ _ _ _ from ‹_›) hb | exact RosS.keepB (show RosS w _ _ _ _ from ‹_›) hb2 | exact RosS.keep (show RosS w _ _ _ _ from ‹_›) (below_alloc (Below.refl _ _) _) | exact ((RosS.set (show RosS w _ _ _ _ from ‹_›) _ _).set _ _).set _ _)
    (first
      | (go_at_call 46; refine (clone_any _ _ _ _ (by omega) ?_).mono ?_; (exact (hz.below (show RosS w _ _ _ _ from ‹_›).low (Nat.le_refl _))); rintro e w' ⟨v1, rfl, hown, hb⟩; have hown1 := Lib.hid (ownsRow_base (base' := w.heap.size + 2) hown (show RosS w _ _ _ _ from ‹_›).size); clear hown)
      | (go_at_call 63; refine (asked_yes' _ _ _ _ _ (zs ++ [n]) _ (by simp; omega) hz3.out hyH.out (by simp)).mono ?_; rintro e w' ⟨rfl, hb⟩)
      | (refine step_append_any (by rfl) _ _ 22 (by rfl) (w.heap.size + 2) 3 _ 1 8 tyInts v1 zs.length (zs.map (.int .i64)) (by rfl) ?c1 _ 1 1 [.int .i64 n] (by rfl) (by rfl) ?c2 (by simp [Value.oneCell']) (by unfold maxLen; omega) (by omega) ?c3 ?_
         case c1 => first | exact hown1.out | exact hown1.out.alloc _
         case c2 => first | exact RowAt.new _ _ _ | exact (RowAt.new _ _ _).keep hb | exact (RowAt.new _ _ _).drew.keep hb
         case c3 => first | exact (show RosS w _ _ _ _ from ‹_›).size | (simp; have := (show RosS w _ _ _ _ from ‹_›).size; omega)
         intro v2 w2 hown2' hb2
         obtain ⟨a3, c3, rfl, hz3'⟩ := ownsRow_row hown2'
         have hz3 := Lib.hid (RowAt.ints (zs := zs ++ [n]) (by simpa using hz3'))
         have hown2 := Lib.hid hown2'
         clear hown2' hz3'))
  all_goals
    obtain ⟨q0, q1, q2⟩ := RosS.vals (show RosS w _ _ _ _ from ‹_›)
    have hlow := (show RosS w _ _ _ _ from ‹_›).low
    go_wp2_with fail
    refine bodyPost_ret (v := .tuple #[.agg #[.int .i64 (e + 1), .slice a3 (zs.length + 1) c3, .int .i64 n], .bool true]) (by simp [results, Tryz.results43, go_sem, q0, q1, q2]) rfl ⟨_, rfl, ?_, hlow⟩
    have h3 := own_set3 (ownsRow_below hown2.out hb) (b := w.heap.size + 1) (by omega) (.int .i64 (e + 1)) (.slice a3 (zs.length + 1) c3) (.int .i64 n)
    simpa [OwnI] using ownsRow_base (base' := w.heap.size) h3 (by omega)

set_option maxRecDepth 100000 in
set_option maxHeartbeats 800000 in
theorem add_no2 (e n : Int) (a : Option Addr) (c : Nat) (zs : List Int) (w : World) (hz : IntsAt w a zs) (hm : mayB e zs 0 = true) (he : 1 ≤ e ∧ e ≤ 1099511627776) (hl : zs.length ≤ 5) (hy : mayB (e + 1) (zs ++ [n]) n = false) :
    Calls Tryz.prog 43 #[rosV e a zs c 0, .int .i64 n] w fun e' w' => e' = .returned (.tuple #[ros0, .bool false]) ∧ Below w.heap.size w w' := by
  have hw : IntKind.i64.wrap (e + 1) = e + 1 := IntWalk.i64_in _ (by omega)
  have hyH := Lib.hid hy
  clear hy
  go_enter Tryz.func43, Tryz.ntmps43
  go_wp2_with (go_at_call 35; refine (may_any _ _ _ _ _ _ (by omega) ((hz.alloc _).alloc _)).mono ?_; rw [hm]; rintro e w' ⟨rfl, hb⟩; obtain ⟨hc, hf⟩ := bcell hb)
  have hS : RosS w (.int .i64 e) (.slice a zs.length c) (.int .i64 0) w' := (RosS.start w _ _ _ _ _ _ _ _).keep hb
  clear hb hc hf
  go_region_held3 (fun w' => w'.cell? ⟨w.heap.size, 0, none⟩ = some (.int .i64 e) ∧ w'.cell? ⟨w.heap.size, 1, none⟩ = some (.slice a zs.length c) ∧ w'.cell? ⟨w.heap.size, 2, none⟩ = some (.int .i64 0) ∧
      w'.cell? ⟨w.heap.size + 1, 0, none⟩ = some (cellD w' ⟨w.heap.size + 1, 0, none⟩) ∧ w'.cell? ⟨w.heap.size + 1, 1, none⟩ = some (cellD w' ⟨w.heap.size + 1, 1, none⟩) ∧ w'.cell? ⟨w.heap.size + 1, 2, none⟩ = some (cellD w' ⟨w.heap.size + 1, 2, none⟩) ∧
      w'.frozen? ⟨w.heap.size + 1, 0, none⟩ = false ∧ w'.frozen? ⟨w.heap.size + 1, 1, none⟩ = false ∧ w'.frozen? ⟨w.heap.size + 1, 2, none⟩ = false ∧ Below w.heap.size w w')
    (first | exact RosS.keep hS (Below.refl _ _).drew | exact RosS.keep (show RosS w _ _ _ _ from ‹_›) hb | exact RosS.keepB (show RosS w _ _ _ _ from ‹_›) hb2 | exact RosS.keep (show RosS w _ _ _ _ from ‹_›) (below_alloc (Below.refl _ _) _) | exact ((RosS.set (show RosS w _ _ _ _ from ‹_›) _ _).set _ _).set _ _)
    (first
      | (go_at_call 46; refine (clone_any _ _ _ _ (by omega) ?_).mono ?_; (exact (hz.below (show RosS w _ _ _ _ from ‹_›).low (Nat.le_refl _))); rintro e w' ⟨v1, rfl, hown, hb⟩; have hown1 := Lib.hid (ownsRow_base (base' := w.heap.size + 2) hown (show RosS w _ _ _ _ from ‹_›).size); clear hown)
      | (go_at_call 63; refine (asked_no' _ _ _ _ _ (zs ++ [n]) _ (by simp; omega) hz3.out hyH.out (by simp)).mono ?_; rintro e w' ⟨rfl, hb⟩)
      | (refine step_append_any (by rfl) _ _ 22 (by rfl) (w.heap.size + 2) 3 _ 1 8 tyInts v1 zs.length (zs.map (.int .i64)) (by rfl) ?c1 _ 1 1 [.int .i64 n] (by rfl) (by rfl) ?c2 (by simp [Value.oneCell']) (by unfold maxLen; omega) (by omega) ?c3 ?_
         case c1 => first | exact hown1.out | exact hown1.out.alloc _
         case c2 => first | exact RowAt.new _ _ _ | exact (RowAt.new _ _ _).keep hb | exact (RowAt.new _ _ _).drew.keep hb
         case c3 => first | exact (show RosS w _ _ _ _ from ‹_›).size | (simp; have := (show RosS w _ _ _ _ from ‹_›).size; omega)
         intro v2 w2 hown2' hb2
         obtain ⟨a3, c3, rfl, hz3'⟩ := ownsRow_row hown2'
         have hz3 := Lib.hid (RowAt.ints (zs := zs ++ [n]) (by simpa using hz3'))
         have hown2 := Lib.hid hown2'
         clear hown2' hz3'))
  all_goals
    obtain ⟨q0, q1, q2⟩ := RosS.vals (show RosS w _ _ _ _ from ‹_›)
    have hlow := (show RosS w _ _ _ _ from ‹_›).low
    go_wp2_with fail
    refine bodyPost_ret (v := .tuple #[ros0, .bool false]) (by simp [results, Tryz.results43, go_sem, q0, q1, q2]) rfl ⟨rfl, hlow⟩


end Go.Proofs.YthiphdcbboapkaaGreatDoor

/- Walks of roll's names. Walks of roll's New, has, Read, Pressed, Room. -/
import Derived.Test.YthiphdcbboapkaaGreatDoorN3
import Derived.Test.YthiphdcbboapkaaGreatDoorN2
namespace Go.Proofs.YthiphdcbboapkaaGreatDoor
open Go.RowKit

/-- Is a byte none of a name's? -/
def badB (c : UInt8) : Bool := decide ((c.toNat : Int) < 65) || decide (90 < (c.toNat : Int))
/-- May a name be? -/
def goodN (l : List UInt8) : Bool := !(l.any badB) && decide (1 ≤ l.length) && decide (l.length ≤ 10)
theorem pred_any (c : UInt8) (w : World) : Calls Tryz.prog 88 #[.int .u8 (c.toNat : Int)] w fun e w' => e = .returned (.bool (badB c)) ∧ w = w' := by
  have hc := c.toNat_lt
  obtain ⟨t1, ht1⟩ : ∃ t, decide ((c.toNat : Int) < 65) = t := ⟨_, rfl⟩
  obtain ⟨t2, ht2⟩ : ∃ t, decide (90 < (c.toNat : Int)) = t := ⟨_, rfl⟩
  have HB : Hid (badB c = (t1 || t2)) := Lib.hid (by unfold badB; rw [ht1, ht2])
  cases t1
  · cases t2
    · go_enter Tryz.func88, Tryz.ntmps88
      go_wp2_with fail
      go_ret
      exact ⟨by rw [HB.out]; rfl, rfl⟩
    · go_enter Tryz.func88, Tryz.ntmps88
      go_wp2_with fail
      go_ret
      exact ⟨by rw [HB.out]; rfl, rfl⟩
  · go_enter Tryz.func88, Tryz.ntmps88
    go_wp2_with fail
    go_ret
    exact ⟨by rw [HB.out]; rfl, rfl⟩
def IdxR (l : List UInt8) (w : World) (e : Ending) (w' : World) : Prop := ∃ r : Int, e = .returned (.int .i64 r) ∧ decide (0 ≤ r) = l.any badB ∧ w = w'
theorem any_take_succ (l : List UInt8) (k : Nat) (h : k < l.length) (f : UInt8 → Bool) : (l.take (k + 1)).any f = ((l.take k).any f || f l[k]) := by
  rw [List.take_succ_eq_append_getElem h, List.any_append]; simp
theorem any_of_get (l : List UInt8) (k : Nat) (h : k < l.length) (f : UInt8 → Bool) (hf : f l[k] = true) : l.any f = true := List.any_eq_true.2 ⟨_, List.getElem_mem h, hf⟩
set_option maxRecDepth 100000 in
theorem idxf_any (a : Option Addr) (c : Nat) (l : List UInt8) (w : World) (hs : l.length ≤ 9223372036854775807) (hr : RowAt w a (Lib.byteCells l)) :
    Calls Tryz.prog 99 #[.slice a l.length c, .func (.func 88) #[] #[]] w (IdxR l w) := by
  have HR := Lib.hid hr
  clear hr
  go_enter Tryz.func99, Tryz.ntmps99
  go_wp2_with fail
  go_loop [5, 8] (fun _ k => ∃ j : Nat, j ≤ l.length ∧ k = .int .i64 j ∧ (l.take j).any badB = false) (fun _ k => l.length - (intOf k).toNat)
  case atStart => exact ⟨0, Nat.zero_le _, rfl, rfl⟩
  case round =>
    obtain ⟨k, hk, rfl, hn⟩ := hrel
    have HN := Lib.hid hn
    clear hn
    by_cases hlt : k < l.length
    · rcases HR.out with h | ⟨g, off, rfl, hg, hc⟩
      · exfalso; unfold Lib.byteCells at h; simp at h; subst h; simp at hlt
      have hcell := hc k _ (cells_byte hlt)
      have HT := Lib.hid (any_take_succ l k hlt badB)
      have HG := Lib.hid (any_of_get l k hlt badB)
      obtain ⟨x, hx⟩ : ∃ x, l[k] = x := ⟨_, rfl⟩
      rw [hx] at HT HG hcell
      have HP := Lib.hid (pred_any x)
      obtain ⟨t, ht⟩ : ∃ t, badB x = t := ⟨_, rfl⟩
      rw [ht] at HP HT HG
      clear hc hx ht
      cases t
      · go_wp2_with (go_at_call 88; refine (HP.out _).mono ?_; rintro e' w' ⟨rfl, rfl⟩)
        go_round
        case rel => exact ⟨k + 1, by omega, by go_num, by rw [HT.out, HN.out]; rfl⟩
        case measure => simp [intOf]; omega
      · have HA : Hid (l.any badB = true) := Lib.hid (HG.out rfl)
        clear HG
        go_wp2_with (go_at_call 88; refine (HP.out _).mono ?_; rintro e' w' ⟨rfl, rfl⟩)
        go_ret
        exact ⟨_, rfl, by rw [HA.out]; simp, rfl⟩
    · have HE := Lib.hid (show l.any badB = false by have := HN.out; rwa [List.take_of_length_le (by omega)] at this)
      go_wp2_with fail
      go_ret
      exact ⟨_, rfl, by rw [HE.out]; rfl, rfl⟩
set_option maxRecDepth 100000 in
theorem contf_any (a : Option Addr) (c : Nat) (l : List UInt8) (w : World) (hs : l.length ≤ 9223372036854775807) (hr : RowAt w a (Lib.byteCells l)) :
    Calls Tryz.prog 87 #[.slice a l.length c, .func (.func 88) #[] #[]] w fun e w' => e = .returned (.bool (l.any badB)) ∧ w = w' := by
  have HI := Lib.hid (idxf_any a c l w hs hr)
  clear hr
  go_enter Tryz.func87, Tryz.ntmps87
  go_wp2_with (go_at_call 99; refine HI.out.mono ?_; rintro e' w' ⟨r, rfl, hr, rfl⟩; have HR := Lib.hid hr; clear hr)
  go_ret
  exact ⟨by rw [← HR.out]; rfl, rfl⟩
theorem contf_bsl (w : World) (s : ByteArray) (hs : s.size ≤ 9223372036854775807) : Calls Tryz.prog 87 #[bsl w s, .func (.func 88) #[] #[]] (bw w s) fun e w' => e = .returned (.bool (s.data.toList.any badB)) ∧ Below w.heap.size w w' := by
  unfold bsl
  rw [size_list]
  refine (contf_any _ _ s.data.toList _ (by rw [← size_list]; exact hs) (bw_row w s)).mono ?_
  rintro e w' ⟨rfl, rfl⟩
  exact ⟨rfl, bw_below w s⟩
set_option maxRecDepth 100000 in
theorem name_any (s : ByteArray) (w : World) (hs : s.size ≤ 9223372036854775807) :
    Calls Tryz.prog 73 #[.string s] w fun e w' => e = .returned (.bool (goodN s.data.toList)) ∧ Below w.heap.size w w' := by
  have HC := Lib.hid (contf_bsl w s hs)
  have kc := run_bytes
  obtain ⟨t1, ht1⟩ : ∃ t, s.data.toList.any badB = t := ⟨_, rfl⟩
  have HG : Hid (goodN s.data.toList = (!t1 && decide (1 ≤ s.size) && decide (s.size ≤ 10))) := Lib.hid (by unfold goodN; rw [ht1, ← size_list])
  rw [ht1] at HC
  clear ht1
  cases t1
  · by_cases h1 : 1 ≤ s.size
    · by_cases h2 : s.size ≤ 10
      · have HE := Lib.hid (show goodN s.data.toList = true by rw [HG.out]; simp [h1, h2])
        have d2 : decide ((s.size : Int) ≤ 10) = true := decide_eq_true (by omega)
        clear HG
        go_enter Tryz.func73, Tryz.ntmps73
        go_wp2_with (go_at_call 87; refine HC.out.mono ?_; rintro e' w1 ⟨rfl, hb⟩; have HB := Lib.hid hb; clear hb)
        go_ret
        exact ⟨by rw [HE.out]; rfl, HB.out⟩
      · have HE := Lib.hid (show goodN s.data.toList = false by rw [HG.out]; simp [h2])
        have d2 : decide ((s.size : Int) ≤ 10) = false := decide_eq_false (by omega)
        clear HG
        go_enter Tryz.func73, Tryz.ntmps73
        go_wp2_with (go_at_call 87; refine HC.out.mono ?_; rintro e' w1 ⟨rfl, hb⟩; have HB := Lib.hid hb; clear hb)
        go_ret
        exact ⟨by rw [HE.out]; rfl, HB.out⟩
    · have HE := Lib.hid (show goodN s.data.toList = false by rw [HG.out]; simp [h1])
      clear HG
      go_enter Tryz.func73, Tryz.ntmps73
      go_wp2_with (go_at_call 87; refine HC.out.mono ?_; rintro e' w1 ⟨rfl, hb⟩; have HB := Lib.hid hb; clear hb)
      go_ret
      exact ⟨by rw [HE.out]; rfl, HB.out⟩
  · have HE := Lib.hid (show goodN s.data.toList = false by rw [HG.out]; simp)
    clear HG
    go_enter Tryz.func73, Tryz.ntmps73
    go_wp2_with (go_at_call 87; refine HC.out.mono ?_; rintro e' w1 ⟨rfl, hb⟩; have HB := Lib.hid hb; clear hb)
    go_ret
    exact ⟨by rw [HE.out]; rfl, HB.out⟩
end Go.Proofs.YthiphdcbboapkaaGreatDoor
namespace Go.Proofs.YthiphdcbboapkaaGreatDoor
open Go.RowKit

/-- How many bytes there is room for in a new chest. -/
def capR (r : Int) : Int := min (max r 0) 1048576
theorem capR_bd (r : Int) : 0 ≤ capR r ∧ capR r ≤ 1048576 := by unfold capR; omega
/-- A new chest: all that was is as it was. -/
def NewR (w : World) (r : Int) (L : List Rl) (e : Ending) (w' : World) : Prop := ∃ g b, e = .returned (.pointer (some ⟨g, 0, none⟩)) ∧ ChestAt w' g b r L ∧ w.heap.size ≤ g ∧ w.heap.size ≤ b ∧ Below w.heap.size w w'
theorem new_chest (w : World) (r : Int) (t : TypeId) : ChestAt ((w.alloc (.map #[] 0)).alloc (.cells #[.int .i64 r, .map (some w.heap.size)] t)) (w.heap.size + 1) w.heap.size r [] := by
  have e : ∀ i : Nat, ((w.alloc (.map #[] 0)).alloc (.cells #[.int .i64 r, .map (some w.heap.size)] t)).cell? ⟨w.heap.size + 1, i, none⟩ = #[Value.int .i64 r, .map (some w.heap.size)][i]? := fun i => World.cell?_alloc_at _ _ _ _ (by simp)
  have f : ∀ i : Nat, ((w.alloc (.map #[] 0)).alloc (.cells #[.int .i64 r, .map (some w.heap.size)] t)).frozen? ⟨w.heap.size + 1, i, none⟩ = false := fun i => by simp [go_sem]
  exact ⟨e 0, e 1, f 0, f 1, (mapAt_made w).keep (S := []) ((Only.refl _ _).alloc _) (by simp)⟩
set_option maxRecDepth 100000 in
theorem new_any (r : Int) (w : World) : Calls Tryz.prog 14 #[.int .i64 r] w (NewR w (capR r) []) := by
  have hmm := @run_makeMap Tryz.prog
  have HR : Hid (capR r = min (max r 0) 1048576) := Lib.hid rfl
  obtain ⟨q, hq⟩ : ∃ q, capR r = q := ⟨_, rfl⟩
  rw [hq] at HR ⊢
  clear hq
  go_enter Tryz.func14, Tryz.ntmps14
  go_wp2_with fail
  go_ret
  rw [show min (max r 0) 1048576 = q from HR.out.symm]
  exact ⟨_, _, rfl, new_chest w q _, by simp, by simp, below_alloc (below_alloc (Below.refl _ _) _) _⟩

/-- A place of three cells of its own, which is written. -/
theorem three_cells (w : World) (b : Nat) (u v x y0 y1 y2 : Value) (c0 : w.cell? ⟨b, 0, none⟩ = some y0) (c1 : w.cell? ⟨b, 1, none⟩ = some y1) (c2 : w.cell? ⟨b, 2, none⟩ = some y2) :
    (((w.setCell ⟨b, 0, none⟩ u).setCell ⟨b, 1, none⟩ v).setCell ⟨b, 2, none⟩ x).cell? ⟨b, 0, none⟩ = some u ∧ (((w.setCell ⟨b, 0, none⟩ u).setCell ⟨b, 1, none⟩ v).setCell ⟨b, 2, none⟩ x).cell? ⟨b, 1, none⟩ = some v ∧ (((w.setCell ⟨b, 0, none⟩ u).setCell ⟨b, 1, none⟩ v).setCell ⟨b, 2, none⟩ x).cell? ⟨b, 2, none⟩ = some x := by
  refine ⟨?_, ?_, ?_⟩
  · rw [World.cell?_setCell_other _ _ _ _ (by simp), World.cell?_setCell_other _ _ _ _ (by simp)]; exact World.cell?_setCell_same _ _ _ c0
  · rw [World.cell?_setCell_other _ _ _ _ (by simp)]; exact World.cell?_setCell_same _ _ _ (by rw [World.cell?_setCell_other _ _ _ _ (by simp)]; exact c1)
  · exact World.cell?_setCell_same _ _ _ (by rw [World.cell?_setCell_other _ _ _ _ (by simp), World.cell?_setCell_other _ _ _ _ (by simp)]; exact c2)
set_option maxRecDepth 100000 in
theorem has_yes {w : World} {g b : Nat} {r : Int} {L : List Rl} (hC : ChestAt w g b r L) (n : ByteArray) (hn : n.size ≤ 9223372036854775807) (c : Scr) (hl : lookL n.data.toList L = some c) :
    Calls Tryz.prog 74 #[.pointer (some ⟨g, 0, none⟩), .string n] w fun e w' => e = .returned (.tuple #[.agg #[.string c.s, .int .i64 c.p, .bool c.k], .int .i64 0]) ∧ Below w.heap.size w w' := by
  have HC := Lib.hid hC
  have HX := Lib.hid (show atL n.data.toList L = c by unfold atL; rw [hl]; rfl)
  have HT := Lib.hid (show (lookL n.data.toList L).isSome = true by rw [hl]; rfl)
  have ltg := hC.ltg
  have c1 := hC.2.1
  clear hC hl
  go_enter Tryz.func74, Tryz.ntmps74
  go_wp2_with (at_lookup; refine wpList_look_ok _ rfl _ _ rfl b L rfl (HC.out.map.keep (S := []) ((Only.refl _ _).alloc _) (by simp)) n rfl hn c HX true HT ?_)
  refine bodyPost_ret (v := .tuple #[.agg #[.string c.s, .int .i64 c.p, .bool c.k], .int .i64 0]) (by simp [results, Tryz.results74, go_sem]) rfl ⟨rfl, ?_⟩
  exact below_alloc (below_alloc (Below.refl _ _) _) _
set_option maxRecDepth 100000 in
theorem has_no {w : World} {g b : Nat} {r : Int} {L : List Rl} (hC : ChestAt w g b r L) (n : ByteArray) (hn : n.size ≤ 9223372036854775807) (hl : lookL n.data.toList L = none) :
    Calls Tryz.prog 74 #[.pointer (some ⟨g, 0, none⟩), .string n] w fun e w' => e = .returned (.tuple #[.agg #[.string ⟨#[]⟩, .int .i64 0, .bool false], .int .i64 6]) ∧ Below w.heap.size w w' := by
  have HC := Lib.hid hC
  have HX := Lib.hid (show atL n.data.toList L = zScr by unfold atL; rw [hl]; rfl)
  have HT := Lib.hid (show (lookL n.data.toList L).isSome = false by rw [hl]; rfl)
  have ltg := hC.ltg
  have c1 := hC.2.1
  clear hC hl
  go_enter Tryz.func74, Tryz.ntmps74
  go_wp2_with (at_lookup; refine wpList_look_ok _ rfl _ _ rfl b L rfl (HC.out.map.keep (S := []) ((Only.refl _ _).alloc _) (by simp)) n rfl hn zScr HX false HT ?_)
  refine bodyPost_ret (v := .tuple #[.agg #[.string ⟨#[]⟩, .int .i64 0, .bool false], .int .i64 6]) (by simp [results, Tryz.results74, go_sem]) rfl ⟨rfl, ?_⟩
  exact below_alloc (below_alloc (Below.refl _ _) _) _
set_option maxRecDepth 100000 in
theorem has_nil (n : ByteArray) (w : World) :
    Calls Tryz.prog 74 #[.pointer none, .string n] w fun e w' => e = .returned (.tuple #[.agg #[.string ⟨#[]⟩, .int .i64 0, .bool false], .int .i64 7]) ∧ Below w.heap.size w w' := by
  go_enter Tryz.func74, Tryz.ntmps74
  go_wp2_with fail
  refine bodyPost_ret (v := .tuple #[.agg #[.string ⟨#[]⟩, .int .i64 0, .bool false], .int .i64 7]) (by simp [results, Tryz.results74, go_sem]) rfl ⟨rfl, ?_⟩
  exact below_alloc (Below.refl _ _) _
/-- What 'has' tells, whoever asks: one term, so that each caller has one way. -/
def hasV (n : Nm) (L : List Rl) : Value := .tuple #[.agg #[.string (atL n L).s, .int .i64 (atL n L).p, .bool (atL n L).k], .int .i64 (if (lookL n L).isSome then 0 else 6)]
theorem chest_has_any {w : World} {g b : Nat} {r : Int} {L : List Rl} (hC : ChestAt w g b r L) (n : ByteArray) (hn : n.size ≤ 9223372036854775807) :
    Calls Tryz.prog 74 #[.pointer (some ⟨g, 0, none⟩), .string n] w fun e w' => e = .returned (.tuple #[.agg #[.string (atL n.data.toList L).s, .int .i64 (atL n.data.toList L).p, .bool (atL n.data.toList L).k], .int .i64 (if (lookL n.data.toList L).isSome then 0 else 6)]) ∧ Below w.heap.size w w' := by
  cases h : lookL n.data.toList L with
  | none =>
    have := has_no hC n hn h
    have e : atL n.data.toList L = zScr := by unfold atL; rw [h]; rfl
    rw [e]; exact this
  | some c =>
    have := has_yes hC n hn c h
    have e : atL n.data.toList L = c := by unfold atL; rw [h]; rfl
    rw [e]; exact this
set_option maxRecDepth 100000 in
theorem read_chest {w : World} {g b : Nat} {r : Int} {L : List Rl} (hC : ChestAt w g b r L) (n : ByteArray) (hn : n.size ≤ 9223372036854775807) :
    Calls Tryz.prog 50 #[.pointer (some ⟨g, 0, none⟩), .string n] w fun e w' => e = .returned (.tuple #[.string (atL n.data.toList L).s, .bool (lookL n.data.toList L).isSome]) ∧ Below w.heap.size w w' := by
  have HH := Lib.hid (chest_has_any hC n hn)
  clear hC
  obtain ⟨c, hc⟩ : ∃ c, atL n.data.toList L = c := ⟨_, rfl⟩
  obtain ⟨t, ht⟩ : ∃ t, (lookL n.data.toList L).isSome = t := ⟨_, rfl⟩
  rw [hc, ht] at HH ⊢
  clear hc ht
  cases t
  · go_enter Tryz.func50, Tryz.ntmps50
    go_wp2_with (go_at_call 74; refine HH.out.mono ?_; rintro e' w1 ⟨rfl, hb⟩; have HB := Lib.hid hb; clear hb)
    go_ret2
    exact ⟨rfl, below_alloc HB.out _⟩
  · go_enter Tryz.func50, Tryz.ntmps50
    go_wp2_with (go_at_call 74; refine HH.out.mono ?_; rintro e' w1 ⟨rfl, hb⟩; have HB := Lib.hid hb; clear hb)
    go_ret2
    exact ⟨rfl, below_alloc HB.out _⟩
set_option maxRecDepth 100000 in
theorem read_nil (n : ByteArray) (w : World) :
    Calls Tryz.prog 50 #[.pointer none, .string n] w fun e w' => e = .returned (.tuple #[.string ⟨#[]⟩, .bool false]) ∧ Below w.heap.size w w' := by
  have HH := Lib.hid (has_nil n w)
  go_enter Tryz.func50, Tryz.ntmps50
  go_wp2_with (go_at_call 74; refine HH.out.mono ?_; rintro e' w1 ⟨rfl, hb⟩; have HB := Lib.hid hb; clear hb)
  go_ret2
  exact ⟨rfl, below_alloc HB.out _⟩
set_option maxRecDepth 100000 in
theorem pressed_any {w : World} {g b : Nat} {r : Int} {L : List Rl} (hC : ChestAt w g b r L) (n : ByteArray) (hn : n.size ≤ 9223372036854775807) :
    Calls Tryz.prog 97 #[.pointer (some ⟨g, 0, none⟩), .string n] w fun e w' => e = .returned (.int .i64 (atL n.data.toList L).p) ∧ Below w.heap.size w w' := by
  have HH := Lib.hid (chest_has_any hC n hn)
  clear hC
  obtain ⟨c, hc⟩ : ∃ c, atL n.data.toList L = c := ⟨_, rfl⟩
  obtain ⟨t, ht⟩ : ∃ t, (if (lookL n.data.toList L).isSome then (0 : Int) else 6) = t := ⟨_, rfl⟩
  rw [hc, ht] at HH
  rw [hc]
  clear hc ht
  go_enter Tryz.func97, Tryz.ntmps97
  go_wp2_with (go_at_call 74; refine HH.out.mono ?_; rintro e' w1 ⟨rfl, hb⟩; have HB := Lib.hid hb; clear hb)
  go_ret
  exact ⟨rfl, below_alloc HB.out _⟩
set_option maxRecDepth 100000 in
theorem pressed_nil (n : ByteArray) (w : World) :
    Calls Tryz.prog 97 #[.pointer none, .string n] w fun e w' => e = .returned (.int .i64 0) ∧ Below w.heap.size w w' := by
  have HH := Lib.hid (has_nil n w)
  go_enter Tryz.func97, Tryz.ntmps97
  go_wp2_with (go_at_call 74; refine HH.out.mono ?_; rintro e' w1 ⟨rfl, hb⟩; have HB := Lib.hid hb; clear hb)
  go_ret
  exact ⟨rfl, below_alloc HB.out _⟩
set_option maxRecDepth 100000 in
theorem room_any {w : World} {g b : Nat} {r : Int} {L : List Rl} (hC : ChestAt w g b r L) :
    Calls Tryz.prog 98 #[.pointer (some ⟨g, 0, none⟩)] w fun e w' => e = .returned (.int .i64 r) ∧ Below w.heap.size w w' := by
  have c0 := hC.1
  clear hC
  go_enter Tryz.func98, Tryz.ntmps98
  go_wp2_with fail
  go_ret
  exact ⟨rfl, Below.refl _ _⟩
set_option maxRecDepth 100000 in
theorem room_nil (w : World) : Calls Tryz.prog 98 #[.pointer none] w fun e w' => e = .returned (.int .i64 0) ∧ Below w.heap.size w w' := by
  go_enter Tryz.func98, Tryz.ntmps98
  go_wp2_with fail
  go_ret
  exact ⟨rfl, Below.refl _ _⟩
end Go.Proofs.YthiphdcbboapkaaGreatDoor

/- ChiefLast, plain: the last one that has all never goes. ChiefLast: the walk. -/
import Derived.Test.YthiphdcbboapkaaGreatDoorH6
import Derived.Test.YthiphdcbboapkaaGreatDoorH7
import Derived.Test.YthiphdcbboapkaaGreatDoorF2
namespace Go.Proofs.YthiphdcbboapkaaGreatDoor
open Go.RowKit

/-- The first one stands ahead of at most one that has to learn. -/
def OneK (zs : List Int) (nw : Int) : Prop := (zs = [1] ∧ nw = 0) ∨ ∃ k, k ≠ 1 ∧ zs = [1, k] ∧ nw = k
structure LastI (S : St) : Prop where
  r : OneK S.zs S.nw
  n : 0 < S.e2 → OneK S.zs2 S.nw2
theorem mute_mem {zs : List Int} {hd : Int → Int} {now : Int} (h : 0 < muteL zs hd now) : muteL zs hd now ∈ zs := by
  induction zs with
  | nil => exact absurd h (by show ¬ (0 : Int) < 0; omega)
  | cons x r ih =>
    have e : muteL (x :: r) hd now = if 9 < now - hd x then x else muteL r hd now := rfl
    rw [e] at h ⊢
    split
    · simp
    · rename_i hc
      rw [if_neg hc] at h
      exact List.mem_cons_of_mem _ (ih h)
theorem idx_first (k : Int) : idx [1, k] 1 = 0 := by unfold idx idxFrom; rfl
theorem idx_second {k : Int} (h : k ≠ 1) : idx [1, k] k = 1 := by
  have h1 : ¬ (1 : Int) = k := fun e => h e.symm
  simp [idx, idxFrom, nthI, h1]
theorem OneK_drop {e nw n : Int} {zs : List Int} (h : OneK zs nw) (hm : mayB e zs nw = true) (hn : n ∈ zs) (ho : (dropF e zs nw n).2.2.2 = true) : OneK (dropF e zs nw n).2.1 (dropF e zs nw n).2.2.1 := by
  have h0 := dropF_may ho
  rcases h with ⟨rfl, rfl⟩ | ⟨k, hk, rfl, rfl⟩
  · obtain rfl : n = 1 := by simpa using hn
    exfalso
    unfold dropF at ho
    split at ho
    · rename_i h1
      have := (mayB_mayL h1.2.2).2.1
      simp [idx, idxFrom, nthI] at this
    · cases ho
  · simp only [List.mem_cons, List.mem_nil_iff, or_false] at hn
    rcases hn with rfl | rfl
    · exfalso
      unfold dropF at ho
      split at ho
      · rename_i h1
        have h2 := h1.2.2
        rw [idx_first] at h2
        have h3 : newD nw 1 = nw := by unfold newD; rw [if_neg hk]
        rw [h3] at h2
        obtain ⟨-, -, -, -, hmem, -⟩ := mayB_ok hm
        have h4 := (hmem nw (by simp)).1
        have h5 := (mayB_iff.1 h2).2.2.2
        unfold newB at h5
        simp at h5
        omega
      · cases ho
    · unfold dropF at ho ⊢
      split at ho
      · rename_i h1
        rw [if_pos h1]
        left
        rw [idx_second hk]
        exact ⟨rfl, by unfold newD; rw [if_pos rfl]⟩
      · cases ho
theorem OneK_add {e nw a : Int} {zs : List Int} (h : OneK zs nw) (hm : mayB e zs nw = true) (ho : (addF e zs nw a).2.2.2 = true) : OneK (addF e zs nw a).2.1 (addF e zs nw a).2.2.1 := by
  unfold addF at ho ⊢
  split at ho
  · rename_i h1
    rw [if_pos h1]
    rcases h with ⟨rfl, rfl⟩ | ⟨k, hk, rfl, rfl⟩
    · right
      have h2 := (mayB_mayL h1.2.2).1
      have h3 := (mayL_add.1 h2).2.2.2
      exact ⟨a, by simpa using h3, rfl, rfl⟩
    · exfalso
      obtain ⟨-, -, -, -, hmem, -⟩ := mayB_ok hm
      have h4 := (hmem nw (by simp)).1
      have := h1.2.1
      omega
  · cases ho
theorem LastI.tick {S : St} {T now : Int} (h : LastI S) (hok : OkS S T) : LastI (tickS S now) := by
  unfold tickS
  split
  · rename_i h0
    split
    · exact ⟨h.n h0, fun h1 => absurd h1 (by show ¬ (0 : Int) < 0; omega)⟩
    · exact h
  · rename_i h0
    split
    · rename_i h1
      unfold nextS
      split
      · rename_i h2
        exact ⟨h.r, fun _ => OneK_drop h.r hok.may (mute_mem h1) h2⟩
      · exact ⟨h.r, fun h3 => absurd h3 h0⟩
    · split
      · unfold nextS
        split
        · rename_i h2
          exact ⟨h.r, fun _ => OneK_add h.r hok.may h2⟩
        · exact ⟨h.r, fun h3 => absurd h3 h0⟩
      · exact ⟨h.r, fun h3 => absurd h3 h0⟩
theorem LastI.step {S : St} {fr ep now : Int} (h : LastI S) : LastI (stepS S 1 fr 0 ep now) := by
  have hb : LastI (beatS S fr now) := by
    unfold beatS; split <;> exact ⟨h.r, h.n⟩
  unfold stepS
  split
  · exact h
  · rw [if_pos rfl]
    split
    · exact ⟨h.r, h.n⟩
    · exact hb
theorem LastI.first {S : St} (h : LastI S) : idx S.zs 1 = 0 := by
  rcases h.r with ⟨h1, _⟩ | ⟨k, _, h1, _⟩
  · rw [h1]; decide
  · rw [h1]; exact idx_first k
theorem last_new : LastI (newS 1 [1] 0) := ⟨Or.inl ⟨rfl, rfl⟩, fun h => absurd h (by decide)⟩
end Go.Proofs.YthiphdcbboapkaaGreatDoor
namespace Go.Proofs.YthiphdcbboapkaaGreatDoor
open Go.RowKit Go.Maps

set_option maxRecDepth 100000
theorem below_setCells {B g : Nat} {a : World} : ∀ (vs : List Value) (o : Nat) (w : World), Below B a w → B ≤ g → Below B a (w.setCells g o vs)
  | [], _, _, h, _ => h
  | v :: r, o, w, h, hg => below_setCells r (o + 1) (w.setCell ⟨g, o, none⟩ v) (h.setCell (p := ⟨g, o, none⟩) hg v) hg
theorem there_new (w : World) (cs : Array Value) (ty : TypeId) {n : Nat} (h : cs.size = n) : (w.alloc (.cells cs ty)).there w.heap.size 0 n := fun j hj => by
  subst h
  rw [Nat.zero_add, World.cell?_alloc_new]
  exact ⟨by simp [hj], World.frozen?_alloc_new _ _ _ _⟩
theorem cop_len (o : COp) : o.cells.length = 25 := rfl
theorem cop_one (o : COp) : ∀ v ∈ o.cells, v.oneCell' = true := fun v hv => by
  simp only [COp.cells, wordC, List.mem_cons, List.mem_nil_iff, or_false] at hv
  rcases hv with rfl | rfl | rfl | rfl | rfl | rfl | rfl | rfl | rfl | rfl | rfl | rfl | rfl | rfl | rfl | rfl | rfl | rfl | rfl | rfl | rfl | rfl | rfl | rfl | rfl <;> rfl
theorem op_made {w : World} {zs : Array Value} {ty : TypeId} (o : COp) (hz : zs.size = 25) : Below w.heap.size w ((w.alloc (.cells zs ty)).setCells w.heap.size 0 o.cells) ∧ ((w.alloc (.cells zs ty)).setCells w.heap.size 0 o.cells).rangeAt w.heap.size 0 o.cells :=
  ⟨below_setCells _ _ _ (below_alloc (Below.refl _ _) _) (Nat.le_refl _), World.rangeAt_setCells_same _ _ _ _ (there_new w zs ty hz)⟩
theorem opI : (Tryz.prog.info? 48).map (·.size) = some 25 := by kernel_rfl
/-- One of five. -/
theorem five (n : Int) : ∃ d j : Int, n.tmod 5 = d ∧ (d + 5).tmod 5 = j ∧ (d + 5) % 5 = j ∧ d % 5 = j ∧ -5 < d ∧ d < 5 ∧ 0 ≤ j ∧ j ≤ 4 := by
  obtain ⟨d, hd⟩ : ∃ d, n.tmod 5 = d := ⟨_, rfl⟩
  have h1 : d < 5 := by rw [← hd]; exact Int.tmod_lt_of_pos _ (by omega)
  have h2 : -5 < d := by rw [← hd]; have := Int.tmod_lt_of_pos (-n) (show (0 : Int) < 5 by omega); rw [Int.neg_tmod] at this; omega
  have h3 : (d + 5).tmod 5 = (d + 5) % 5 := Int.tmod_eq_emod_of_nonneg (by omega)
  exact ⟨d, (d + 5) % 5, hd, h3, rfl, by omega, h2, h1, by omega, by omega⟩
theorem six (n : Int) : ∃ d j : Int, n.tmod 6 = d ∧ (d + 6).tmod 6 = j ∧ (d + 6) % 6 = j ∧ d % 6 = j ∧ -6 < d ∧ d < 6 ∧ 0 ≤ j ∧ j ≤ 5 := by
  obtain ⟨d, hd⟩ : ∃ d, n.tmod 6 = d := ⟨_, rfl⟩
  have h1 : d < 6 := by rw [← hd]; exact Int.tmod_lt_of_pos _ (by omega)
  have h2 : -6 < d := by rw [← hd]; have := Int.tmod_lt_of_pos (-n) (show (0 : Int) < 6 by omega); rw [Int.neg_tmod] at this; omega
  have h3 : (d + 6).tmod 6 = (d + 6) % 6 := Int.tmod_eq_emod_of_nonneg (by omega)
  exact ⟨d, (d + 6) % 6, hd, h3, rfl, by omega, h2, h1, by omega, by omega⟩
/-- What holds behind so many operations. -/
structure LstW (w wr : World) (x : Nat) (k : Nat) (t : Int) (S : St) (f : Ft) : Prop where
  ch : CH w wr x S f
  ok : OkS S t
  la : LastI S
  kk : S.k ≤ k + 1
  mm : S.m ≤ k + 5
  t0 : 0 ≤ t
  t1 : t ≤ 5 * (k : Int)
set_option maxHeartbeats 12800000 in
theorem chiefLast_walk (a : Option Addr) (c : Nat) (L : List COp) (w : World) (hz : RowsAt w a 25 (L.map COp.cells)) (_ : L.length ≤ 9223372036854775807) (LA : Laid w) : Calls Tryz.prog 6 #[.slice a L.length c] w fun e w' => e = .returned (.bool true) ∧ Below w.heap.size w w' := by
  have HL := Lib.hid LA
  have HZ := Lib.hid hz
  clear LA hz
  go_enter Tryz.func6, Tryz.ntmps6
  go_wp2_with fail
  refine (begun10_any _ HL.out).mono ?_
  rintro e w1 ⟨rfl, hb⟩
  have HB1 := Lib.hid hb
  clear hb
  go_wp2_with fail
  refine (new_S (w0 := w) HB1.out 1048576 1048576 (by decide)).mono ?_
  rintro e w2 ⟨g, b, rfl, hs, -, -, -⟩
  have HCs := Lib.hid hs
  clear hs
  go_wp2_with fail
  have hb3 := below_alloc (Below.refl w2.heap.size w2) (.cells #[.int .i64 1] 3)
  refine (chopen_is HL.out (HCs.out.low hb3) (zs := [1]) (n := 1) rfl (e := 1) (by decide) (ints_litW w2 [1] 3) (fun q hq => by
    have h1 := HCs.out.1.ltg
    have h2 := HCs.out.1.ltb
    simp [rowB] at hq
    omega) (now := 0) (fitI_of (by omega))).mono ?_
  rintro e w3 ⟨x, f, rfl, hc, -⟩
  have HI : Hid (LstW w w3 x 0 0 (newS 1 [1] 0) f) := Lib.hid ⟨hc, newS_ok (by decide) (by decide), last_new, by decide, by decide, by decide, by decide⟩
  clear hc hb3 HCs HB1
  go_wp2_with fail
  go_loopw [6, 7] (fun n6 n7 wr => ∃ (k : Nat) (t : Int) (S : St) (f : Ft), n6 = .int .i64 t ∧ n7 = .int .i64 (k : Int) ∧ k ≤ L.length ∧ k ≤ 60 ∧ LstW w wr x k t S f) (fun _ n7 _ => 61 - (intOf n7).toNat)
  case atStart => exact ⟨0, 0, _, f, rfl, rfl, Nat.zero_le _, by decide, HI.out⟩
  case round =>
    obtain ⟨k, t, S, f2, rfl, rfl, hk, hk60, hi⟩ := hrel
    have HI2 := Lib.hid hi
    clear hi HI
    by_cases hlt : k < L.length ∧ k < 60
    · obtain ⟨hlt, h60⟩ := hlt
      have p1 : decide ((k : Int) < (L.length : Int)) = true := decide_eq_true (by omega)
      have p2 : decide ((k : Int) < 60) = true := decide_eq_true (by omega)
      rcases HZ.out with h | ⟨q, o, rfl, hq, hcs⟩
      · exfalso; have : L = [] := by simpa using h
        rw [this] at hlt; simp at hlt
      obtain ⟨op, hop⟩ : ∃ op, L[k]? = some op := ⟨_, List.getElem?_eq_getElem hlt⟩
      have hr0 : w.rangeAt q (o + k * 25) op.cells := fun j v hv => hcs k _ (by rw [List.getElem?_map, hop]; rfl) j v hv
      have hr1 : wr.rangeAt q (o + k * 25) op.cells := fun j v hv => cell_keep HI2.out.ch.below (hr0 j v hv)
      have HRng := Lib.hid hr1
      have HOne := Lib.hid (all_oneCell_toArray (cop_one op))
      clear hr0 hr1 hcs hop hq
      go_upto_region 12 with (first
        | (refine wpList_load_mid rfl 48 _ rfl q (o + k * 25) rfl op.cells _ HRng.out Tryz.underlying48 rfl opI ?_)
        | (refine wpList_store_mid rfl 48 _ _ rfl _ 0 op.cells.toArray rfl rfl (there_new _ _ _ rfl) opI HOne.out ?_))
      obtain ⟨hbW, hrW⟩ := op_made (w := wr) (zs := #[.int .i64 0, .int .i64 0, .int .i64 0, .bool false, .int .i64 0, .int .i64 0, .int .i64 0, .int .i64 0, .int .i64 0, .int .i64 0, .int .i64 0, .int .i64 0, .int .i64 0, .int .i64 0, .slice none 0 0, .int .i64 0, .slice none 0 0, .int .i64 0, .slice none 0 0, .slice none 0 0, .int .i64 0, .int .i64 0, .int .i64 0, .int .i64 0, .int .i64 0]) (ty := 48) op rfl
      have HC1 := Lib.hid (HI2.out.ch.low hbW)
      have k0 := hrW 0 _ rfl
      have k1 := hrW 1 _ rfl
      have k2 := hrW 2 _ rfl
      rw [Nat.zero_add] at k0 k1 k2
      change _ = some (Value.int .i64 op.kind) at k0
      change _ = some (Value.int .i64 op.n) at k1
      change _ = some (Value.int .i64 op.fr) at k2
      clear hbW hrW HRng HOne
      generalize World.setCells (wr.alloc _) wr.heap.size 0 op.cells = W1 at HC1 k0 k1 k2 ⊢
      generalize wr.heap.size = qb at k0 k1 k2 ⊢
      have hwk : IntKind.i64.wrap ((k : Int) + 1) = (k : Int) + 1 := IntWalk.i64_in _ (by omega)
      have hT0 := HI2.out.t0
      have hT1 := HI2.out.t1
      by_cases h3 : op.kind < 3
      case' pos =>
        have p3 : decide (op.kind < 3) = true := decide_eq_true h3
        obtain ⟨d, j, m1, m2, m3, m4, m5, m6, m7, m8⟩ := five op.fr
        have n1 : IntKind.i64.wrap (d + 5) = d + 5 := IntWalk.i64_in _ (by omega)
        have n2 : IntKind.i64.wrap (1 + j) = 1 + j := IntWalk.i64_in _ (by omega)
        have n3 : IntKind.i64.wrap d = d := IntWalk.i64_in _ (by omega)
        have n4 : IntKind.i64.wrap j = j := IntWalk.i64_in _ (by omega)
        have HSt := Lib.hid (step_any HL.out HC1.out HI2.out.ok (by omega) (by have := HI2.out.kk; omega) (by have := HI2.out.mm; omega) (wd 1 (1 + j) 0) (now := t) ⟨hT0, Int.le_refl _⟩)
        clear h3
        go_wp2_with (go_at_call 18; refine HSt.out.mono ?_; rintro e' w6 ⟨v6, f6, rfl, hp6, -, -⟩; obtain ⟨S6, hS6⟩ : ∃ S6, stepS S (wd 1 (1 + j) 0).kind (wd 1 (1 + j) 0).fr (wd 1 (1 + j) 0).tt (wd 1 (1 + j) 0).ep t = S6 := ⟨_, rfl⟩; have HN : Hid (LstW w w6 x (k + 1) t S6 f6) := Lib.hid (by rw [← hS6]; have hk6 := stepS_k S 1 (1 + j) 0 0 t; have h6 := hk6.2.2 (by decide); have h7 := HI2.out.kk; have h8 := HI2.out.mm; exact ⟨hp6.ch, stepS_ok HI2.out.ok ⟨hT0, Int.le_refl _⟩, HI2.out.la.step, (by show (stepS S 1 (1 + j) 0 0 t).k ≤ k + 1 + 1; omega), (by show (stepS S 1 (1 + j) 0 0 t).m ≤ k + 1 + 5; omega), hT0, by omega⟩); clear hp6 hS6)
      case' neg =>
        have p3 : decide (op.kind < 3) = false := decide_eq_false h3
        obtain ⟨d, j, m1, m2, m3, m4, m5, m6, m7, m8⟩ := six op.n
        have n1 : IntKind.i64.wrap (d + 6) = d + 6 := IntWalk.i64_in _ (by omega)
        have n2 : IntKind.i64.wrap (t + j) = t + j := IntWalk.i64_in _ (by omega)
        have n3 : IntKind.i64.wrap d = d := IntWalk.i64_in _ (by omega)
        have n4 : IntKind.i64.wrap j = j := IntWalk.i64_in _ (by omega)
        have HTk := Lib.hid (tick_any HL.out HC1.out (HI2.out.ok.mono (show t ≤ t + j by omega)) (by omega) (by have := HI2.out.kk; omega) (now := t + j) ⟨by omega, Int.le_refl _⟩)
        clear h3
        go_wp2_with (go_at_call 20; refine HTk.out.mono ?_; rintro e' w6 ⟨rfl, f6, hp6, -⟩; obtain ⟨S6, hS6⟩ : ∃ S6, tickS S (t + j) = S6 := ⟨_, rfl⟩; have HN : Hid (LstW w w6 x (k + 1) (t + j) S6 f6) := Lib.hid (by rw [← hS6]; have hk6 := tickS_k S (t + j); have h7 := HI2.out.kk; have h8 := HI2.out.mm; have h9 := lo_k HI2.out.ok; exact ⟨hp6.ch, tickS_ok (HI2.out.ok.mono (by omega)) ⟨by omega, Int.le_refl _⟩, HI2.out.la.tick HI2.out.ok, by omega, by omega, by omega, by omega⟩); clear hp6 hS6)
      all_goals
        have hl6 : S6.zs.length ≤ 5 := (mayB_mayL HN.out.ok.may).2.2
        have HF6 := Lib.hid HN.out.la.first
        have HM6 := Lib.hid HN.out.ok.may
        refine (chroster_is HN.out.ch rfl rfl rfl rfl hl6).mono ?_
        rintro e7 w7 ⟨ra, rc, rfl, hown, hb7⟩
        have hb8 := below_alloc (Below.refl w7.heap.size w7) (.cells #[.int .i64 S6.e, .slice ra S6.zs.length rc, .int .i64 S6.nw] 24)
        have HX8 := Lib.hid (B3.new w7 (.int .i64 S6.e) (.slice ra S6.zs.length rc) (.int .i64 S6.nw) 24)
        have HZ8 : Hid (IntsAt _ ra S6.zs) := Lib.hid ((own_ints hown).keep hb8)
        have HC8 := Lib.hid ((HN.out.ch.low hb7).low hb8)
        clear hown hb7 hb8 HC1 k0 k1 k2
        go_upto_region 17 with fail
        generalize w7.alloc (.cells #[.int .i64 S6.e, .slice ra S6.zs.length rc, .int .i64 S6.nw] 24) = W8 at HX8 HZ8 HC8 ⊢
        generalize w7.heap.size = r8 at HX8 ⊢
        obtain ⟨y0, y1, y2, -⟩ := HX8.out
        go_wp2_with (first
          | (go_at_call 28; refine (spot_any S6.e S6.nw 1 ra rc S6.zs _ (by omega) HZ8.out).mono ?_; rw [HF6.out]; rintro e' w' ⟨rfl, hb⟩; have HX9 := Lib.hid (HX8.out.keep hb); have HZ9 := Lib.hid (HZ8.out.keep hb); have HC9 := Lib.hid (HC8.out.low hb); clear hb y0 y1 y2; obtain ⟨y0, y1, y2, -⟩ := HX9.out)
          | (go_at_call 29; refine (mayRoster_any S6.e S6.nw ra rc S6.zs _ (by omega) HZ9.out).mono ?_; rw [HM6.out]; rintro e' w' ⟨rfl, hb⟩; have HC10 := Lib.hid (HC9.out.low hb); clear hb))
        go_roundw
        case rel => exact ⟨k + 1, _, S6, f6, rfl, by go_num, by omega, by omega, HC10.out, HN.out.ok, HN.out.la, HN.out.kk, HN.out.mm, HN.out.t0, HN.out.t1⟩
        case measure => simp [intOf]; omega
    · by_cases h1 : k < L.length
      · have p1 : decide ((k : Int) < (L.length : Int)) = true := decide_eq_true (by omega)
        have p2 : decide ((k : Int) < 60) = false := decide_eq_false (by omega)
        clear hlt
        go_wp2_with fail
        go_ret
        exact ⟨rfl, HI2.out.ch.below⟩
      · have p1 : decide ((k : Int) < (L.length : Int)) = false := decide_eq_false (by omega)
        clear hlt
        go_wp2_with fail
        go_ret
        exact ⟨rfl, HI2.out.ch.below⟩
end Go.Proofs.YthiphdcbboapkaaGreatDoor

/- ChiefLeases: the walk. -/
import Derived.Test.YthiphdcbboapkaaGreatDoorH8
import Derived.Deep.CutBlock
import Derived.Deep.CutRange
import Derived.Laws.IdiomCopy
namespace Go.Proofs.YthiphdcbboapkaaGreatDoor
open Go.RowKit Go.Maps

set_option maxRecDepth 100000
theorem beatS_un (S : St) (n now : Int) : S.un ≤ (beatS S n now).un ∧ (beatS S n now).e = S.e := by unfold beatS; split <;> exact ⟨by simp only; omega, rfl⟩
theorem stepS_un (S : St) (kind fr tt ep now : Int) : S.un ≤ (stepS S kind fr tt ep now).un ∧ (stepS S kind fr tt ep now).e = S.e := by
  have hb := beatS_un S fr now
  unfold stepS
  split
  · exact ⟨Int.le_refl _, rfl⟩
  · split
    · split
      · exact ⟨Int.le_refl _, rfl⟩
      · exact hb
    · split <;> exact ⟨Int.le_refl _, rfl⟩
theorem nextS_un (S : St) (r : Int × List Int × Int × Bool) : (nextS S r).un = S.un ∧ (nextS S r).e = S.e := by unfold nextS; split <;> exact ⟨rfl, rfl⟩
theorem tickS_un {S : St} {T now : Int} (h : OkS S T) : (tickS S now).un = S.un ∧ ((tickS S now).e = S.e ∨ (tickS S now).e = S.e + 1 ∧ S.un < now) := by
  unfold tickS
  split
  · rename_i h0
    split
    · rename_i h1
      refine ⟨rfl, Or.inr ⟨?_, h1⟩⟩
      show S.e2 = S.e + 1
      rcases h.nx with h2 | h2
      · omega
      · exact h2.2.2.1
    · exact ⟨rfl, Or.inl rfl⟩
  · split
    · exact ⟨(nextS_un _ _).1, Or.inl (nextS_un _ _).2⟩
    · split
      · exact ⟨(nextS_un _ _).1, Or.inl (nextS_un _ _).2⟩
      · exact ⟨rfl, Or.inl rfl⟩
theorem three (n : Int) : ∃ d j : Int, n.tmod 3 = d ∧ (d + 3).tmod 3 = j ∧ (d + 3) % 3 = j ∧ d % 3 = j ∧ -3 < d ∧ d < 3 ∧ 0 ≤ j ∧ j ≤ 2 := by
  obtain ⟨d, hd⟩ : ∃ d, n.tmod 3 = d := ⟨_, rfl⟩
  have h1 : d < 3 := by rw [← hd]; exact Int.tmod_lt_of_pos _ (by omega)
  have h2 : -3 < d := by rw [← hd]; have := Int.tmod_lt_of_pos (-n) (show (0 : Int) < 3 by omega); rw [Int.neg_tmod] at this; omega
  have h3 : (d + 3).tmod 3 = (d + 3) % 3 := Int.tmod_eq_emod_of_nonneg (by omega)
  exact ⟨d, (d + 3) % 3, hd, h3, rfl, by omega, h2, h1, by omega, by omega⟩
structure LsW (w wr : World) (x : Nat) (k : Nat) (t u : Int) (S : St) (f : Ft) : Prop where
  ch : CH w wr x S f
  ok : OkS S t
  kk : S.k ≤ k + 1
  mm : S.m ≤ k + 5
  t0 : 0 ≤ t
  t1 : t ≤ 2 * (k : Int)
  u0 : 0 ≤ u
  u1 : u ≤ S.un
theorem WAll.set0 {w : World} {q : Nat} {ep j K : Int} (h : WAll w q (wd K (1 + j) ep)) (K' : Int) : WAll (w.setCell ⟨q, 0, none⟩ (.int .i64 K')) q (wd K' (1 + j) ep) := ⟨fun i v hv => by
  match i with
  | 0 =>
    have e : v = .int .i64 K' := (Option.some.inj hv).symm
    subst e
    exact World.cell?_setCell_same _ _ _ (h.cs 0 _ rfl)
  | i + 1 =>
    rw [World.cell?_setCell_other _ _ _ _ (fun e => by injection e with h1 h2; omega)]
    refine h.cs (i + 1) v ?_
    rw [← hv]
    simp [wordC, wd]⟩
/-- The word that the law makes. -/
abbrev lw (K j ep : Int) : Wd := wd K (1 + j) ep
theorem lease_one {fr e un : Int} {a : Option Addr} {n c : Nat} {nw : Int} : ∀ v ∈ (leaseA fr e a n c nw un).toList, v.oneCell' = true := fun v hv => by
  simp only [leaseA, List.mem_cons, List.mem_nil_iff, or_false] at hv
  rcases hv with rfl | rfl | rfl | rfl | rfl | rfl | rfl | rfl | rfl | rfl | rfl | rfl | rfl | rfl | rfl | rfl | rfl | rfl | rfl | rfl | rfl <;> rfl
theorem LeaseAt.rng {w : World} {q : Nat} {fr e : Int} {zs : List Int} {nw un : Int} {a : Option Addr} {c : Nat} (h : LeaseAt w q fr e zs nw un a c) : w.rangeAt q 0 (leaseA fr e a zs.length c nw un).toList := fun j v hv => by rw [Nat.zero_add]; exact h.cs j v (by simpa using hv)
theorem lease_made {w : World} {zs : Array Value} {ty : TypeId} {fr e un : Int} {a : Option Addr} {n c : Nat} {nw : Int} (hz : zs.size = 21) : Below w.heap.size w ((w.alloc (.cells zs ty)).setCells w.heap.size 0 (leaseA fr e a n c nw un).toList) ∧ ((w.alloc (.cells zs ty)).setCells w.heap.size 0 (leaseA fr e a n c nw un).toList).rangeAt w.heap.size 0 (leaseA fr e a n c nw un).toList :=
  ⟨below_setCells _ _ _ (below_alloc (Below.refl _ _) _) (Nat.le_refl _), World.rangeAt_setCells_same _ _ _ _ (there_new w zs ty hz)⟩
/-- A lease's cells in a row. -/
def leaseL (fr e : Int) (a : Option Addr) (n c : Nat) (nw un : Int) : List Value := (leaseA fr e a n c nw un).toList
theorem lease_oneL {fr e un : Int} {a : Option Addr} {n c : Nat} {nw : Int} : ((leaseL fr e a n c nw un).toArray.all fun v => v.oneCell') = true := all_oneCell_toArray lease_one
theorem lease_rngL {w : World} {q : Nat} {fr e : Int} {zs : List Int} {nw un : Int} {a : Option Addr} {c : Nat} (h : LeaseAt w q fr e zs nw un a c) : w.rangeAt q 0 (leaseL fr e a zs.length c nw un) := h.rng
theorem lease_madeL {w : World} {zs : Array Value} {ty : TypeId} {fr e un : Int} {a : Option Addr} {n c : Nat} {nw : Int} (hz : zs.size = 21) : Below w.heap.size w ((w.alloc (.cells zs ty)).setCells w.heap.size 0 (leaseL fr e a n c nw un)) ∧ ((w.alloc (.cells zs ty)).setCells w.heap.size 0 (leaseL fr e a n c nw un)).rangeAt w.heap.size 0 (leaseL fr e a n c nw un) := lease_made hz
theorem stepS_lease (S : St) (fr ep now : Int) (hl : leaseB S 1 fr 0 = true) : now + 6 ≤ (stepS S 1 fr 0 ep now).un := by
  unfold leaseB at hl
  have h := of_decide_eq_true hl
  unfold stepS
  rw [if_neg (by omega), if_pos rfl, if_neg (by omega)]
  unfold beatS
  rw [if_neg h.2.2.2.2.2]
  show now + 6 ≤ max S.un (now + 6)
  omega
theorem word_rng {w : World} {zs : Array Value} {ty : TypeId} {W : Wd} (hz : zs.size = 21) : ((w.alloc (.cells zs ty)).setCells w.heap.size 0 (wordC W).toList).rangeAt w.heap.size 0 (wordC W).toList := World.rangeAt_setCells_same _ _ _ _ (there_new w zs ty hz)
/-- A word in a block that was made for it. -/
theorem word_made {w : World} {zs : Array Value} {ty : TypeId} {W : Wd} (hz : zs.size = 21) : Below w.heap.size w ((w.alloc (.cells zs ty)).setCells w.heap.size 0 (wordC W).toList) ∧ WAll ((w.alloc (.cells zs ty)).setCells w.heap.size 0 (wordC W).toList) w.heap.size W ∧ ((w.alloc (.cells zs ty)).setCells w.heap.size 0 (wordC W).toList).frozen? ⟨w.heap.size, 0, none⟩ = false :=
  ⟨below_setCells _ _ _ (below_alloc (Below.refl _ _) _) (Nat.le_refl _), ⟨fun i v hv => by
    have h := word_rng (w := w) (ty := ty) (W := W) hz i v (by simpa using hv)
    rwa [Nat.zero_add] at h⟩, (World.frozen?_setCells _ _ _ _ _).trans (World.frozen?_alloc_new _ _ _ _)⟩
theorem word_oneL {kind fr ep : Int} : ∀ v ∈ (wordC (wd kind fr ep)).toList, v.oneCell' = true := fun v hv => by
  simp only [wordC, wd, List.mem_cons, List.mem_nil_iff, or_false] at hv
  rcases hv with rfl | rfl | rfl | rfl | rfl | rfl | rfl | rfl | rfl | rfl | rfl | rfl | rfl | rfl | rfl | rfl | rfl | rfl | rfl | rfl | rfl <;> rfl
theorem word_one {kind fr ep : Int} : ((wordC (wd kind fr ep)).all fun v => v.oneCell') = true := all_oneCell_toArray word_oneL
set_option maxHeartbeats 25600000 in
theorem chiefLeases_walk (a : Option Addr) (c : Nat) (L : List COp) (w : World) (hz : RowsAt w a 25 (L.map COp.cells)) (_ : L.length ≤ 9223372036854775807) (LA : Laid w) : Calls Tryz.prog 4 #[.slice a L.length c] w fun e w' => e = .returned (.bool true) ∧ Below w.heap.size w w' := by
  have HL := Lib.hid LA
  have HZ := Lib.hid hz
  clear LA hz
  go_enter Tryz.func4, Tryz.ntmps4
  go_wp2_with fail
  refine (begun10_any _ HL.out).mono ?_
  rintro e w1 ⟨rfl, hb⟩
  have HB1 := Lib.hid hb
  clear hb
  go_wp2_with fail
  refine (new_S (w0 := w) HB1.out 1048576 1048576 (by decide)).mono ?_
  rintro e w2 ⟨g, b, rfl, hs, -, -, -⟩
  have HCs := Lib.hid hs
  clear hs
  go_wp2_with fail
  have hb3 := below_alloc (Below.refl w2.heap.size w2) (.cells #[.int .i64 1, .int .i64 2, .int .i64 3] 3)
  refine (chopen_is HL.out (HCs.out.low hb3) (zs := [1, 2, 3]) (n := 3) rfl (e := 1) (by decide) (ints_litW w2 [1, 2, 3] 3) (fun q hq => by
    have h1 := HCs.out.1.ltg
    have h2 := HCs.out.1.ltb
    simp [rowB] at hq
    omega) (now := 0) (fitI_of (by omega))).mono ?_
  rintro e w3 ⟨x, f, rfl, hc, -⟩
  have HI : Hid (LsW w w3 x 0 0 0 (newS 1 [1, 2, 3] 0) f) := Lib.hid ⟨hc, newS_ok (by decide) (by decide), by decide, by decide, by decide, by decide, by decide, by decide⟩
  clear hc hb3 HCs HB1
  go_wp2_with fail
  go_loopw [5, 8, 9, 10] (fun n5 n8 n9 n10 wr => ∃ (k : Nat) (t u : Int) (S : St) (f : Ft), n5 = .int .i64 t ∧ n8 = .int .i64 u ∧ n9 = .int .i64 S.e ∧ n10 = .int .i64 (k : Int) ∧ k ≤ L.length ∧ k ≤ 80 ∧ LsW w wr x k t u S f) (fun _ _ _ n10 _ => 81 - (intOf n10).toNat)
  case atStart => exact ⟨0, 0, 0, _, f, rfl, rfl, rfl, rfl, Nat.zero_le _, by decide, HI.out⟩
  case round =>
    obtain ⟨k, t, u, S, f2, rfl, rfl, rfl, rfl, hk, hk60, hi⟩ := hrel
    have HI2 := Lib.hid hi
    clear hi HI
    by_cases hlt : k < L.length ∧ k < 80
    · obtain ⟨hlt, h60⟩ := hlt
      have p1 : decide ((k : Int) < (L.length : Int)) = true := decide_eq_true (by omega)
      have p2 : decide ((k : Int) < 80) = true := decide_eq_true (by omega)
      rcases HZ.out with h | ⟨q, o, rfl, hq, hcs⟩
      · exfalso; have : L = [] := by simpa using h
        rw [this] at hlt; simp at hlt
      obtain ⟨op, hop⟩ : ∃ op, L[k]? = some op := ⟨_, List.getElem?_eq_getElem hlt⟩
      have hr0 : w.rangeAt q (o + k * 25) op.cells := fun j v hv => hcs k _ (by rw [List.getElem?_map, hop]; rfl) j v hv
      have hr1 : wr.rangeAt q (o + k * 25) op.cells := fun j v hv => cell_keep HI2.out.ch.below (hr0 j v hv)
      have HRng := Lib.hid hr1
      have HOne := Lib.hid (all_oneCell_toArray (cop_one op))
      clear hr0 hr1 hcs hop hq
      go_upto_region 14 with (first
        | (refine wpList_load_mid rfl 48 _ rfl q (o + k * 25) rfl op.cells _ HRng.out Tryz.underlying48 rfl opI ?_)
        | (refine wpList_store_mid rfl 48 _ _ rfl _ 0 op.cells.toArray rfl rfl (there_new _ _ _ rfl) opI HOne.out ?_))
      obtain ⟨hbW, hrW⟩ := op_made (w := wr) (zs := #[.int .i64 0, .int .i64 0, .int .i64 0, .bool false, .int .i64 0, .int .i64 0, .int .i64 0, .int .i64 0, .int .i64 0, .int .i64 0, .int .i64 0, .int .i64 0, .int .i64 0, .int .i64 0, .slice none 0 0, .int .i64 0, .slice none 0 0, .int .i64 0, .slice none 0 0, .slice none 0 0, .int .i64 0, .int .i64 0, .int .i64 0, .int .i64 0, .int .i64 0]) (ty := 48) op rfl
      have HC1 := Lib.hid (HI2.out.ch.low hbW)
      have k0 := hrW 0 _ rfl
      have k1 := hrW 1 _ rfl
      have k2 := hrW 2 _ rfl
      rw [Nat.zero_add] at k0 k1 k2
      change _ = some (Value.int .i64 op.kind) at k0
      change _ = some (Value.int .i64 op.n) at k1
      change _ = some (Value.int .i64 op.fr) at k2
      clear hbW hrW HRng HOne
      generalize World.setCells (wr.alloc _) wr.heap.size 0 op.cells = W1 at HC1 k0 k1 k2 ⊢
      generalize wr.heap.size = qb at k0 k1 k2 ⊢
      have hwk : IntKind.i64.wrap ((k : Int) + 1) = (k : Int) + 1 := IntWalk.i64_in _ (by omega)
      have hT0 := HI2.out.t0
      have hT1 := HI2.out.t1
      have hkd : (op.kind = 0 ∨ op.kind = 2) ∨ op.kind = 1 ∨ ((op.kind == 0) = false ∧ (op.kind == 1) = false ∧ (op.kind == 2) = false) := by
        by_cases a1 : op.kind = 0
        · exact Or.inl (Or.inl a1)
        · by_cases a2 : op.kind = 2
          · exact Or.inl (Or.inr a2)
          · by_cases a3 : op.kind = 1
            · exact Or.inr (Or.inl a3)
            · exact Or.inr (Or.inr ⟨by simpa using a1, by simpa using a3, by simpa using a2⟩)
      have HKd := Lib.hid hkd
      clear hkd
      go_upto_block 2 with fail
      go_cut [5, 8, 12, 14] from 30 to 127 (fun n5 n8 _n12 _n14 wx => ∃ (t' u' : Int) (S6 : St) (f6 : Ft), n5 = .int .i64 t' ∧ n8 = .int .i64 u' ∧ LsW w wx x (k + 1) t' u' S6 f6 ∧ (S6.e = S.e ∨ S6.e = S.e + 1 ∧ u' < t'))
      case first =>
        rcases HKd.out with hkd | hkd | ⟨c0, c1, c2⟩
        case inr.inr =>
          obtain ⟨d, j, m1, m2, m3, m4, m5, m6, m7, m8⟩ := three op.n
          have n1 : IntKind.i64.wrap (d + 3) = d + 3 := IntWalk.i64_in _ (by omega)
          have n2 : IntKind.i64.wrap (t + j) = t + j := IntWalk.i64_in _ (by omega)
          have n3 : IntKind.i64.wrap d = d := IntWalk.i64_in _ (by omega)
          have n4 : IntKind.i64.wrap j = j := IntWalk.i64_in _ (by omega)
          have HTk := Lib.hid (tick_any HL.out HC1.out (HI2.out.ok.mono (show t ≤ t + j by omega)) (by omega) (by have := HI2.out.kk; omega) (now := t + j) ⟨by omega, Int.le_refl _⟩)
          have hun := tickS_un (now := t + j) HI2.out.ok
          obtain ⟨S6, hS6⟩ : ∃ S6, tickS S (t + j) = S6 := ⟨_, rfl⟩
          have HN0 : Hid (∀ w6 f6, CH w w6 x S6 f6 → LsW w w6 x (k + 1) (t + j) u S6 f6) := Lib.hid (fun w6 f6 hc => by
            have hk6 := tickS_k S (t + j)
            rw [hS6] at hk6 hun
            have h7 := HI2.out.kk
            have h8 := HI2.out.mm
            have h9 := lo_k HI2.out.ok
            have h10 := HI2.out.u1
            exact ⟨hc, by rw [← hS6]; exact tickS_ok (HI2.out.ok.mono (by omega)) ⟨by omega, Int.le_refl _⟩, by omega, by omega, by omega, by omega, HI2.out.u0, by rw [hun.1]; exact h10⟩)
          rw [hS6] at HTk hun
          have HCs : Hid (S6.e = S.e ∨ S6.e = S.e + 1 ∧ u < t + j) := Lib.hid (by
            have h10 := HI2.out.u1
            rcases hun.2 with h | ⟨h, h'⟩
            · exact Or.inl h
            · exact Or.inr ⟨h, by omega⟩)
          clear hS6 hun
          go_wp2_with (go_at_call 20; refine HTk.out.mono ?_; rintro e' w6 ⟨rfl, f6, hp6, -⟩; have HN := Lib.hid (HN0.out _ _ hp6.ch); clear hp6)
          go_meet
          exact ⟨t + j, u, S6, f6, rfl, rfl, HN.out, HCs.out⟩
        case inr.inl =>
          have c0 : (op.kind == 0) = false := by simp [hkd]
          have c1 : (op.kind == 1) = true := by simp [hkd]
          clear hkd
          obtain ⟨d, j, m1, m2, m3, m4, m5, m6, m7, m8⟩ := five op.fr
          have n1 : IntKind.i64.wrap (d + 5) = d + 5 := IntWalk.i64_in _ (by omega)
          have n2 : IntKind.i64.wrap (1 + j) = 1 + j := IntWalk.i64_in _ (by omega)
          have n3 : IntKind.i64.wrap d = d := IntWalk.i64_in _ (by omega)
          have n4 : IntKind.i64.wrap j = j := IntWalk.i64_in _ (by omega)
          have HOw := Lib.hid (word_one (kind := 1) (fr := 1 + j) (ep := S.e))
          go_upto_region 21 with (refine wpList_store_mid rfl 46 _ _ rfl _ 0 (wordC (lw 1 j S.e)) rfl rfl (there_new _ _ _ rfl) wordI HOw.out ?_)
          obtain ⟨hbv, hav, fv⟩ := word_made (w := W1) (zs := #[.int .i64 0, .int .i64 0, .int .i64 0, .int .i64 0, .int .i64 0, .int .i64 0, .int .i64 0, .int .i64 0, .int .i64 0, .int .i64 0, .slice none 0 0, .int .i64 0, .slice none 0 0, .int .i64 0, .slice none 0 0, .slice none 0 0, .int .i64 0, .int .i64 0, .int .i64 0, .int .i64 0, .int .i64 0]) (ty := 46) (W := lw 1 j S.e) rfl
          have k0' := cell_keep hbv k0
          have HC2 := Lib.hid (HC1.out.low hbv)
          have HVn : Hid (∀ i ∈ foot x f2, ¬ (i = W1.heap.size)) := Lib.hid (fun i hi e => by have := HC1.out.lt i hi; omega)
          have HWv : Hid (w.heap.size ≤ W1.heap.size) := Lib.hid HC1.out.below.size
          have hqv : ¬ (qb = W1.heap.size) := by have := cell_old k0; exact Nat.ne_of_lt this
          clear k0 k1 k2 hbv
          generalize World.setCells (W1.alloc _) W1.heap.size 0 _ = W2 at k0' HC2 hav fv ⊢
          generalize W1.heap.size = vb at hav fv HVn HWv hqv ⊢
          have HAv : Hid (WAll W2 vb (lw 1 j S.e)) := Lib.hid hav
          have v0 : W2.cell? ⟨vb, 0, none⟩ = some (.int .i64 1) := hav.cs 0 _ rfl
          clear hav
          have HAw : Hid (WAll (W2.setCell ⟨vb, 0, none⟩ (.int .i64 11)) vb (lw 11 j S.e)) := Lib.hid (HAv.out.set0 11)
          have HC3 : Hid (CH w (W2.setCell ⟨vb, 0, none⟩ (.int .i64 11)) x S f2) := Lib.hid (HC2.out.keep (only_one 0 _) (fun i hi hm => by simp at hm; exact HVn.out i hi hm) (fun i hi => by simp at hi; have := HWv.out; omega))
          go_upto_region 23 with fail
          clear k0' v0 fv HAv HC2
          generalize W2.setCell ⟨vb, 0, none⟩ (.int .i64 11) = W3 at HAw HC3 ⊢
          have HRw := Lib.hid HAw.out.rng
          have HSt := Lib.hid (step_any HL.out HC3.out HI2.out.ok (by omega) (by have := HI2.out.kk; omega) (by have := HI2.out.mm; omega) (lw 11 j S.e) (now := t) ⟨hT0, Int.le_refl _⟩)
          have hun := stepS_un S 11 (1 + j) 0 S.e t
          have hk6 := stepS_k S 11 (1 + j) 0 S.e t
          obtain ⟨S6, hS6⟩ : ∃ S6, stepS S 11 (1 + j) 0 S.e t = S6 := ⟨_, rfl⟩
          have HSt2 : Hid (Calls Tryz.prog 18 #[.pointer (some ⟨x, 0, none⟩), .agg (wordC (lw 11 j S.e)), .int .i64 t] W3 fun e' w' => e' = .returned (.slice none 0 0) ∧ ∃ f6, LsW w w' x (k + 1) t u S6 f6) := Lib.hid (HSt.out.mono (by
            rintro e' w' ⟨v, f6, rfl, hp, -, ht⟩
            obtain rfl := told_no ht (by unfold leaseB; exact decide_eq_false (fun h => absurd (show (11 : Int) = 1 from h.2.2.2.1) (by decide)))
            have hc : CH w w' x S6 f6 := by rw [← hS6]; exact hp.ch
            have h7 := HI2.out.kk
            have h8 := HI2.out.mm
            have h10 := HI2.out.u1
            rw [hS6] at hk6 hun
            exact ⟨rfl, f6, hc, by rw [← hS6]; exact stepS_ok HI2.out.ok ⟨hT0, Int.le_refl _⟩, by omega, by omega, hT0, by omega, HI2.out.u0, by omega⟩))
          have HEq : Hid (S6.e = S.e) := Lib.hid (by rw [← hS6]; exact hun.2)
          clear hun hk6 hS6 HSt
          go_wp2_with (first
            | (refine wpList_load_mid rfl 46 _ rfl vb 0 rfl (wordC (lw 11 j S.e)).toList _ HRw.out Tryz.underlying46 rfl wordI ?_)
            | (go_at_call 18; refine HSt2.out.mono ?_; rintro e' w6 ⟨rfl, f6, hn6⟩; have HN := Lib.hid hn6; clear hn6))
          go_loopw [8, 77] (fun n8 n77 wi => n8 = .int .i64 u ∧ n77 = .int .i64 0 ∧ wi = w6) (fun _ _ _ => 0)
          case atStart => exact ⟨rfl, rfl, rfl⟩
          case round =>
            obtain ⟨rfl, rfl, rfl⟩ := hrel
            go_wp2_with fail
            go_meet
            exact ⟨t, u, S6, f6, rfl, rfl, HN.out, Or.inl HEq.out⟩
        case inl =>
          have c1 : (op.kind == 1) = false := by rcases hkd with h | h <;> simp [h]
          obtain ⟨d, j, m1, m2, m3, m4, m5, m6, m7, m8⟩ := five op.fr
          have n1 : IntKind.i64.wrap (d + 5) = d + 5 := IntWalk.i64_in _ (by omega)
          have n2 : IntKind.i64.wrap (1 + j) = 1 + j := IntWalk.i64_in _ (by omega)
          have n3 : IntKind.i64.wrap d = d := IntWalk.i64_in _ (by omega)
          have n4 : IntKind.i64.wrap j = j := IntWalk.i64_in _ (by omega)
          have HOw := Lib.hid (word_one (kind := 1) (fr := 1 + j) (ep := S.e))
          have n5 : IntKind.i64.wrap (t + 6) = t + 6 := IntWalk.i64_in _ (by omega)
          have HKe := Lib.hid hkd
          clear hkd
          go_upto_if 56 with fail
          go_cut [56] from 57 to 59 (fun v wx => v = .bool true ∧ W1 = wx)
          case first =>
            rcases HKe.out with hkd | hkd
            · have c0 : (op.kind == 0) = true := by simp [hkd]
              clear hkd
              go_wp2_with fail
              go_meet
              first | exact ⟨rfl, rfl⟩ | exact ⟨congrArg Value.bool c0, rfl⟩
            · have c0 : (op.kind == 0) = false := by simp [hkd]
              have c2 : (op.kind == 2) = true := by simp [hkd]
              clear hkd
              go_wp2_with fail
              go_meet
              first | exact ⟨rfl, rfl⟩ | exact ⟨congrArg Value.bool c2, rfl⟩
          case rest =>
            obtain ⟨rfl, rfl⟩ := hcut
            go_upto_region 21 with (refine wpList_store_mid rfl 46 _ _ rfl _ 0 (wordC (lw 1 j S.e)) rfl rfl (there_new _ _ _ rfl) wordI HOw.out ?_)
            obtain ⟨hbv, hav, -⟩ := word_made (w := W1) (zs := #[.int .i64 0, .int .i64 0, .int .i64 0, .int .i64 0, .int .i64 0, .int .i64 0, .int .i64 0, .int .i64 0, .int .i64 0, .int .i64 0, .slice none 0 0, .int .i64 0, .slice none 0 0, .int .i64 0, .slice none 0 0, .slice none 0 0, .int .i64 0, .int .i64 0, .int .i64 0, .int .i64 0, .int .i64 0]) (ty := 46) (W := lw 1 j S.e) rfl
            have k0' := cell_keep hbv k0
            have HC2 := Lib.hid (HC1.out.low hbv)
            clear k0 k1 k2 hbv
            generalize World.setCells (W1.alloc _) W1.heap.size 0 _ = W2 at k0' HC2 hav ⊢
            generalize W1.heap.size = vb at hav ⊢
            have HAv : Hid (WAll W2 vb (lw 1 j S.e)) := Lib.hid hav
            clear hav
            go_upto_region 23 with fail
            clear k0'
            have HRw := Lib.hid HAv.out.rng
            have HSt := Lib.hid (step_any HL.out HC2.out HI2.out.ok (by omega) (by have := HI2.out.kk; omega) (by have := HI2.out.mm; omega) (lw 1 j S.e) (now := t) ⟨hT0, Int.le_refl _⟩)
            have hun := stepS_un S 1 (1 + j) 0 S.e t
            have hk6 := stepS_k S 1 (1 + j) 0 S.e t
            have hlg := stepS_lease S (1 + j) S.e t
            have hne : S.zs ≠ [] := by have h := (mayB_mayL HI2.out.ok.may).2.1; intro h0; rw [h0] at h; simp at h
            obtain ⟨S6, hS6⟩ : ∃ S6, stepS S 1 (1 + j) 0 S.e t = S6 := ⟨_, rfl⟩
            have HN0 : Hid (∀ w6 f6 u', CH w w6 x S6 f6 → 0 ≤ u' → u' ≤ S6.un → LsW w w6 x (k + 1) t u' S6 f6) := Lib.hid (fun w6 f6 u' hc hu0 hu1 => by
              have h7 := HI2.out.kk
              have h8 := HI2.out.mm
              rw [hS6] at hk6 hun
              exact ⟨hc, by rw [← hS6]; exact stepS_ok HI2.out.ok ⟨hT0, Int.le_refl _⟩, by omega, by omega, hT0, by omega, hu0, hu1⟩)
            have hu0 := HI2.out.u0
            have hu1 := HI2.out.u1
            have HEq : Hid (S6.e = S.e) := Lib.hid (by rw [← hS6]; exact hun.2)
            have hcs : leaseB S 1 (1 + j) 0 = false ∨ leaseB S 1 (1 + j) 0 = true := by cases leaseB S 1 (1 + j) 0 <;> simp
            rcases hcs with hl' | hl'
            · have HSt2 : Hid (Calls Tryz.prog 18 #[.pointer (some ⟨x, 0, none⟩), .agg (wordC (lw 1 j S.e)), .int .i64 t] W2 fun e' w' => e' = .returned (.slice none 0 0) ∧ ∃ f6, LsW w w' x (k + 1) t u S6 f6) := Lib.hid (HSt.out.mono (by
                rintro e' w' ⟨v, f6, rfl, hp, -, ht⟩
                obtain rfl := told_no ht hl'
                have hc : CH w w' x S6 f6 := by rw [← hS6]; exact hp.ch
                exact ⟨rfl, f6, HN0.out _ _ _ hc hu0 (by rw [hS6] at hun; omega)⟩))
              clear hun hk6 hS6 HSt HN0 hl' hlg hu0 hu1 hne
              go_wp2_with (first
                | (refine wpList_load_mid rfl 46 _ rfl vb 0 rfl (wordC (lw 1 j S.e)).toList _ HRw.out Tryz.underlying46 rfl wordI ?_)
                | (go_at_call 18; refine HSt2.out.mono ?_; rintro e' w6 ⟨rfl, f6, hn6⟩; have HN := Lib.hid hn6; clear hn6))
              go_loopw [8, 77] (fun n8 n77 wi => n8 = .int .i64 u ∧ n77 = .int .i64 0 ∧ wi = w6) (fun _ _ _ => 0)
              case atStart => exact ⟨rfl, rfl, rfl⟩
              case round =>
                obtain ⟨rfl, rfl, rfl⟩ := hrel
                go_wp2_with fail
                go_meet
                exact ⟨t, u, S6, f6, rfl, rfl, HN.out, Or.inl HEq.out⟩
            · have HSt2 : Hid (Calls Tryz.prog 18 #[.pointer (some ⟨x, 0, none⟩), .agg (wordC (lw 1 j S.e)), .int .i64 t] W2 fun e' w' => ∃ qn ca cc f6, e' = .returned (.slice (some ⟨qn, 0, none⟩) 1 1) ∧ LsW w w' x (k + 1) t (max u (t + 6)) S6 f6 ∧ LeaseAt w' qn (1 + j) S.e S.zs S.nw (t + 6) ca cc) := Lib.hid (HSt.out.mono (by
                rintro e' w' ⟨v, f6, rfl, hp, -, ht⟩
                obtain ⟨qn, ca, cc, rfl, hls⟩ := told_ls ht hl' hne
                have hc : CH w w' x S6 f6 := by rw [← hS6]; exact hp.ch
                have h3 := hlg hl'
                exact ⟨qn, ca, cc, f6, rfl, HN0.out _ _ _ hc (by omega) (by rw [hS6] at hun h3; omega), hls.la⟩))
              have pE : (S.e != S.e) = false := by simp
              have pF : (t + 6 != t + 6) = false := by simp
              obtain ⟨ix, hix⟩ : ∃ ix, idx S.zs (1 + j) = ix := ⟨_, rfl⟩
              have hp0 : decide (ix < 0) = false := decide_eq_false (by
                unfold leaseB at hl'
                have h := of_decide_eq_true hl'
                rw [hix] at h
                omega)
              have HIx := Lib.hid hix
              have hl5 := (mayB_mayL HI2.out.ok.may).2.2
              clear hun hk6 hS6 HSt HN0 hl' hlg hu0 hu1 hne hix
              go_wp2_with (first
                | (refine wpList_load_mid rfl 46 _ rfl vb 0 rfl (wordC (lw 1 j S.e)).toList _ HRw.out Tryz.underlying46 rfl wordI ?_)
                | (go_at_call 18; refine HSt2.out.mono ?_; rintro e' w6 ⟨qn, ca, cc, f6, rfl, hn6, hla6⟩; have HN := Lib.hid hn6; have HLa := Lib.hid hla6; clear hn6 hla6))
              go_loopw [8, 77] (fun n8 n77 wi => (n8 = .int .i64 u ∧ n77 = .int .i64 0 ∧ wi = w6) ∨ (n8 = .int .i64 (max u (t + 6)) ∧ n77 = .int .i64 1 ∧ LsW w wi x (k + 1) t (max u (t + 6)) S6 f6)) (fun _ n77 _ => 1 - (intOf n77).toNat)
              case atStart => exact Or.inl ⟨rfl, rfl, rfl⟩
              case round =>
                rcases hrel with ⟨rfl, rfl, rfl⟩ | ⟨rfl, rfl, hi6⟩
                · have HRl := Lib.hid (lease_rngL HLa.out)
                  have HOl := Lib.hid (lease_oneL (fr := 1 + j) (e := S.e) (un := t + 6) (a := ca) (n := S.zs.length) (c := cc) (nw := S.nw))
                  go_upto_region 26 with (first
                    | (refine wpList_load_mid rfl 46 _ rfl qn 0 rfl (leaseL (1 + j) S.e ca S.zs.length cc S.nw (t + 6)) _ HRl.out Tryz.underlying46 rfl wordI ?_)
                    | (refine wpList_store_mid rfl 46 _ _ rfl _ 0 (leaseL (1 + j) S.e ca S.zs.length cc S.nw (t + 6)).toArray rfl rfl (there_new _ _ _ rfl) wordI HOl.out ?_))
                  obtain ⟨hbW, hrW⟩ := lease_madeL (w := wr) (zs := #[.int .i64 0, .int .i64 0, .int .i64 0, .int .i64 0, .int .i64 0, .int .i64 0, .int .i64 0, .int .i64 0, .int .i64 0, .int .i64 0, .slice none 0 0, .int .i64 0, .slice none 0 0, .int .i64 0, .slice none 0 0, .slice none 0 0, .int .i64 0, .int .i64 0, .int .i64 0, .int .i64 0, .int .i64 0]) (ty := 46) (fr := 1 + j) (e := S.e) (un := t + 6) (a := ca) (n := S.zs.length) (c := cc) (nw := S.nw) rfl
                  have y2 := hrW 2 (.int .i64 (1 + j)) rfl
                  have y6 := hrW 6 (.int .i64 (t + 6)) rfl
                  have y9 := hrW 9 (.int .i64 S.e) rfl
                  have y10 := hrW 10 (.slice ca S.zs.length cc) rfl
                  have y11 := hrW 11 (.int .i64 S.nw) rfl
                  rw [Nat.zero_add] at y2 y6 y9 y10 y11
                  have HC8 := Lib.hid (HN.out.ch.low hbW)
                  have HZ8 := Lib.hid (HLa.out.rz.keep hbW)
                  clear hbW hrW HRl HOl
                  generalize World.setCells (wr.alloc _) wr.heap.size 0 _ = W8 at HC8 HZ8 y2 y6 y9 y10 y11 ⊢
                  generalize wr.heap.size = r8 at y2 y6 y9 y10 y11 ⊢
                  go_wp2_with (go_at_call 28; refine (spot_any S.e S.nw (1 + j) ca cc S.zs _ (by omega) HZ8.out).mono ?_; rw [HIx.out]; rintro e' w' ⟨rfl, hb⟩; have HC9 := Lib.hid (HC8.out.low hb); have y6' := cell_keep hb y6; clear y2 y6 y9 y10 y11 hb)
                  go_roundw
                  case rel => exact Or.inr ⟨rfl, rfl, HC9.out, HN.out.ok, HN.out.kk, HN.out.mm, HN.out.t0, HN.out.t1, HN.out.u0, HN.out.u1⟩
                  case measure => simp [intOf]
                · have HN2 := Lib.hid hi6
                  clear hi6
                  go_wp2_with fail
                  go_meet
                  exact ⟨t, _, S6, f6, rfl, rfl, HN2.out, Or.inl HEq.out⟩
      case rest =>
        obtain ⟨t', u', S6, f6, rfl, rfl, hn, he⟩ := hcut
        have HN := Lib.hid hn
        have hlu : decide (S6.un < u') = false := decide_eq_false (by have := hn.u1; omega)
        have hse := mayB_ep HI2.out.ok.may
        clear hn
        rcases he with he | ⟨he, hlate⟩
        · have pA : (S6.e != S.e) = false := by simp [he]
          have HE := Lib.hid he
          clear he
          go_wp2_with (first
            | (go_at_call 24; refine (chroster_is HN.out.ch rfl rfl rfl rfl (mayB_mayL HN.out.ok.may).2.2).mono ?_; rintro e' w7 ⟨ra, rc, rfl, -, hb⟩; have HC7 := Lib.hid ((HN.out.ch.low hb).low (below_alloc (Below.refl _ _) (.cells #[.int .i64 S6.e, .slice ra S6.zs.length rc, .int .i64 S6.nw] 24))); clear hb)
            | (go_at_call 26; refine (until_ch HC7.out).mono ?_; rintro e' w' ⟨rfl, rfl⟩))
          go_roundw
          case rel =>
            exact ⟨k + 1, t', u', S6, f6, rfl, rfl, by rw [HE.out], by go_num, by omega, by omega, HC7.out, HN.out.ok, HN.out.kk, HN.out.mm, HN.out.t0, HN.out.t1, HN.out.u0, HN.out.u1⟩
          case measure => simp [intOf]; omega
        · have pA : (S6.e != S.e) = true := by simp [he]; omega
          have pB : (S6.e != S.e + 1) = false := by simp [he]
          have pC : decide (t' ≤ u') = false := decide_eq_false (by omega)
          have pD : IntKind.i64.wrap (S.e + 1) = S.e + 1 := IntWalk.i64_in _ (by omega)
          clear he hlate
          go_wp2_with (first
            | (go_at_call 24; refine (chroster_is HN.out.ch rfl rfl rfl rfl (mayB_mayL HN.out.ok.may).2.2).mono ?_; rintro e' w7 ⟨ra, rc, rfl, -, hb⟩; have HC7 := Lib.hid ((HN.out.ch.low hb).low (below_alloc (Below.refl _ _) (.cells #[.int .i64 S6.e, .slice ra S6.zs.length rc, .int .i64 S6.nw] 24))); clear hb)
            | (go_at_call 26; refine (until_ch HC7.out).mono ?_; rintro e' w' ⟨rfl, rfl⟩))
          go_roundw
          case rel =>
            exact ⟨k + 1, t', u', S6, f6, rfl, rfl, rfl, by go_num, by omega, by omega, HC7.out, HN.out.ok, HN.out.kk, HN.out.mm, HN.out.t0, HN.out.t1, HN.out.u0, HN.out.u1⟩
          case measure => simp [intOf]; omega
    · by_cases h1 : k < L.length
      · have p1 : decide ((k : Int) < (L.length : Int)) = true := decide_eq_true (by omega)
        have p2 : decide ((k : Int) < 80) = false := decide_eq_false (by omega)
        clear hlt
        go_wp2_with fail
        go_ret
        exact ⟨rfl, HI2.out.ch.below⟩
      · have p1 : decide ((k : Int) < (L.length : Int)) = false := decide_eq_false (by omega)
        clear hlt
        go_wp2_with fail
        go_ret
        exact ⟨rfl, HI2.out.ch.below⟩
end Go.Proofs.YthiphdcbboapkaaGreatDoor

/- What a lease in memory is, beside its chief; the law's first chief. Walk of law10's begun. ChiefNone, ChiefLasts: the walks. -/
import Derived.Test.YthiphdcbboapkaaGreatDoorH3
import Derived.Test.YthiphdcbboapkaaGreatDoorHp
import Derived.Test.YthiphdcbboapkaaGreatDoorH5
import Derived.Test.YthiphdcbboapkaaGreatDoorNF
namespace Go.Proofs.YthiphdcbboapkaaGreatDoor
open Go.RowKit Go.Maps

set_option maxRecDepth 100000
/-- A lease beside its chief. -/
structure LS (w : World) (x : Nat) (f : Ft) (q : Nat) (fr e : Int) (zs : List Int) (nw un : Int) (a : Option Addr) (c : Nat) : Prop where
  la : LeaseAt w q fr e zs nw un a c
  nq : q ∉ foot x f
  na : ∀ i ∈ rowB a, i ∉ foot x f
  al : ∀ i ∈ rowB a, i < w.heap.size
theorem LS.post {w0 w w' : World} {x : Nat} {f f' : Ft} {S' : St} {q : Nat} {fr e : Int} {zs : List Int} {nw un : Int} {a : Option Addr} {c : Nat} (h : LS w x f q fr e zs nw un a c) (k : PostF w0 w x f S' f' w') : LS w' x f' q fr e zs nw un a c where
  la := h.la.keepO k.only (fun hm => h.nq (own_foot hm)) (fun i hi hm => h.na i hi (own_foot hm))
  nq := fun hm => k.aside (T := [q]) (fun i hi hj => by simp at hj; subst hj; exact h.nq hi) (fun i hi => by simp at hi; subst hi; exact h.la.lt) q hm (by simp)
  na := fun i hi hm => k.aside (T := [i]) (fun j hj hk => by simp at hk; subst hk; exact h.na j hi hj) (fun j hj => by simp at hj; subst hj; exact h.al j hi) i hm (by simp)
  al := fun i hi => Nat.lt_of_lt_of_le (h.al i hi) k.only.size
theorem LS.low {w w' : World} {x : Nat} {f : Ft} {q : Nat} {fr e : Int} {zs : List Int} {nw un : Int} {a : Option Addr} {c : Nat} (h : LS w x f q fr e zs nw un a c) (k : Below w.heap.size w w') : LS w' x f q fr e zs nw un a c :=
  ⟨h.la.low k, h.nq, h.na, fun i hi => Nat.lt_of_lt_of_le (h.al i hi) k.size⟩
theorem LS.aside {T : List Nat} {w w' : World} {x : Nat} {f : Ft} {q : Nat} {fr e : Int} {zs : List Int} {nw un : Int} {a : Option Addr} {c : Nat} (h : LS w x f q fr e zs nw un a c) (k : Only T w w') (hT : ∀ i ∈ T, w.heap.size ≤ i) : LS w' x f q fr e zs nw un a c :=
  ⟨h.la.keepO k (fun hm => by have := hT _ hm; have := h.la.lt; omega) (fun i hi hm => by have := hT _ hm; have := h.al i hi; omega), h.nq, h.na, fun i hi => Nat.lt_of_lt_of_le (h.al i hi) k.size⟩
theorem CH.beside {T : List Nat} {w0 w w' : World} {x : Nat} {S : St} {f : Ft} (h : CH w0 w x S f) (k : Only T w w') (hT : ∀ i ∈ T, w.heap.size ≤ i) : CH w0 w' x S f :=
  h.keep k (fun q hq hm => by have := hT _ hm; have := h.lt q hq; omega) (fun i hi => Nat.le_trans h.below.size (hT i hi))
/-- Of what Step told. -/
theorem told_ls {w0 w w' : World} {x : Nat} {S : St} {f' : Ft} {W : Wd} {now : Int} {v : Value} (h : Told w0 w w' x S f' W now v) (hl : leaseB S W.kind W.fr W.tt = true) (hne : S.zs ≠ []) : ∃ q a c, v = .slice (some ⟨q, 0, none⟩) 1 1 ∧ LS w' x f' q W.fr S.e S.zs S.nw (now + 6) a c := by
  rcases h with ⟨h, _⟩ | ⟨_, q, a, c, rfl, h1, h2, h3, h4⟩
  · rw [hl] at h; cases h
  · have hf := own_fresh h3 rfl hne
    exact ⟨q, a, c, rfl, h1, fun hm => by have := h4 q hm; omega, fun i hi hm => by have := h4 i hm; have := (hf i hi).1; omega, fun i hi => (hf i hi).2⟩
theorem told_no {w0 w w' : World} {x : Nat} {S : St} {f' : Ft} {W : Wd} {now : Int} {v : Value} (h : Told w0 w w' x S f' W now v) (hl : leaseB S W.kind W.fr W.tt = false) : v = .slice none 0 0 := by
  rcases h with ⟨_, h⟩ | ⟨h, _⟩
  · exact h
  · rw [hl] at h; cases h
/-- A word of three numbers. -/
def wd (kind fr ep : Int) : Wd := { kind := kind, fr := fr, tt := 0, ep := ep, seq := 0, req := 0, unt := 0, err := 0, ver := 0, re := 0, ra := none, rn := 0, rc := 0, rw := 0, da := none, dn := 0, dc := 0, ss := 0, la := none, ln := 0, lc := 0, ma := none, mn := 0, mc := 0, l0 := 0, l1 := 0, l2 := 0, l3 := 0, l4 := 0 }
theorem newS_ok {e : Int} {zs : List Int} {now : Int} (hm : mayB e zs 0 = true) (hn : 0 ≤ now) : OkS (newS e zs now) now :=
  hearS_ok hm ⟨rfl, rfl, rfl⟩ ⟨hn, by show now ≤ now + 6; omega⟩ ⟨by show (0 : Int) ≤ 0; omega, by show (0 : Int) ≤ 5; omega⟩ ⟨rfl, rfl, rfl⟩ ⟨hn, Int.le_refl _⟩
theorem tornS_ok {e : Int} {zs : List Int} {nw : Int} {k : Nat} {now : Int} (hm : mayB e zs nw = true) (hn : 0 ≤ now) : OkS (tornS e zs nw k now) now :=
  hearS_ok hm ⟨rfl, rfl, rfl⟩ ⟨by show 0 ≤ now + 6; omega, by show now + 6 ≤ now + 6; omega⟩ ⟨by show (0 : Int) ≤ 0; omega, by show (0 : Int) ≤ 5; omega⟩ ⟨rfl, rfl, rfl⟩ ⟨hn, Int.le_refl _⟩
/-- Numbers written out. -/
theorem ints_litW (w : World) (l : List Int) (ty : TypeId) : IntsAt (w.alloc (.cells (l.map (Value.int .i64)).toArray ty)) (some ⟨w.heap.size, 0, none⟩) l := by
  by_cases h : l = []
  · exact Or.inl h
  · refine Or.inr ⟨w.heap.size, 0, rfl, by simp, fun j hj => ?_⟩
    rw [Nat.zero_add, World.cell?_alloc_new]
    unfold nthI
    simp [List.getD, List.getElem?_eq_getElem hj]
set_option maxHeartbeats 800000 in
theorem Begun4_any (w : World) (LA : Laid w) : Calls Tryz.prog 30 #[] w fun e w' => e = .returned (.bool true) ∧ Below w.heap.size w w' := by
  have HL := Lib.hid LA
  clear LA
  go_enter Tryz.func30, Tryz.ntmps30
  go_wp2_with (go_at_call 47; refine (begun4_any _ HL.out).mono ?_; rintro e' w' ⟨rfl, hb⟩)
  go_ret
  exact ⟨rfl, hb⟩
set_option maxHeartbeats 800000 in
theorem Begun9_any (w : World) : Calls Tryz.prog 31 #[] w fun e w' => e = .returned (.bool true) ∧ Below w.heap.size w w' := by
  go_enter Tryz.func31, Tryz.ntmps31
  go_wp2_with (go_at_call 48; refine (begun9_any _).mono ?_; rintro e' w' ⟨rfl, hb⟩)
  go_ret
  exact ⟨rfl, hb⟩
theorem chroster_is {w0 w : World} {x : Nat} {S : St} {f : Ft} (H : CH w0 w x S f) {e nw : Int} {zs : List Int} (h1 : S.e = e) (h2 : S.zs = zs) (h3 : S.nw = nw) {n : Nat} (hn : zs.length = n) (hl5 : zs.length ≤ 5) :
    Calls Tryz.prog 24 #[.pointer (some ⟨x, 0, none⟩)] w fun e' w' => ∃ a c, e' = .returned (.agg #[.int .i64 e, .slice a n c, .int .i64 nw]) ∧ OwnI w' w.heap.size (.slice a zs.length c) zs ∧ Below w.heap.size w w' := by
  subst h1 h2 h3 hn; exact chroster_any H hl5
theorem until_is {w0 w : World} {x : Nat} {S : St} {f : Ft} (H : CH w0 w x S f) {n : Int} (h : S.un = n) : Calls Tryz.prog 26 #[.pointer (some ⟨x, 0, none⟩)] w fun e w' => e = .returned (.int .i64 n) ∧ w = w' := by subst h; exact until_ch H
theorem changing_is {w0 w : World} {x : Nat} {S : St} {f : Ft} (H : CH w0 w x S f) {t : Bool} (h : decide (0 < S.e2) = t) : Calls Tryz.prog 25 #[.pointer (some ⟨x, 0, none⟩)] w fun e w' => e = .returned (.bool t) ∧ w = w' := by subst h; exact changing_ch H
theorem lost_is {w0 w : World} {x : Nat} {S : St} {f : Ft} (H : CH w0 w x S f) {t : Bool} (h : (S.lost && !decide (0 < S.e2)) = t) : Calls Tryz.prog 27 #[.pointer (some ⟨x, 0, none⟩)] w fun e w' => e = .returned (.bool t) ∧ w = w' := by subst h; exact lost_ch H
theorem run_ros0 (e nw : Int) (a : Option Addr) (n c : Nat) (w : World) : (Instr.field 24 (.agg #[.int .i64 e, .slice a n c, .int .i64 nw]) 0).run Tryz.prog w = .ok (.int .i64 e) w := by kernel_rfl
theorem run_ros1 (e nw : Int) (a : Option Addr) (n c : Nat) (w : World) : (Instr.field 24 (.agg #[.int .i64 e, .slice a n c, .int .i64 nw]) 1).run Tryz.prog w = .ok (.slice a n c) w := by kernel_rfl
theorem run_ros2 (e nw : Int) (a : Option Addr) (n c : Nat) (w : World) : (Instr.field 24 (.agg #[.int .i64 e, .slice a n c, .int .i64 nw]) 2).run Tryz.prog w = .ok (.int .i64 nw) w := by kernel_rfl
/-! the law's first chief, plain -/
def b1 : St := newS 1 [1, 2] 5
def b2 : St := stepS b1 1 2 0 1 6
def b3 : St := stepS b2 1 3 0 0 6
def b4 : St := tickS b3 7
def b5 : St := tickS b4 12
def b6 : St := tickS b5 13
theorem b1_ok : OkS b1 5 := newS_ok (by decide) (by decide)
theorem b2_ok : OkS b2 6 := stepS_ok (b1_ok.mono (by decide)) (by decide)
theorem b3_ok : OkS b3 6 := stepS_ok b2_ok (by decide)
theorem b4_ok : OkS b4 7 := tickS_ok (b3_ok.mono (by decide)) (by decide)
theorem b5_ok : OkS b5 12 := tickS_ok (b4_ok.mono (by decide)) (by decide)
theorem b6_ok : OkS b6 13 := tickS_ok (b5_ok.mono (by decide)) (by decide)
theorem b1_is : b1.k ≤ 300 ∧ b1.m ≤ 100000 ∧ leaseB b1 1 2 0 = true ∧ b1.zs ≠ [] ∧ b1.e = 1 := by decide
theorem b2_is : b2.k ≤ 300 ∧ b2.m ≤ 100000 ∧ leaseB b2 1 3 0 = false := by decide
theorem b3_is : b3.k ≤ 300 := by decide
theorem b4_is : b4.k ≤ 300 ∧ b4.e2 = 2 := by decide
theorem b5_is : b5.k ≤ 300 ∧ b5.e2 = 2 := by decide
theorem b6_is : b6.k ≤ 300 ∧ b6.e2 = 0 ∧ b6.e = 2 ∧ b6.zs = [1, 2, 3] ∧ b6.nw = 3 ∧ b6.un = 12 ∧ b6.lost = false ∧ b6.le = 2 ∧ b6.lzs = [1, 2, 3] ∧ b6.lnw = 3 := by decide
end Go.Proofs.YthiphdcbboapkaaGreatDoor
namespace Go.Proofs.YthiphdcbboapkaaGreatDoor
open Go.RowKit Go.Maps

set_option maxRecDepth 100000
set_option maxHeartbeats 12800000 in
theorem begun10_any (w : World) (LA : Laid w) : Calls Tryz.prog 12 #[] w fun e w' => e = .returned (.bool true) ∧ Below w.heap.size w w' := by
  have HL := Lib.hid LA
  clear LA
  go_enter Tryz.func12, Tryz.ntmps12
  go_wp2_with fail
  refine (new_S (w0 := w) (Below.refl _ _) 1048576 1048576 (by decide)).mono ?_
  rintro e w1 ⟨g, b, rfl, hs, -, -, -⟩
  have HS := Lib.hid hs
  clear hs
  go_wp2_with fail
  have hb1 := below_alloc (Below.refl w1.heap.size w1) (.cells #[.int .i64 1, .int .i64 2] 3)
  refine (chopen_fresh HL.out (HS.out.low hb1) (by decide) (by decide) (e := 1) (zs := [1, 2]) (by decide) (ints_litW w1 [1, 2] 3) (fun q hq => by
    have h1 := HS.out.1.ltg
    have h2 := HS.out.1.ltb
    simp [rowB] at hq
    omega) (now := 5) (fitI_of (by omega))).mono ?_
  rintro e w2 ⟨x, f1, rfl, hc, hfg, -, -⟩
  have HC1 : Hid (CH w w2 x b1 f1) := Lib.hid hc
  have HG1 := Lib.hid hfg
  clear hc hfg hb1 HS
  go_wp2_with fail
  refine (step_any HL.out HC1.out (b1_ok.mono (show (5 : Int) ≤ 6 by decide)) (by decide) b1_is.1 b1_is.2.1 (wd 1 2 1) (now := 6) (by decide)).mono ?_
  rintro e w3 ⟨v, f2, rfl, hp, hg, ht⟩
  obtain ⟨q, a, c, rfl, hls⟩ := told_ls ht b1_is.2.2.1 b1_is.2.2.2.1
  have HC2 : Hid (CH w w3 x b2 f2) := Lib.hid hp.ch
  have HLs2 := Lib.hid hls
  have HG2 := Lib.hid (hg.trans HG1.out)
  clear hp hg ht hls HC1
  go_wp2_with fail
  refine (step_any HL.out HC2.out b2_ok (by decide) b2_is.1 b2_is.2.1 (wd 1 3 0) (now := 6) (by decide)).mono ?_
  rintro e w4 ⟨v, f3, rfl, hp, hg, ht⟩
  obtain rfl := told_no ht b2_is.2.2
  have HC3 : Hid (CH w w4 x b3 f3) := Lib.hid hp.ch
  have HLs3 := Lib.hid (HLs2.out.post hp)
  have HG3 := Lib.hid (hg.trans HG2.out)
  clear hp hg ht HC2 HLs2 HG2
  go_wp2_with fail
  refine (tick_any HL.out HC3.out (b3_ok.mono (show (6 : Int) ≤ 7 by decide)) (by decide) b3_is (now := 7) (by decide)).mono ?_
  rintro e w5 ⟨rfl, f4, hp, hg⟩
  have HC4 : Hid (CH w w5 x b4 f4) := Lib.hid hp.ch
  have HLs4 := Lib.hid (HLs3.out.post hp)
  have HG4 := Lib.hid (hg.trans HG3.out)
  clear hp hg HC3 HLs3 HG3
  have hq1 : Hid (decide (0 < b4.e2) = true) := Lib.hid (by rw [b4_is.2]; decide)
  go_wp2_with fail
  refine (changing_ch HC4.out).mono ?_
  rw [hq1.out]
  rintro e w6 ⟨rfl, rfl⟩
  go_wp2_with fail
  refine (tick_any HL.out HC4.out (b4_ok.mono (show (7 : Int) ≤ 12 by decide)) (by decide) b4_is.1 (now := 12) (by decide)).mono ?_
  rintro e w6 ⟨rfl, f5, hp, hg⟩
  have HC5 : Hid (CH w w6 x b5 f5) := Lib.hid hp.ch
  have HLs5 := Lib.hid (HLs4.out.post hp)
  have HG5 := Lib.hid (hg.trans HG4.out)
  clear hp hg HC4 HLs4 HG4
  have hq2 : Hid (decide (0 < b5.e2) = true) := Lib.hid (by rw [b5_is.2]; decide)
  go_wp2_with fail
  refine (changing_ch HC5.out).mono ?_
  rw [hq2.out]
  rintro e w7 ⟨rfl, rfl⟩
  go_wp2_with fail
  refine (tick_any HL.out HC5.out (b5_ok.mono (show (12 : Int) ≤ 13 by decide)) (by decide) b5_is.1 (now := 13) (by decide)).mono ?_
  rintro e w7 ⟨rfl, f6, hp, hg⟩
  have HC6 : Hid (CH w w7 x b6 f6) := Lib.hid hp.ch
  have HLs6 := Lib.hid (HLs5.out.post hp)
  have HG6 : Hid (f6.g = g) := Lib.hid (hg.trans HG5.out)
  clear hp hg HC5 HLs5 HG5
  have HT := Lib.hid (chtear_any HC6.out (by rw [b6_is.2.2.2.2.2.2.2.2.1]; simp) b6_is.1 0 (by decide))
  rw [HG6.out] at HT
  go_wp2_with fail
  refine HT.out.mono ?_
  rintro e w8 ⟨g', b', rfl, htorn, hb, hg1, hb1⟩
  rw [b6_is.2.2.2.2.2.2.2.1, b6_is.2.2.2.2.2.2.2.2.1, b6_is.2.2.2.2.2.2.2.2.2] at htorn
  have HTn := Lib.hid htorn
  have HC7 : Hid (CH w w8 x b6 f6) := Lib.hid (HC6.out.low hb)
  have HLs7 := Lib.hid (HLs6.out.low hb)
  have HGb : Hid (w7.heap.size ≤ g' ∧ w7.heap.size ≤ b') := Lib.hid ⟨hg1, hb1⟩
  have HBt := Lib.hid hb
  clear htorn hb hg1 hb1 HT
  go_wp2_with fail
  refine (chopen_torn HL.out HTn.out b6_is.1 (by decide) (now := 20) (by decide) 0 none [] 0 0).mono ?_
  rintro e w9 ⟨y, fy, rfl, hy, -, ho, -⟩
  have HY9 : Hid (CH w w9 y (tornS 2 [1, 2, 3] 3 b6.k 20) fy) := Lib.hid hy
  have hO9 : Only [g', b'] w7 w9 := (Only.of_below HBt.out).trans ho
  have hge : ∀ i ∈ [g', b'], w7.heap.size ≤ i := fun i hi => by have := HGb.out; simp at hi; rcases hi with rfl | rfl; exact this.1; exact this.2
  have HC9 : Hid (CH w w9 x b6 f6) := Lib.hid (HC6.out.beside hO9 hge)
  have HLs9 := Lib.hid (HLs6.out.aside hO9 hge)
  clear hy ho hO9 hge HC6 HC7 HLs6 HLs7 HTn HBt HGb
  go_wp2_with fail
  refine (new_S (w0 := w) HC9.out.below 1000 1000 (by decide)).mono ?_
  rintro e w10 ⟨g2, b2', rfl, hs, hb, hg2, hb2⟩
  have HS := Lib.hid hs
  have HB10 := Lib.hid hb
  have HGb : Hid (w9.heap.size ≤ g2 ∧ w9.heap.size ≤ b2') := Lib.hid ⟨hg2, hb2⟩
  clear hs hb hg2 hb2
  go_wp2_with fail
  refine (chopen_no HL.out HS.out (by decide) (by decide) (e := 0) (nw := 0) (zs := []) (a := none) (c := 0) (Or.inl (by decide)) (Or.inl rfl) (fun h => absurd rfl h) (by decide) 0).mono ?_
  rintro e w11 ⟨rfl, ho⟩
  have hO11 : Only [g2, b2'] w9 w11 := (Only.of_below HB10.out).trans ho
  have hge : ∀ i ∈ [g2, b2'], w9.heap.size ≤ i := fun i hi => by have := HGb.out; simp at hi; rcases hi with rfl | rfl; exact this.1; exact this.2
  have HX : Hid (CH w w11 x b6 f6) := Lib.hid (HC9.out.beside hO11 hge)
  have HY : Hid (CH w w11 y (tornS 2 [1, 2, 3] 3 b6.k 20) fy) := Lib.hid (HY9.out.beside hO11 hge)
  have HZ := Lib.hid (HLs9.out.aside hO11 hge)
  clear ho hO11 hge HC9 HY9 HLs9 HB10 HGb HS
  have l0 : w11.cell? ⟨q, 0, none⟩ = some (.int .i64 2) := HZ.out.la.cs 0 _ rfl
  have l2 : w11.cell? ⟨q, 2, none⟩ = some (.int .i64 2) := HZ.out.la.cs 2 _ rfl
  have l6 : w11.cell? ⟨q, 6, none⟩ = some (.int .i64 12) := HZ.out.la.cs 6 _ rfl
  have hlost : (b6.lost && !decide (0 < b6.e2)) = false := by rw [b6_is.2.2.2.2.2.2.1]; rfl
  have hch : decide (0 < b6.e2) = false := by rw [b6_is.2.1]; rfl
  clear HZ
  have hf0 := run_ros0
  have hf2 := run_ros2
  go_wp2_with (first
    | (go_at_call 30; refine (Begun4_any _ (HL.out.keep HX.out.below)).mono ?_; rintro e' w' ⟨rfl, hb⟩; have HX := Lib.hid (HX.out.low hb); have HY := Lib.hid (HY.out.low hb); have l0 := cell_keep hb l0; have l2 := cell_keep hb l2; have l6 := cell_keep hb l6; clear hb)
    | (go_at_call 31; refine (Begun9_any _).mono ?_; rintro e' w' ⟨rfl, hb⟩; have HX := Lib.hid (HX.out.low hb); have HY := Lib.hid (HY.out.low hb); have l0 := cell_keep hb l0; have l2 := cell_keep hb l2; have l6 := cell_keep hb l6; clear hb)
    | (go_at_call 25; refine (changing_is HX.out hch).mono ?_; rintro e' w' ⟨rfl, rfl⟩)
    | (go_at_call 24; (with_reducible refine (chroster_is HX.out b6_is.2.2.1 b6_is.2.2.2.1 b6_is.2.2.2.2.1 (n := 3) rfl (by decide)).mono ?_); rintro e' w' ⟨ra, rc, rfl, -, hb⟩; have HX := Lib.hid (HX.out.low hb); have HY := Lib.hid (HY.out.low hb); clear hb)
    | (go_at_call 24; (with_reducible refine (chroster_is HY.out (e := 2) (nw := 3) (zs := [1, 2, 3]) rfl rfl rfl (n := 3) rfl (by decide)).mono ?_); rintro e' w' ⟨ra, rc, rfl, -, hb⟩; have HX := Lib.hid (HX.out.low hb); have HY := Lib.hid (HY.out.low hb); clear hb)
    | (go_at_call 26; (with_reducible refine (until_is HX.out b6_is.2.2.2.2.2.1).mono ?_); rintro e' w' ⟨rfl, rfl⟩)
    | (go_at_call 26; (with_reducible refine (until_is HY.out (n := 26) rfl).mono ?_); rintro e' w' ⟨rfl, rfl⟩)
    | (go_at_call 27; refine (lost_is HX.out hlost).mono ?_; rintro e' w' ⟨rfl, rfl⟩))
  go_ret
  exact ⟨rfl, HX.out.below⟩
end Go.Proofs.YthiphdcbboapkaaGreatDoor
namespace Go.Proofs.YthiphdcbboapkaaGreatDoor
open Go.RowKit Go.Maps

set_option maxRecDepth 100000
set_option maxHeartbeats 1600000 in
theorem chroster_nil (w : World) : Calls Tryz.prog 24 #[.pointer none] w fun e w' => e = .returned (.agg #[.int .i64 0, .slice none 0 0, .int .i64 0]) ∧ Below w.heap.size w w' := by
  have HX := Lib.hid (B3.new w (.int .i64 0) (.slice none 0 0) (.int .i64 0) 24)
  have HB := Lib.hid (below_alloc (Below.refl w.heap.size w) (.cells #[.int .i64 0, .slice none 0 0, .int .i64 0] 24))
  go_enter Tryz.func24, Tryz.ntmps24
  go_upto_region 1 with fail
  generalize w.alloc (.cells #[.int .i64 0, .slice none 0 0, .int .i64 0] 24) = V at HX HB ⊢
  generalize hrb : w.heap.size = rb at HX ⊢
  obtain ⟨x0, x1, x2, g0, g1, g2⟩ := HX.out
  go_wp2_with fail
  refine bodyPost_ret (v := .agg #[.int .i64 0, .slice none 0 0, .int .i64 0]) (by simp [results, Tryz.results24, go_sem, x0, x1, x2]) rfl ⟨rfl, below_set3 HB.out (by omega) _ _ _ _ _ _⟩
set_option maxHeartbeats 1600000 in
theorem step_nil (W : Wd) (now : Int) (w : World) : Calls Tryz.prog 18 #[.pointer none, wordV W, .int .i64 now] w fun e w' => e = .returned (.slice none 0 0) ∧ Below w.heap.size w w' := by
  have HB := Lib.hid (below_alloc (Below.refl w.heap.size w) (.cells (wordC W) 46))
  unfold wordC at HB
  go_enter Tryz.func18, Tryz.ntmps18
  go_wp2_with (go_at_call 39; refine (off_nil _).mono ?_; rintro e w1 ⟨rfl, rfl⟩)
  go_ret
  exact ⟨rfl, HB.out⟩
set_option maxHeartbeats 6400000 in
theorem chiefNone_walk (w : World) (LA : Laid w) : Calls Tryz.prog 8 #[] w fun e w' => e = .returned (.bool true) ∧ Below w.heap.size w w' := by
  have HL := Lib.hid LA
  have HB : Hid (Below w.heap.size w w) := Lib.hid (Below.refl _ _)
  have hf0 := run_ros0 0 0 none 0 0
  clear LA
  go_enter Tryz.func8, Tryz.ntmps8
  go_wp2_with (first
    | (go_at_call 12; refine (begun10_any _ HL.out).mono ?_; rintro e' w' ⟨rfl, hb⟩; have HB := Lib.hid (below_on HB.out hb); clear hb)
    | (go_at_call 24; refine (chroster_nil _).mono ?_; rintro e' w' ⟨rfl, hb⟩; have HB := Lib.hid (below_on HB.out hb); clear hb)
    | (go_at_call 18; refine (step_nil (wd 1 1 0) 1 _).mono ?_; rintro e' w' ⟨rfl, hb⟩; have HB := Lib.hid (below_on HB.out hb); clear hb)
    | (go_at_call 20; refine (tick_nil 1 _).mono ?_; rintro e' w' ⟨rfl, rfl⟩)
    | (go_at_call 25; refine (changing_nil _).mono ?_; rintro e' w' ⟨rfl, rfl⟩)
    | (go_at_call 27; refine (lost_nil _).mono ?_; rintro e' w' ⟨rfl, rfl⟩)
    | (go_at_call 26; refine (until_nil _).mono ?_; rintro e' w' ⟨rfl, rfl⟩))
  go_ret
  exact ⟨rfl, HB.out⟩
set_option maxHeartbeats 6400000 in
theorem chiefLasts_walk (keep : Int) (hkeep : -9223372036854775808 ≤ keep ∧ keep ≤ 9223372036854775807) (w : World) (LA : Laid w) : Calls Tryz.prog 7 #[.int .i64 keep] w fun e w' => e = .returned (.bool true) ∧ Below w.heap.size w w' := by
  have HL := Lib.hid LA
  have HK := Lib.hid hkeep
  have hf0 := run_ros0
  have hf1 := run_ros1
  clear LA hkeep
  go_enter Tryz.func7, Tryz.ntmps7
  go_wp2_with fail
  refine (begun10_any _ HL.out).mono ?_
  rintro e w0 ⟨rfl, hb0⟩
  have HB0 := Lib.hid hb0
  clear hb0
  go_wp2_with fail
  refine (new_S (w0 := w) HB0.out 1048576 1048576 (by decide)).mono ?_
  rintro e w1 ⟨g, b, rfl, hs, -, -, -⟩
  have HS := Lib.hid hs
  clear hs
  go_wp2_with fail
  have hb1 := below_alloc (Below.refl w1.heap.size w1) (.cells #[.int .i64 2, .int .i64 3] 3)
  refine (chopen_fresh HL.out (HS.out.low hb1) (by decide) (by decide) (e := 7) (zs := [2, 3]) (by decide) (ints_litW w1 [2, 3] 3) (fun q hq => by
    have h1 := HS.out.1.ltg
    have h2 := HS.out.1.ltb
    simp [rowB] at hq
    omega) (now := 0) (fitI_of (by omega))).mono ?_
  rintro e w2 ⟨x, f1, rfl, hc, hfg, -, -⟩
  have HC1 : Hid (CH w w2 x (newS 7 [2, 3] 0) f1) := Lib.hid hc
  have HT := Lib.hid (chtear_any hc (by simp [newS, hearS, setR]) (by decide) keep HK.out)
  rw [hfg] at HT
  clear hc hfg hb1 HS
  go_wp2_with fail
  refine HT.out.mono ?_
  rintro e w8 ⟨g', b', rfl, htorn, hb, hg1, hb1⟩
  have htorn2 : Torn w w8 g' b' 7 [2, 3] 0 1 := htorn
  have HTn := Lib.hid htorn2
  clear htorn htorn2 hb hg1 hb1 HT HC1
  go_wp2_with fail
  refine (chopen_torn HL.out (HTn.out.low (below_alloc (Below.refl _ _) _)) (by decide) (by decide) (now := 9) (by decide) 1 (some ⟨w8.heap.size, 0, none⟩) [1] 1 0).mono ?_
  rintro e w9 ⟨y, fy, rfl, hy, -, -, -⟩
  have HY : Hid (CH w w9 y (tornS 7 [2, 3] 0 1 9) fy) := Lib.hid hy
  clear hy HTn
  go_wp2_with (first
    | (go_at_call 25; refine (changing_is HY.out (t := false) rfl).mono ?_; rintro e' w' ⟨rfl, rfl⟩)
    | (go_at_call 24; refine (chroster_is HY.out (e := 7) (nw := 0) (zs := [2, 3]) rfl rfl rfl (n := 2) rfl (by decide)).mono ?_; rintro e' w' ⟨ra, rc, rfl, -, hb⟩; have HY := Lib.hid (HY.out.low hb); clear hb)
    | (go_at_call 26; refine (until_is HY.out (n := 15) rfl).mono ?_; rintro e' w' ⟨rfl, rfl⟩))
  go_ret
  exact ⟨rfl, HY.out.below⟩
end Go.Proofs.YthiphdcbboapkaaGreatDoor

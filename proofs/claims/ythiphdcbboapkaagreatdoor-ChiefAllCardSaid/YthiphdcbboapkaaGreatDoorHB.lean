/- The document's chief in memory. The document's chief: hear, NewChief. The document's chief: Step. The document's chief: drops, Tick. The document's chief: Tick. The document's chief: NewChief. The order in which the law's eqLeases reads: any that its edges allow is as the text's. Walk of the law's eqLeases: the same leases. -/
import Derived.Test.YthiphdcbboapkaaGreatDoorH6
import Derived.BigQuiet
import Derived.Deep.QuietTactic
namespace Go.Proofs.YthiphdcbboapkaaGreatDoor
open Go.RowKit Go.Maps

set_option maxRecDepth 100000
/-- Where it stands; whom it heard; what stands where the next roster is. -/
structure Dt where
  a : Option Addr
  c : Nat
  g : Nat → Int
  ye : Int
  ya : Option Addr
  yn : Nat
  yc : Nat
  yw : Int
@[reducible] def docL (S : St) (F : Dt) : List Value := [.int .i64 S.e, .slice F.a S.zs.length F.c, .int .i64 S.nw, .int .i64 F.ye, .slice F.ya F.yn F.yc, .int .i64 F.yw, .bool (decide (0 < S.e2)), .int .i64 S.un, .int .i64 (F.g 0), .int .i64 (F.g 1), .int .i64 (F.g 2), .int .i64 (F.g 3), .int .i64 (F.g 4), .int .i64 (F.g 5), .int .i64 S.asks, .bool S.lost]
/-- The document's chief. -/
structure DAt (w : World) (d : Nat) (S : St) (F : Dt) : Prop where
  cs : ∀ (j : Nat) (v : Value), (docL S F)[j]? = some v → w.cell? ⟨d, j, none⟩ = some v
  fz : ∀ i, w.frozen? ⟨d, i, none⟩ = false
  rz : IntsAt w F.a S.zs
  cap : S.zs.length ≤ F.c
  nx : 0 < S.e2 → F.ye = S.e2 ∧ F.yn = S.zs2.length ∧ F.yw = S.nw2 ∧ IntsAt w F.ya S.zs2 ∧ S.zs2.length ≤ F.yc
theorem DAt.d0 {w : World} {d : Nat} {S : St} {F : Dt} (h : DAt w d S F) : w.cell? ⟨d, 0, none⟩ = some (.int .i64 S.e) := h.cs 0 _ rfl
theorem DAt.d1 {w : World} {d : Nat} {S : St} {F : Dt} (h : DAt w d S F) : w.cell? ⟨d, 1, none⟩ = some (.slice F.a S.zs.length F.c) := h.cs 1 _ rfl
theorem DAt.d2 {w : World} {d : Nat} {S : St} {F : Dt} (h : DAt w d S F) : w.cell? ⟨d, 2, none⟩ = some (.int .i64 S.nw) := h.cs 2 _ rfl
theorem DAt.d3 {w : World} {d : Nat} {S : St} {F : Dt} (h : DAt w d S F) : w.cell? ⟨d, 3, none⟩ = some (.int .i64 F.ye) := h.cs 3 _ rfl
theorem DAt.d4 {w : World} {d : Nat} {S : St} {F : Dt} (h : DAt w d S F) : w.cell? ⟨d, 4, none⟩ = some (.slice F.ya F.yn F.yc) := h.cs 4 _ rfl
theorem DAt.d5 {w : World} {d : Nat} {S : St} {F : Dt} (h : DAt w d S F) : w.cell? ⟨d, 5, none⟩ = some (.int .i64 F.yw) := h.cs 5 _ rfl
theorem DAt.d6 {w : World} {d : Nat} {S : St} {F : Dt} (h : DAt w d S F) : w.cell? ⟨d, 6, none⟩ = some (.bool (decide (0 < S.e2))) := h.cs 6 _ rfl
theorem DAt.d7 {w : World} {d : Nat} {S : St} {F : Dt} (h : DAt w d S F) : w.cell? ⟨d, 7, none⟩ = some (.int .i64 S.un) := h.cs 7 _ rfl
theorem DAt.d8 {w : World} {d : Nat} {S : St} {F : Dt} (h : DAt w d S F) : ∀ i, i < 6 → w.cell? ⟨d, 8 + i, none⟩ = some (.int .i64 (F.g i)) := fun i hi => by
  match i, hi with
  | 0, _ => exact h.cs 8 _ rfl
  | 1, _ => exact h.cs 9 _ rfl
  | 2, _ => exact h.cs 10 _ rfl
  | 3, _ => exact h.cs 11 _ rfl
  | 4, _ => exact h.cs 12 _ rfl
  | 5, _ => exact h.cs 13 _ rfl
theorem DAt.d14 {w : World} {d : Nat} {S : St} {F : Dt} (h : DAt w d S F) : w.cell? ⟨d, 14, none⟩ = some (.int .i64 S.asks) := h.cs 14 _ rfl
theorem DAt.d15 {w : World} {d : Nat} {S : St} {F : Dt} (h : DAt w d S F) : w.cell? ⟨d, 15, none⟩ = some (.bool S.lost) := h.cs 15 _ rfl
theorem DAt.lt {w : World} {d : Nat} {S : St} {F : Dt} (h : DAt w d S F) : d < w.heap.size := cell_old h.d0
theorem DAt.keepO {T : List Nat} {w w' : World} {d : Nat} {S : St} {F : Dt} (h : DAt w d S F) (k : Only T w w') (hd : d ∉ T) (ha : ∀ q ∈ rowB F.a, q ∉ T) (hy : 0 < S.e2 → ∀ q ∈ rowB F.ya, q ∉ T) : DAt w' d S F where
  cs := fun j v hv => k.cellK (p := ⟨d, j, none⟩) hd (h.cs j v hv)
  fz := fun i => (k.frozen (p := ⟨d, i, none⟩) h.lt hd).trans (h.fz i)
  rz := h.rz.keepO k ha
  cap := h.cap
  nx := fun h0 => by
    obtain ⟨h1, h2, h3, h4, h5⟩ := h.nx h0
    exact ⟨h1, h2, h3, h4.keepO k (hy h0), h5⟩
theorem DAt.low {w w' : World} {d : Nat} {S : St} {F : Dt} (h : DAt w d S F) (k : Below w.heap.size w w') : DAt w' d S F := h.keepO (T := []) (Only.of_below k) (by simp) (by simp) (by simp)
/-- One cell stored. -/
theorem DAt.put {w : World} {d : Nat} {S S' : St} {F F' : Dt} (h : DAt w d S F) (i : Nat) (v : Value) (he : docL S' F' = (docL S F).set i v) (hi : i < 16) (h1 : S'.zs = S.zs ∧ F'.a = F.a ∧ F'.c = F.c) (hx : 0 < S'.e2 → 0 < S.e2 ∧ F'.ye = F.ye ∧ F'.ya = F.ya ∧ F'.yn = F.yn ∧ F'.yc = F.yc ∧ F'.yw = F.yw ∧ S'.e2 = S.e2 ∧ S'.zs2 = S.zs2 ∧ S'.nw2 = S.nw2) (hd : ∀ q ∈ rowB F.a, q ≠ d) (hy : 0 < S.e2 → ∀ q ∈ rowB F.ya, q ≠ d) : DAt (w.setCell ⟨d, i, none⟩ v) d S' F' := by
  have ho : Only [d] w (w.setCell ⟨d, i, none⟩ v) := only_one i v
  refine ⟨fun j u hu => ?_, fun j => by rw [World.frozen?_setCell]; exact h.fz j, ?_, ?_, fun h0 => ?_⟩
  · rw [he] at hu
    by_cases e : j = i
    · subst e
      rw [List.getElem?_set_self (by simp; exact hi)] at hu
      obtain rfl := Option.some.inj hu
      have hc : (docL S F)[j]? = some ((docL S F)[j]'(by simp; exact hi)) := List.getElem?_eq_getElem _
      exact World.cell?_setCell_same _ _ _ (h.cs j _ hc)
    · rw [List.getElem?_set_ne (fun e2 => e e2.symm)] at hu
      rw [World.cell?_setCell_other _ _ _ _ (fun e2 => by injection e2 with h1 h2; omega)]
      exact h.cs j u hu
  · rw [h1.1, h1.2.1]
    exact h.rz.keepO ho (fun q hq => by simpa using hd q hq)
  · rw [h1.1, h1.2.2]; exact h.cap
  · obtain ⟨x0, x1, x2, x3, x4, x5, x6, x7, x8⟩ := hx h0
    obtain ⟨y1, y2, y3, y4, y5⟩ := h.nx x0
    refine ⟨by rw [x1, x6]; exact y1, by rw [x3, x7]; exact y2, by rw [x5, x8]; exact y3, ?_, by rw [x7, x4]; exact y5⟩
    rw [x2, x7]
    exact y4.keepO ho (fun q hq => by simpa using hy x0 q hq)
theorem muteL_congr {h h' : Int → Int} {now : Int} : ∀ {zs : List Int}, (∀ n ∈ zs, h n = h' n) → muteL zs h now = muteL zs h' now
  | [], _ => rfl
  | x :: r, hh => by
    show (if 9 < now - h x then x else muteL r h now) = if 9 < now - h' x then x else muteL r h' now
    rw [hh x (by simp), muteL_congr (zs := r) (fun n hn => hh n (by simp [hn]))]
end Go.Proofs.YthiphdcbboapkaaGreatDoor
namespace Go.Proofs.YthiphdcbboapkaaGreatDoor
open Go.RowKit Go.Maps

set_option maxRecDepth 100000
/-- Whom the document's chief heard, told of numbers. -/
def gI (g : Nat → Int) : Int → Int := fun n => g n.toNat
/-- Whom it heard is what the chief heard. -/
def HdG (S : St) (F : Dt) (T : Int) : Prop := (∀ n ∈ S.zs, gI F.g n = S.hd n) ∧ ∀ i, i < 6 → 0 ≤ F.g i ∧ F.g i ≤ T
def updN (g : Nat → Int) (n : Nat) (t : Int) : Nat → Int := fun m => if m = n then t else g m
theorem updN_self (g : Nat → Int) (n : Nat) (t : Int) : updN g n t n = t := if_pos rfl
theorem updN_ne {g : Nat → Int} {n m : Nat} {t : Int} (h : m ≠ n) : updN g n t m = g m := if_neg h
/-- One is heard. -/
theorem DAt.hear1 {w : World} {d : Nat} {S : St} {F : Dt} (h : DAt w d S F) (hd : ∀ q ∈ rowB F.a, q ≠ d) (hy : 0 < S.e2 → ∀ q ∈ rowB F.ya, q ≠ d) (k : Nat) (hk : k < 6) (t : Int) : DAt (w.setCell ⟨d, 8 + k, none⟩ (.int .i64 t)) d S { F with g := updN F.g k t } := by
  refine h.put (8 + k) _ ?_ (by omega) ⟨rfl, rfl, rfl⟩ (fun h0 => ⟨h0, rfl, rfl, rfl, rfl, rfl, rfl, rfl, rfl⟩) hd hy
  match k, hk with
  | 0, _ => rfl
  | 1, _ => rfl
  | 2, _ => rfl
  | 3, _ => rfl
  | 4, _ => rfl
  | 5, _ => rfl
/-- Nobody asks. -/
theorem DAt.ask {w : World} {d : Nat} {S : St} {F : Dt} (h : DAt w d S F) (hd : ∀ q ∈ rowB F.a, q ≠ d) (hy : 0 < S.e2 → ∀ q ∈ rowB F.ya, q ≠ d) (t : Int) : DAt (w.setCell ⟨d, 14, none⟩ (.int .i64 t)) d { S with asks := t } F :=
  h.put 14 _ rfl (by omega) ⟨rfl, rfl, rfl⟩ (fun h0 => ⟨h0, rfl, rfl, rfl, rfl, rfl, rfl, rfl, rfl⟩) hd hy
set_option maxHeartbeats 1600000 in
theorem dhear_any {w : World} {d : Nat} {S : St} {F : Dt} (H : DAt w d S F) (hd : ∀ q ∈ rowB F.a, q ≠ d) (hy : 0 < S.e2 → ∀ q ∈ rowB F.ya, q ≠ d) (now : Int) :
    Calls Tryz.prog 38 #[.pointer (some ⟨d, 0, none⟩), .int .i64 now] w fun e w' => e = .returned (.tuple #[]) ∧ ∃ g, (∀ i, i < 6 → g i = now) ∧ DAt w' d { S with asks := 0 } { F with g := g } ∧ Only [d] w w' := by
  have HD := Lib.hid H
  have HA := Lib.hid hd
  have HY := Lib.hid hy
  clear H hd hy
  go_enter Tryz.func38, Tryz.ntmps38
  go_wp2_with fail
  go_loopw [4] (fun n4 wr => ∃ (k : Nat) (g : Nat → Int), n4 = .int .i64 (k : Int) ∧ k ≤ 6 ∧ (∀ i, i < k → g i = now) ∧ DAt wr d S { F with g := g } ∧ Only [d] w wr) (fun n4 _ => 6 - (intOf n4).toNat)
  case atStart => exact ⟨0, F.g, rfl, by omega, fun i hi => by omega, HD.out, Only.refl _ _⟩
  case round =>
    obtain ⟨k, g, rfl, hk, hg, hda, hon⟩ := hrel
    have HD2 := Lib.hid hda
    have HG2 := Lib.hid hg
    have HO2 := Lib.hid hon
    by_cases hlt : k < 6
    · have d8 := hda.d8 k hlt
      have f8 := hda.fz (8 + k)
      have p1 : decide ((k : Int) < 6) = true := decide_eq_true (by omega)
      have hw : IntKind.i64.wrap ((k : Int) + 1) = (k : Int) + 1 := IntWalk.i64_in _ (by omega)
      have hk0 : (0 : Int) ≤ (k : Int) ∧ (k : Int) < 6 := by omega
      clear hda hg hon
      go_wp2_with fail
      go_roundw
      case rel => exact ⟨k + 1, updN g k now, by go_num, by omega, fun i hi => (by
        by_cases e : i = k
        · subst e; exact updN_self _ _ _
        · rw [updN_ne e]; exact HG2.out i (by omega)), HD2.out.hear1 HA.out HY.out k hlt now, HO2.out.trans (only_one _ _)⟩
      case measure => simp [intOf]; omega
    · obtain rfl : k = 6 := by omega
      have p1 : decide (((6 : Nat) : Int) < 6) = false := by decide
      have d14 := hda.d14
      have f14 := hda.fz 14
      clear hda hg hon
      go_wp2_with fail
      go_end0
      exact ⟨rfl, g, HG2.out, HD2.out.ask HA.out HY.out 0, HO2.out.trans (only_one _ _)⟩
end Go.Proofs.YthiphdcbboapkaaGreatDoor
namespace Go.Proofs.YthiphdcbboapkaaGreatDoor
open Go.RowKit Go.Maps

set_option maxRecDepth 100000
/-- What Step finds at first: the word in its box, the document's chief. -/
structure DBeg (w V : World) (d : Nat) (S : St) (F : Dt) (rb : Nat) (W : Wd) : Prop where
  wa : WAt V rb W
  da : DAt V d S F
  bl : Below w.heap.size w V
  rb' : w.heap.size = rb
  dl : d < w.heap.size
theorem DBeg.new {w : World} {d : Nat} {S : St} {F : Dt} (H : DAt w d S F) (W : Wd) (ty : TypeId) : DBeg w (w.alloc (.cells (wordC W) ty)) d S F w.heap.size W :=
  ⟨WAt.new w W ty, H.low (below_alloc (Below.refl _ _) _), below_alloc (Below.refl _ _) _, rfl, H.lt⟩
set_option maxHeartbeats 3200000 in
theorem dstep_no {w : World} {d : Nat} {S : St} {F : Dt} (H : DAt w d S F) (W : Wd) (h : W.tt ≠ 0 ∨ W.fr < 1 ∨ 5 < W.fr) (now : Int) :
    Calls Tryz.prog 19 #[.pointer (some ⟨d, 0, none⟩), wordV W, .int .i64 now] w fun e' w' => e' = .returned (.slice none 0 0) ∧ Below w.heap.size w w' := by
  have HG := Lib.hid (DBeg.new H W 46)
  clear H
  unfold wordC at HG
  have hh : (W.tt != 0) = true ∨ ((W.tt != 0) = false ∧ decide (W.fr < 1) = true) ∨ ((W.tt != 0) = false ∧ decide (W.fr < 1) = false ∧ decide (5 < W.fr) = true) := by
    by_cases h1 : W.tt = 0
    · by_cases h2 : W.fr < 1
      · exact Or.inr (Or.inl ⟨by simp [h1], by simp [h2]⟩)
      · exact Or.inr (Or.inr ⟨by simp [h1], by simp; omega, by simp; omega⟩)
    · exact Or.inl (by simp [h1])
  clear h
  rcases hh with q1 | ⟨q1, q2⟩ | ⟨q1, q2, q3⟩
  all_goals
    go_enter Tryz.func19, Tryz.ntmps19
    go_upto_region 1 with fail
    generalize w.alloc _ = V at HG ⊢
    generalize w.heap.size = rb at HG ⊢
    obtain ⟨k0, k1, k2, k3⟩ := HG.out.wa
    go_wp2_with fail
    go_ret
    exact ⟨rfl, by have h1 := HG.out.bl; exact h1⟩
/-- What is read of the document's chief and of the word. -/
def DRd (V : World) (d : Nat) (S : St) (F : Dt) (rb : Nat) (W : Wd) (U : World) : Prop :=
  U.cell? ⟨d, 0, none⟩ = some (.int .i64 S.e) ∧ U.cell? ⟨d, 1, none⟩ = some (.slice F.a S.zs.length F.c) ∧ U.cell? ⟨d, 2, none⟩ = some (.int .i64 S.nw) ∧ U.cell? ⟨rb, 0, none⟩ = some (.int .i64 W.kind) ∧ U.cell? ⟨rb, 1, none⟩ = some (.int .i64 W.fr) ∧ WAt U rb W ∧ DAt U d S F ∧ Below V.heap.size V U
theorem DRd.of {V U : World} {d : Nat} {S : St} {F : Dt} {rb : Nat} {W : Wd} (h1 : WAt V rb W) (h2 : DAt V d S F) (h3 : Below V.heap.size V U) : DRd V d S F rb W U :=
  ⟨cell_keep h3 h2.d0, cell_keep h3 h2.d1, cell_keep h3 h2.d2, cell_keep h3 h1.1, cell_keep h3 h1.2.1, h1.keep h3, h2.low h3, h3⟩
theorem DRd.keep {V U U' : World} {d : Nat} {S : St} {F : Dt} {rb : Nat} {W : Wd} (h : DRd V d S F rb W U) (k : Below U.heap.size U U') : DRd V d S F rb W U' := by
  obtain ⟨h1, h2, h3, h4, h5, h6, h7, h8⟩ := h
  exact ⟨cell_keep k h1, cell_keep k h2, cell_keep k h3, cell_keep k h4, cell_keep k h5, h6.keep k, h7.low k, below_on h8 k⟩
set_option maxHeartbeats 3200000 in
theorem dstep_ask {w : World} {d : Nat} {S : St} {F : Dt} (H : DAt w d S F) (hd : ∀ q ∈ rowB F.a, q ≠ d) (hy : 0 < S.e2 → ∀ q ∈ rowB F.ya, q ≠ d) (hl : S.zs.length ≤ 5) (W : Wd) (h0 : W.tt = 0) (h1 : 1 ≤ W.fr) (h2 : W.fr ≤ 5) (h3 : W.kind = 1) (h4 : idx S.zs W.fr < 0) (now : Int) :
    Calls Tryz.prog 19 #[.pointer (some ⟨d, 0, none⟩), wordV W, .int .i64 now] w fun e' w' => e' = .returned (.slice none 0 0) ∧ DAt w' d { S with asks := W.fr } F ∧ Only [d] w w' := by
  have HG := Lib.hid (DBeg.new H W 46)
  unfold wordC at HG
  have q1 : (W.tt != 0) = false := by simp [h0]
  have q2 : decide (W.fr < 1) = false := by simp; omega
  have q3 : decide (5 < W.fr) = false := by simp; omega
  have q4 : (W.kind == 1) = true := by simp [h3]
  obtain ⟨ix, hix⟩ : ∃ ix, idx S.zs W.fr = ix := ⟨_, rfl⟩
  have HIx := Lib.hid hix
  have q5 : decide (ix < 0) = true := decide_eq_true (by rw [← hix]; exact h4)
  have HA := Lib.hid hd
  have HY := Lib.hid hy
  clear H h0 h1 h2 h3 h4 hix hd hy
  go_enter Tryz.func19, Tryz.ntmps19
  go_upto_region 1 with fail
  generalize w.alloc _ = V at HG ⊢
  generalize w.heap.size = rb at HG ⊢
  obtain ⟨k0, k1, k2, k3⟩ := HG.out.wa
  go_upto_region 3 with fail
  have HR : Hid (DRd V d S F rb W V.drew) := Lib.hid (DRd.of HG.out.wa HG.out.da (Below.drew (Below.refl _ _)))
  go_region_held3 (fun U => U.cell? ⟨d, 0, none⟩ = some (.int .i64 S.e) ∧ U.cell? ⟨d, 1, none⟩ = some (.slice F.a S.zs.length F.c) ∧ U.cell? ⟨d, 2, none⟩ = some (.int .i64 S.nw) ∧ U.cell? ⟨rb, 0, none⟩ = some (.int .i64 W.kind) ∧ U.cell? ⟨rb, 1, none⟩ = some (.int .i64 W.fr) ∧ WAt U rb W ∧ DAt U d S F ∧ Below V.heap.size V U)
    (first | exact HR.out | exact DRd.keep (W := W) (‹_ ∧ _ ∧ _ ∧ _ ∧ _ ∧ WAt _ _ _ ∧ DAt _ _ _ _ ∧ Below _ _ _›) hb)
    (first | (go_at_call 28; have s := (‹_ ∧ _ ∧ _ ∧ _ ∧ _ ∧ WAt _ _ _ ∧ DAt _ _ _ _ ∧ Below _ _ _›).2.2.2.2.2.2.1; refine (spot_any S.e S.nw W.fr F.a F.c S.zs _ (by omega) s.rz).mono ?_; rw [HIx.out]; rintro e' w2 ⟨rfl, hb⟩; clear s))
  all_goals
    have s : Hid (DRd V d S F rb W w2) := Lib.hid (‹_ ∧ _ ∧ _ ∧ _ ∧ _ ∧ WAt _ _ _ ∧ DAt _ _ _ _ ∧ Below _ _ _›)
    have k1 := s.out.2.2.2.2.1
    have d14 := s.out.2.2.2.2.2.2.1.d14
    have f14 := s.out.2.2.2.2.2.2.1.fz 14
    go_wp2_with fail
    go_ret
    exact ⟨rfl, s.out.2.2.2.2.2.2.1.ask HA.out HY.out W.fr, (Only.of_below (below_on HG.out.bl s.out.2.2.2.2.2.2.2)).trans (only_one 14 _)⟩
/-! a member's beat -/
set_option maxHeartbeats 3200000 in
theorem dstep_beat {w : World} {d : Nat} {S : St} {F : Dt} (H : DAt w d S F) (hd : ∀ q ∈ rowB F.a, q ≠ d) (hy : 0 < S.e2 → ∀ q ∈ rowB F.ya, q ≠ d) (hl : S.zs.length ≤ 5) (W : Wd) (h0 : W.tt = 0) (h1 : 1 ≤ W.fr) (h2 : W.fr ≤ 5) (h3 : W.kind = 1) (h4 : 0 ≤ idx S.zs W.fr) {now : Int} (hn : 0 ≤ now ∧ now ≤ 4611686018427387904) :
    Calls Tryz.prog 19 #[.pointer (some ⟨d, 0, none⟩), wordV W, .int .i64 now] w fun e' w' => ∃ v, e' = .returned v ∧ DAt w' d (beatS S W.fr now) { F with g := updN F.g W.fr.toNat now } ∧ Only [d] w w' ∧
      (0 < S.e2 ∧ v = .slice none 0 0 ∨ ¬ 0 < S.e2 ∧ ∃ q, v = .slice (some ⟨q, 0, none⟩) 1 1 ∧ LeaseAt w' q W.fr S.e S.zs S.nw (now + 6) F.a F.c ∧ w.heap.size ≤ q) := by
  have HG := Lib.hid (DBeg.new H W 46)
  unfold wordC at HG
  have q1 : (W.tt != 0) = false := by simp [h0]
  have q2 : decide (W.fr < 1) = false := by simp; omega
  have q3 : decide (5 < W.fr) = false := by simp; omega
  have q4 : (W.kind == 1) = true := by simp [h3]
  obtain ⟨ix, hix⟩ : ∃ ix, idx S.zs W.fr = ix := ⟨_, rfl⟩
  have HIx := Lib.hid hix
  have q5 : decide (ix < 0) = false := decide_eq_false (by rw [← hix]; omega)
  have q8 : IntKind.i64.wrap (now + 6) = now + 6 := IntWalk.i64_in _ (by omega)
  have HFr : Hid (1 ≤ W.fr ∧ W.fr ≤ 5) := Lib.hid ⟨h1, h2⟩
  have HA := Lib.hid hd
  have HY := Lib.hid hy
  clear H h0 h1 h2 h3 h4 hix hd hy
  go_enter Tryz.func19, Tryz.ntmps19
  go_upto_region 1 with fail
  generalize w.alloc _ = V at HG ⊢
  generalize w.heap.size = rb at HG ⊢
  obtain ⟨k0, k1, k2, k3⟩ := HG.out.wa
  go_upto_region 3 with fail
  have HR : Hid (DRd V d S F rb W V.drew) := Lib.hid (DRd.of HG.out.wa HG.out.da (Below.drew (Below.refl _ _)))
  go_cut [20] from 21 to 33 (fun v wx => v = .bool false ∧ DRd V d S F rb W wx)
  case first =>
    go_region_held3 (fun U => U.cell? ⟨d, 0, none⟩ = some (.int .i64 S.e) ∧ U.cell? ⟨d, 1, none⟩ = some (.slice F.a S.zs.length F.c) ∧ U.cell? ⟨d, 2, none⟩ = some (.int .i64 S.nw) ∧ U.cell? ⟨rb, 0, none⟩ = some (.int .i64 W.kind) ∧ U.cell? ⟨rb, 1, none⟩ = some (.int .i64 W.fr) ∧ WAt U rb W ∧ DAt U d S F ∧ Below V.heap.size V U)
      (first | exact HR.out | exact DRd.keep (W := W) (‹_ ∧ _ ∧ _ ∧ _ ∧ _ ∧ WAt _ _ _ ∧ DAt _ _ _ _ ∧ Below _ _ _›) hb)
      (first | (go_at_call 28; have s := (‹_ ∧ _ ∧ _ ∧ _ ∧ _ ∧ WAt _ _ _ ∧ DAt _ _ _ _ ∧ Below _ _ _›).2.2.2.2.2.2.1; refine (spot_any S.e S.nw W.fr F.a F.c S.zs _ (by omega) s.rz).mono ?_; rw [HIx.out]; rintro e' w2 ⟨rfl, hb⟩; clear s))
    all_goals
      have s : Hid (DRd V d S F rb W w2) := Lib.hid (‹_ ∧ _ ∧ _ ∧ _ ∧ _ ∧ WAt _ _ _ ∧ DAt _ _ _ _ ∧ Below _ _ _›)
      go_wp2_with fail
      go_meet
      exact ⟨rfl, s.out⟩
  case rest =>
    obtain ⟨rfl, hs⟩ := hcut
    have HS := Lib.hid hs
    obtain ⟨n, hfn⟩ : ∃ n : Nat, W.fr = (n : Int) := ⟨W.fr.toNat, by have := HFr.out; omega⟩
    have hn6 : n < 6 := by have := HFr.out; omega
    have j0 := hs.2.2.2.1
    have j1 : wc.cell? ⟨rb, 1, none⟩ = some (.int .i64 (n : Int)) := by rw [← hfn]; exact hs.2.2.2.2.1
    have d8 := hs.2.2.2.2.2.2.1.d8 n hn6
    have f8 := hs.2.2.2.2.2.2.1.fz (8 + n)
    have HFn := Lib.hid hfn
    have hdn : (n : Int) < 6 := by omega
    clear hs hfn k0 k1 k2 k3 HR
    go_upto_region 6 with fail
    go_region
    have HD6 : Hid (DAt (wc.setCell ⟨d, 8 + n, none⟩ (.int .i64 now)).drew d S { F with g := updN F.g n now }) := Lib.hid ((HS.out.2.2.2.2.2.2.1.hear1 HA.out HY.out n hn6 now).low (Below.drew (Below.refl _ _)))
    have HO6 : Hid (Only [d] w (wc.setCell ⟨d, 8 + n, none⟩ (.int .i64 now)).drew) := Lib.hid (((Only.of_below (below_on HG.out.bl HS.out.2.2.2.2.2.2.2)).trans (only_one _ _)).drew)
    have hrd : ¬ (rb = d) := by have := HG.out.rb'; have := HG.out.dl; omega
    have j1' : (wc.setCell ⟨d, 8 + n, none⟩ (.int .i64 now)).drew.cell? ⟨rb, 1, none⟩ = some (.int .i64 (n : Int)) := by
      rw [World.cell?_drew, World.cell?_setCell_other _ _ _ _ (fun h => by injection h with h1 h2; omega)]
      exact j1
    clear j0 j1 d8 f8
    generalize (wc.setCell ⟨d, 8 + n, none⟩ (.int .i64 now)).drew = W6 at HD6 HO6 j1' ⊢
    have d6 := HD6.out.d6
    have d7 := HD6.out.d7
    have f7 := HD6.out.fz 7
    by_cases h5 : 0 < S.e2
    · have p5 : decide (0 < S.e2) = true := decide_eq_true h5
      have hbs : beatS S W.fr now = { S with hd := upd S.hd W.fr now, m := S.m + 1 } := by unfold beatS; rw [if_pos h5]
      have HB := Lib.hid hbs
      have H5 := Lib.hid h5
      rw [p5] at d6
      clear hbs h5
      go_wp2_with fail
      go_ret
      have hnn : W.fr.toNat = n := by rw [HFn.out]; simp
      refine ⟨_, rfl, ?_, HO6.out, Or.inl ⟨H5.out, rfl⟩⟩
      rw [HB.out, hnn]
      have h := HD6.out
      exact ⟨h.cs, h.fz, h.rz, h.cap, h.nx⟩
    · have p5 : decide (0 < S.e2) = false := decide_eq_false h5
      have hbs : beatS S W.fr now = { S with hd := upd S.hd W.fr now, m := S.m + 1, un := max S.un (now + 6) } := by unfold beatS; rw [if_neg h5]
      have HB := Lib.hid hbs
      have H5 := Lib.hid h5
      rw [p5] at d6
      clear hbs h5
      go_upto_region 9 with fail
      have HD8 : Hid (DAt (W6.setCell ⟨d, 7, none⟩ (.int .i64 (max S.un (now + 6)))) d (beatS S W.fr now) { F with g := updN F.g n now }) := Lib.hid (by
        rw [HB.out]
        exact HD6.out.put 7 _ rfl (by omega) ⟨rfl, rfl, rfl⟩ (fun h0 => ⟨h0, rfl, rfl, rfl, rfl, rfl, rfl, rfl, rfl⟩) HA.out HY.out)
      have HO8 : Hid (Only [d] w (W6.setCell ⟨d, 7, none⟩ (.int .i64 (max S.un (now + 6))))) := Lib.hid (HO6.out.trans (only_one _ _))
      have j1 : (W6.setCell ⟨d, 7, none⟩ (.int .i64 (max S.un (now + 6)))).cell? ⟨rb, 1, none⟩ = some (.int .i64 (n : Int)) := by
        rw [World.cell?_setCell_other _ _ _ _ (fun h => by injection h with h1 h2; omega)]
        exact j1'
      have hE : (beatS S W.fr now).e = S.e ∧ (beatS S W.fr now).zs = S.zs ∧ (beatS S W.fr now).nw = S.nw := by rw [HB.out]; exact ⟨rfl, rfl, rfl⟩
      have HEE := Lib.hid hE
      clear d6 d7 f7 j1' hE
      generalize W6.setCell ⟨d, 7, none⟩ (.int .i64 (max S.un (now + 6))) = W8 at HD8 HO8 j1 ⊢
      have d0 := HD8.out.d0
      have d1 := HD8.out.d1
      have d2 := HD8.out.d2
      rw [HEE.out.1] at d0
      rw [HEE.out.2.1] at d1
      rw [HEE.out.2.2] at d2
      go_region
      go_wp2_with fail
      go_ret
      have hnn : W.fr.toNat = n := by rw [HFn.out]; simp
      have hb9 : Below W8.heap.size W8 (W8.alloc (.cells (leaseA W.fr S.e F.a S.zs.length F.c S.nw (now + 6)) 46)).drew := Below.drew (below_alloc (Below.refl _ _) _)
      have hz8 : w.heap.size ≤ W8.heap.size := HO8.out.size
      rw [← HFn.out]
      refine ⟨_, rfl, ?_, HO8.out.top hb9, Or.inr ⟨H5.out, W8.heap.size, rfl, ⟨fun i v hv => ?_, fun i => World.frozen?_alloc_new _ _ _ _, ?_, by simp⟩, hz8⟩⟩
      · rw [hnn]; exact HD8.out.low hb9
      · exact (World.cell?_alloc_new W8 _ _ i).trans hv
      · have h := HD8.out.rz
        rw [HEE.out.2.1] at h
        exact h.keep hb9
/-! one that has learnt; what is left -/
set_option maxHeartbeats 3200000 in
theorem dstep_full {w : World} {d : Nat} {S : St} {F : Dt} (H : DAt w d S F) (hd : ∀ q ∈ rowB F.a, q ≠ d) (hy : 0 < S.e2 → ∀ q ∈ rowB F.ya, q ≠ d) (W : Wd) (h0 : W.tt = 0) (h1 : 1 ≤ W.fr) (h2 : W.fr ≤ 5) (h3 : W.kind = 11) (h4 : W.fr = S.nw) (h5 : W.ep = S.e) (h6 : ¬ 0 < S.e2) (now : Int) :
    Calls Tryz.prog 19 #[.pointer (some ⟨d, 0, none⟩), wordV W, .int .i64 now] w fun e' w' => e' = .returned (.slice none 0 0) ∧ DAt w' d (setR S S.e S.zs 0) F ∧ Only [d] w w' := by
  have HG := Lib.hid (DBeg.new H W 46)
  unfold wordC at HG
  have q1 : (W.tt != 0) = false := by simp [h0]
  have q2 : decide (W.fr < 1) = false := by simp; omega
  have q3 : decide (5 < W.fr) = false := by simp; omega
  have q4 : (W.kind == 1) = false := by simp [h3]
  have q5 : (W.kind == 11) = true := by simp [h3]
  have q6 : (W.fr == S.nw) = true := by simp [h4]
  have q7 : (W.ep == S.e) = true := by simp [h5]
  have q8 : decide (0 < S.e2) = false := decide_eq_false h6
  have HA := Lib.hid hd
  have HY := Lib.hid hy
  clear H h0 h1 h2 h3 h4 h5 h6 hd hy
  go_enter Tryz.func19, Tryz.ntmps19
  go_upto_region 1 with fail
  generalize w.alloc _ = V at HG ⊢
  generalize w.heap.size = rb at HG ⊢
  obtain ⟨k0, k1, k2, k3⟩ := HG.out.wa
  have d0 := HG.out.da.d0
  have d2 := HG.out.da.d2
  have d6 := HG.out.da.d6
  rw [q8] at d6
  go_wp2_with fail
  go_quiet (fail)
  have HQ1 : Hid (DAt (V.drewN nq) d S F ∧ WAt (V.drewN nq) rb W ∧ Below w.heap.size w (V.drewN nq)) := Lib.hid (by
    have hb : Below V.heap.size V (V.drewN nq) := below_drewN (Below.refl _ _) _
    exact ⟨HG.out.da.low hb, HG.out.wa.keep hb, below_on HG.out.bl hb⟩)
  clear d0 d2 d6 k0 k1 k2 k3
  generalize V.drewN nq = V1 at HQ1 ⊢
  obtain ⟨k0, k1, k2, k3⟩ := HQ1.out.2.1
  have d0 := HQ1.out.1.d0
  have d2 := HQ1.out.1.d2
  have d6 := HQ1.out.1.d6
  rw [q8] at d6
  clear nq
  go_wp2_with fail
  go_quiet (fail)
  have HQ : Hid (DAt (V1.drewN nq) d S F ∧ Below w.heap.size w (V1.drewN nq)) := Lib.hid (by
    have hb : Below V1.heap.size V1 (V1.drewN nq) := below_drewN (Below.refl _ _) _
    exact ⟨HQ1.out.1.low hb, below_on HQ1.out.2.2 hb⟩)
  clear d0 d2 d6 k0 k1 k2 k3
  generalize V1.drewN nq = V2 at HQ ⊢
  have d2 := HQ.out.1.d2
  have f2 := HQ.out.1.fz 2
  go_wp2_with fail
  go_ret
  exact ⟨rfl, HQ.out.1.put 2 _ rfl (by omega) ⟨rfl, rfl, rfl⟩ (fun h0 => ⟨h0, rfl, rfl, rfl, rfl, rfl, rfl, rfl, rfl⟩) HA.out HY.out, (Only.of_below HQ.out.2).trans (only_one 2 _)⟩
set_option maxHeartbeats 3200000 in
theorem dstep_idle {w : World} {d : Nat} {S : St} {F : Dt} (H : DAt w d S F) (W : Wd) (h0 : W.tt = 0) (h1 : 1 ≤ W.fr) (h2 : W.fr ≤ 5) (h3 : idle S W) (now : Int) :
    Calls Tryz.prog 19 #[.pointer (some ⟨d, 0, none⟩), wordV W, .int .i64 now] w fun e' w' => e' = .returned (.slice none 0 0) ∧ Below w.heap.size w w' := by
  have HG := Lib.hid (DBeg.new H W 46)
  unfold wordC at HG
  have q1 : (W.tt != 0) = false := by simp [h0]
  have q2 : decide (W.fr < 1) = false := by simp; omega
  have q3 : decide (5 < W.fr) = false := by simp; omega
  have q4 : (W.kind == 1) = false := by simpa using h3.1
  have hc : (W.kind == 11) = false ∨ ((W.kind == 11) = true ∧ (W.fr == S.nw) = false) ∨ ((W.kind == 11) = true ∧ (W.fr == S.nw) = true ∧ (W.ep == S.e) = false) ∨ ((W.kind == 11) = true ∧ (W.fr == S.nw) = true ∧ (W.ep == S.e) = true ∧ decide (0 < S.e2) = true) := by
    by_cases a1 : W.kind = 11
    · by_cases a2 : W.fr = S.nw
      · by_cases a3 : W.ep = S.e
        · by_cases a4 : 0 < S.e2
          · exact Or.inr (Or.inr (Or.inr ⟨by simp [a1], by simp [a2], by simp [a3], by simp [a4]⟩))
          · exact absurd ⟨a1, a2, a3, a4⟩ h3.2
        · exact Or.inr (Or.inr (Or.inl ⟨by simp [a1], by simp [a2], by simp [a3]⟩))
      · exact Or.inr (Or.inl ⟨by simp [a1], by simp [a2]⟩)
    · exact Or.inl (by simp [a1])
  clear H h0 h1 h2 h3
  rcases hc with q5 | ⟨q5, q6⟩ | ⟨q5, q6, q7⟩ | ⟨q5, q6, q7, q8⟩
  all_goals
    go_enter Tryz.func19, Tryz.ntmps19
    go_upto_region 1 with fail
    generalize w.alloc _ = V at HG ⊢
    generalize w.heap.size = rb at HG ⊢
    obtain ⟨k0, k1, k2, k3⟩ := HG.out.wa
    have d0 := HG.out.da.d0
    have d2 := HG.out.da.d2
    have d6 := HG.out.da.d6
    try rw [q8] at d6
    go_wp2_with fail
    go_quiet (fail)
    go_wp2_with fail
    go_quiet (fail)
    go_wp2_with fail
    go_ret
    exact ⟨rfl, below_on HG.out.bl (below_drewN (below_drewN (Below.refl _ _) _) _)⟩
/-- What Step told. -/
def DTold (w w' : World) (S : St) (F : Dt) (W : Wd) (now : Int) (v : Value) : Prop :=
  (leaseB S W.kind W.fr W.tt = false ∧ v = .slice none 0 0) ∨ (leaseB S W.kind W.fr W.tt = true ∧ ∃ q, v = .slice (some ⟨q, 0, none⟩) 1 1 ∧ LeaseAt w' q W.fr S.e S.zs S.nw (now + 6) F.a F.c ∧ w.heap.size ≤ q)
theorem stepS_rest (S : St) (kind fr tt ep now : Int) : (stepS S kind fr tt ep now).zs = S.zs := by
  unfold stepS
  split
  · rfl
  · split
    · split
      · rfl
      · unfold beatS; split <;> rfl
    · split <;> rfl
/-- Step of the document's chief, whatever the word. -/
theorem dstep_any {w : World} {d : Nat} {S : St} {F : Dt} (H : DAt w d S F) (hd : ∀ q ∈ rowB F.a, q ≠ d) (hy : 0 < S.e2 → ∀ q ∈ rowB F.ya, q ≠ d) (hl : S.zs.length ≤ 5) (hmem : ∀ n ∈ S.zs, 1 ≤ n ∧ n ≤ 5) {T : Int} (hg : HdG S F T) (W : Wd) {now : Int} (hn : 0 ≤ now ∧ now ≤ T) (hT : T ≤ 4611686018427387904) :
    Calls Tryz.prog 19 #[.pointer (some ⟨d, 0, none⟩), wordV W, .int .i64 now] w fun e' w' => ∃ v g, e' = .returned v ∧ DAt w' d (stepS S W.kind W.fr W.tt W.ep now) { F with g := g } ∧ HdG (stepS S W.kind W.fr W.tt W.ep now) { F with g := g } T ∧ Only [d] w w' ∧ DTold w w' S F W now v := by
  by_cases h1 : W.tt ≠ 0 ∨ W.fr < 1 ∨ 5 < W.fr
  · refine (dstep_no H W h1 now).mono ?_
    rintro e' w' ⟨rfl, hb⟩
    have hs : stepS S W.kind W.fr W.tt W.ep now = S := by unfold stepS; rw [if_pos h1]
    rw [hs]
    exact ⟨_, F.g, rfl, H.low hb, hg, Only.of_below hb, Or.inl ⟨by unfold leaseB; exact decide_eq_false (by omega), rfl⟩⟩
  · obtain ⟨h0, h2, h3⟩ : W.tt = 0 ∧ 1 ≤ W.fr ∧ W.fr ≤ 5 := by omega
    by_cases h4 : W.kind = 1
    · by_cases h5 : idx S.zs W.fr < 0
      · refine (dstep_ask H hd hy hl W h0 h2 h3 h4 h5 now).mono ?_
        rintro e' w' ⟨rfl, hda, ho⟩
        have hs : stepS S W.kind W.fr W.tt W.ep now = { S with asks := W.fr } := by unfold stepS; rw [if_neg h1, if_pos h4, if_pos h5]
        rw [hs]
        exact ⟨_, F.g, rfl, hda, hg, ho, Or.inl ⟨by unfold leaseB; exact decide_eq_false (by omega), rfl⟩⟩
      · refine (dstep_beat H hd hy hl W h0 h2 h3 h4 (by omega) (now := now) (by omega)).mono ?_
        rintro e' w' ⟨v, rfl, hda, ho, ht⟩
        have hs : stepS S W.kind W.fr W.tt W.ep now = beatS S W.fr now := by unfold stepS; rw [if_neg h1, if_pos h4, if_neg h5]
        rw [hs]
        have hbs : (beatS S W.fr now).zs = S.zs ∧ (beatS S W.fr now).hd = upd S.hd W.fr now := by unfold beatS; split <;> exact ⟨rfl, rfl⟩
        refine ⟨_, _, rfl, hda, ⟨fun n hn2 => ?_, fun i hi => ?_⟩, ho, ?_⟩
        · rw [hbs.1] at hn2
          rw [hbs.2]
          show updN F.g W.fr.toNat now n.toNat = upd S.hd W.fr now n
          have hm := hmem n hn2
          unfold updN upd
          by_cases e : n = W.fr
          · subst e; simp
          · rw [if_neg e, if_neg (by omega)]
            exact hg.1 n hn2
        · show 0 ≤ updN F.g W.fr.toNat now i ∧ updN F.g W.fr.toNat now i ≤ T
          unfold updN
          split
          · exact hn
          · exact hg.2 i hi
        · rcases ht with ⟨h6, rfl⟩ | ⟨h6, q, rfl, h7, h8⟩
          · exact Or.inl ⟨by unfold leaseB; exact decide_eq_false (by omega), rfl⟩
          · exact Or.inr ⟨by unfold leaseB; exact decide_eq_true (by omega), q, rfl, h7, h8⟩
    · by_cases h5 : W.kind = 11 ∧ W.fr = S.nw ∧ W.ep = S.e ∧ ¬ 0 < S.e2
      · refine (dstep_full H hd hy W h0 h2 h3 h5.1 h5.2.1 h5.2.2.1 h5.2.2.2 now).mono ?_
        rintro e' w' ⟨rfl, hda, ho⟩
        have hs : stepS S W.kind W.fr W.tt W.ep now = setR S S.e S.zs 0 := by unfold stepS; rw [if_neg h1, if_neg h4, if_pos h5]
        rw [hs]
        exact ⟨_, F.g, rfl, hda, hg, ho, Or.inl ⟨by unfold leaseB; exact decide_eq_false (by omega), rfl⟩⟩
      · refine (dstep_idle H W h0 h2 h3 ⟨h4, h5⟩ now).mono ?_
        rintro e' w' ⟨rfl, hb⟩
        have hs : stepS S W.kind W.fr W.tt W.ep now = S := by unfold stepS; rw [if_neg h1, if_neg h4, if_neg h5]
        rw [hs]
        exact ⟨_, F.g, rfl, H.low hb, hg, Only.of_below hb, Or.inl ⟨by unfold leaseB; exact decide_eq_false (by omega), rfl⟩⟩
end Go.Proofs.YthiphdcbboapkaaGreatDoor
namespace Go.Proofs.YthiphdcbboapkaaGreatDoor
open Go.RowKit Go.Maps

set_option maxRecDepth 100000
theorem muteL_at {hd : Int → Int} {now : Int} : ∀ {zs : List Int} {k : Nat}, k < zs.length → (∀ j, j < k → now - hd (nthI zs j) ≤ 9) → 9 < now - hd (nthI zs k) → muteL zs hd now = nthI zs k
  | [], k, hk, _, _ => by simp at hk
  | x :: r, 0, _, _, h9 => by
    show (if 9 < now - hd x then x else muteL r hd now) = x
    have h9' : 9 < now - hd x := h9
    rw [if_pos h9']
  | x :: r, k + 1, hk, hj, h9 => by
    show (if 9 < now - hd x then x else muteL r hd now) = nthI r k
    have h0 := hj 0 (by omega)
    rw [if_neg (by show ¬ 9 < now - hd (nthI (x :: r) 0); omega)]
    exact muteL_at (zs := r) (k := k) (by simpa using hk) (fun j hlt => hj (j + 1) (by omega)) h9
theorem mute_none0 {hd : Int → Int} {now : Int} {zs : List Int} (h : ∀ i ∈ zs, now - hd i ≤ 9) : muteL zs hd now = 0 := by
  induction zs with
  | nil => rfl
  | cons x r ih =>
    have h1 := h x (by simp)
    show (if 9 < now - hd x then x else muteL r hd now) = 0
    rw [if_neg (by omega)]
    exact ih (fun i hi => h i (by simp [hi]))
theorem muteL_all {hd : Int → Int} {now : Int} {zs : List Int} (h : ∀ j, j < zs.length → now - hd (nthI zs j) ≤ 9) : muteL zs hd now = 0 := mute_none0 (fun i hi => by
  obtain ⟨j, hj, e⟩ := List.getElem_of_mem hi
  have h2 := h j hj
  have h3 : nthI zs j = i := by unfold nthI; simp [List.getD, hj, e]
  rwa [h3] at h2)
/-- What drops gives: nobody is silent; one is, and goes or not. -/
def DropR (w : World) (r : Int × List Int × Int × Bool) (m : Int) (e' : Ending) (w' : World) : Prop :=
  (m = 0 ∧ e' = .returned (.tuple #[.agg #[.int .i64 0, .slice none 0 0, .int .i64 0], .bool false, .bool false]) ∧ Below w.heap.size w w') ∨
  (0 < m ∧ ∃ a c, e' = .returned (.tuple #[.agg #[.int .i64 r.1, .slice a r.2.1.length c, .int .i64 r.2.2.1], .bool true, .bool r.2.2.2]) ∧ OwnI w' w.heap.size (.slice a r.2.1.length c) r.2.1 ∧ Below w.heap.size w w')
theorem own_ge {w : World} {base : Nat} {a : Option Addr} {n c : Nat} {zs : List Int} (h : OwnI w base (.slice a n c) zs) : ∀ q ∈ rowB a, base ≤ q ∧ q < w.heap.size := by
  rcases h.2 with ⟨h1, _⟩ | ⟨g, cap, cur, h1, hb, hg, _⟩
  · simp only [Value.slice.injEq] at h1
    obtain ⟨rfl, _⟩ := h1
    simp [rowB]
  · simp only [Value.slice.injEq] at h1
    obtain ⟨rfl, _⟩ := h1
    intro q hq
    simp [rowB] at hq
    subst hq
    exact ⟨hb, (Array.getElem?_eq_some_iff.1 hg).1⟩
theorem own_le {w : World} {base : Nat} {a : Option Addr} {c : Nat} {zs : List Int} (h : OwnI w base (.slice a zs.length c) zs) : zs.length ≤ c := by
  obtain ⟨a', c', e, _, h3⟩ := own_cap h
  simp only [Value.slice.injEq] at e
  omega
theorem drop_ok {e nw n : Int} {zs : List Int} (h : (dropF e zs nw n).2.2.2 = true) : 1 < (dropF e zs nw n).2.1.length ∨ (dropF e zs nw n).2.2.1 = 0 := by
  have h2 := (dropF_may h).2.1
  have h3 := (mayB_iff.1 h2).2.2.2
  unfold newB at h3
  simp only [decide_eq_true_eq] at h3
  rcases h3 with h3 | h3
  · exact Or.inr h3
  · exact Or.inl h3.1
set_option maxHeartbeats 3200000 in
theorem ddrops_any {w : World} {d : Nat} {S : St} {F : Dt} (H : DAt w d S F) (hl : S.zs.length ≤ 5) (hmem : ∀ n ∈ S.zs, 1 ≤ n ∧ n ≤ 5) (he : 1 ≤ S.e ∧ S.e ≤ 1099511627776) {now : Int} (hn : 0 ≤ now ∧ now ≤ 4611686018427387000) (hg : ∀ i, i < 6 → 0 ≤ F.g i ∧ F.g i ≤ 4611686018427387000) {mu : Int} (hmu0 : muteL S.zs (gI F.g) now = mu) {r : Int × List Int × Int × Bool} (hr : dropF S.e S.zs S.nw mu = r) :
    Calls Tryz.prog 44 #[.pointer (some ⟨d, 0, none⟩), .int .i64 now] w (DropR w r mu) := by
  have HD := Lib.hid (H.low (below_alloc (Below.refl _ _) (.cells #[.int .i64 0, .slice none 0 0, .int .i64 0] 24)))
  have HB := Lib.hid (below_alloc (Below.refl w.heap.size w) (.cells #[.int .i64 0, .slice none 0 0, .int .i64 0] 24))
  have HX := Lib.hid (B3.new w (.int .i64 0) (.slice none 0 0) (.int .i64 0) 24)
  have HM := Lib.hid hmem
  have HG := Lib.hid hg
  clear H hmem hg
  go_enter Tryz.func44, Tryz.ntmps44
  go_upto_region 1 with fail
  generalize hV : w.alloc (.cells #[.int .i64 0, .slice none 0 0, .int .i64 0] 24) = V at HD HB HX ⊢
  have hs : V.heap.size = w.heap.size + 1 := by rw [← hV]; simp
  have HS := Lib.hid hs
  obtain ⟨rb, hrb⟩ : ∃ rb, w.heap.size = rb := ⟨_, rfl⟩
  have HRB := Lib.hid hrb
  rw [hrb] at HX HB HS ⊢
  clear hV hs hrb
  go_wp2_with fail
  go_loopw [7] (fun n7 wr => ∃ k : Nat, n7 = .int .i64 (k : Int) ∧ k ≤ S.zs.length ∧ (∀ j, j < k → now - gI F.g (nthI S.zs j) ≤ 9) ∧ wr = V) (fun n7 _ => S.zs.length - (intOf n7).toNat)
  case atStart => exact ⟨0, rfl, Nat.zero_le _, fun j hj => by omega, rfl⟩
  case round =>
    obtain ⟨k, rfl, hk, hj, rfl⟩ := hrel
    have HJ := Lib.hid hj
    clear hj
    have d1 := HD.out.d1
    by_cases hlt : k < S.zs.length
    · have p1 : decide ((k : Int) < (S.zs.length : Int)) = true := decide_eq_true (by omega)
      rcases HD.out.rz with h0 | ⟨b, o, ha, hb, hc⟩
      · exfalso; rw [h0] at hlt; simp at hlt
      have hv := hc k hlt
      have hmm := HM.out _ (nthI_mem S.zs k hlt)
      obtain ⟨m, hm⟩ : ∃ m : Nat, nthI S.zs k = (m : Int) := ⟨(nthI S.zs k).toNat, by omega⟩
      have HMk := Lib.hid hm
      have hm6 : m < 6 := by omega
      rw [hm] at hv
      rw [ha] at d1
      have d8 := HD.out.d8 m hm6
      have hgm := HG.out m hm6
      have hgk : gI F.g (nthI S.zs k) = F.g m := by rw [hm]; simp [gI]
      have HGk := Lib.hid hgk
      have hsub : IntKind.i64.wrap (now - F.g m) = now - F.g m := IntWalk.i64_in _ (by omega)
      have hw : IntKind.i64.wrap ((k : Int) + 1) = (k : Int) + 1 := IntWalk.i64_in _ (by omega)
      by_cases h9 : now - F.g m ≤ 9
      · have p2 : decide (now - F.g m ≤ 9) = true := decide_eq_true h9
        go_wp2_with fail
        go_roundw
        case rel => exact ⟨k + 1, by go_num, by omega, fun j hj => (by
          by_cases e : j = k
          · subst e; rw [HGk.out]; exact h9
          · exact HJ.out j (by omega)), trivial⟩
        case measure => simp [intOf]; omega
      · have p2 : decide (now - F.g m ≤ 9) = false := decide_eq_false h9
        have hmu : muteL S.zs (gI F.g) now = (m : Int) := by rw [← hm]; exact muteL_at hlt HJ.out (by rw [hgk]; omega)
        obtain rfl : mu = (m : Int) := hmu0.symm.trans hmu
        have hm1 : (0 : Int) < (m : Int) := by omega
        have d0 := HD.out.d0
        have d2 := HD.out.d2
        have HDr : Hid (Calls Tryz.prog 64 #[.agg #[.int .i64 S.e, .slice F.a S.zs.length F.c, .int .i64 S.nw], .int .i64 (m : Int)] wr (ResF wr r)) := Lib.hid (by rw [← hr]; exact dropNode_F S.e S.nw (m : Int) F.a F.c S.zs wr HD.out.rz (by omega) HD.out.cap (by omega))
        have HOk : Hid (r.2.2.2 = true → 1 < r.2.1.length ∨ r.2.2.1 = 0) := Lib.hid (by rw [← hr]; exact drop_ok)
        rw [ha] at HDr
        clear hr hmu hmu0
        obtain ⟨r0, r1, r2, ok⟩ := r
        go_upto_region 7 with (go_at_call 64; refine HDr.out.mono ?_; rintro e' w2 ⟨a2, c2, rfl, hown, hb2⟩; have HO := Lib.hid hown; have HB2 := Lib.hid hb2; have HX2 := Lib.hid (HX.out.keep hb2); clear hown hb2)
        have hb3 : Below w2.heap.size w2 (w2.alloc (.cells #[.int .i64 r0, .slice a2 r1.length c2, .int .i64 r2] 24)) := below_alloc (Below.refl _ _) _
        have HX3 := Lib.hid (HX2.out.keep hb3)
        have HY3 := Lib.hid (B3.new w2 (.int .i64 r0) (.slice a2 r1.length c2) (.int .i64 r2) 24)
        have HO3 := Lib.hid (ownsRow_below HO.out hb3)
        have HB3 := Lib.hid (below_on HB2.out hb3)
        have hqr : ¬ (w2.heap.size = rb) := by have := HX2.out.lt; omega
        clear hb3 HO HB2 HX2
        generalize w2.alloc (.cells #[.int .i64 r0, .slice a2 r1.length c2, .int .i64 r2] 24) = W3 at HX3 HY3 HO3 HB3 ⊢
        generalize w2.heap.size = qb at HY3 hqr ⊢
        have hfin : ∀ u v t : Value, OwnI (((W3.setCell ⟨rb, 0, none⟩ u).setCell ⟨rb, 1, none⟩ v).setCell ⟨rb, 2, none⟩ t).drew w.heap.size (.slice a2 r1.length c2) r1 ∧ Below w.heap.size w (((W3.setCell ⟨rb, 0, none⟩ u).setCell ⟨rb, 1, none⟩ v).setCell ⟨rb, 2, none⟩ t).drew := fun u v t => by
          have h1 : rb < wr.heap.size := by have := HS.out; have := HRB.out; omega
          refine ⟨?_, Below.drew ?_⟩
          · exact ownsRow_base (own_set3 HO3.out h1 _ _ _) (by have := HRB.out; omega)
          · rw [HRB.out]
            exact below_set3 (HB.out.trans (HB3.out.mono (by omega))) (Nat.le_refl _) _ _ _ _ _ _
        have HFin := Lib.hid hfin
        obtain ⟨y0, y1, y2, g0, g1, g2⟩ := HX3.out
        obtain ⟨z0, z1, z2, -⟩ := HY3.out
        clear hfin
        cases ok with
        | false =>
          go_region
          go_wp2_with fail
          refine bodyPost_ret (v := .tuple #[.agg #[.int .i64 r0, .slice a2 r1.length c2, .int .i64 r2], .bool true, .bool false]) (by simp [results, Tryz.results44, go_sem, y0, y1, y2]) rfl (Or.inr ⟨hm1, a2, c2, rfl, (HFin.out _ _ _).1, (HFin.out _ _ _).2⟩)
        | true =>
          by_cases hlen : 1 < r1.length
          · have p4 : decide (1 < (r1.length : Int)) = true := decide_eq_true (by omega)
            go_region
            go_wp2_with fail
            refine bodyPost_ret (v := .tuple #[.agg #[.int .i64 r0, .slice a2 r1.length c2, .int .i64 r2], .bool true, .bool true]) (by simp [results, Tryz.results44, go_sem, y0, y1, y2]) rfl (Or.inr ⟨hm1, a2, c2, rfl, (HFin.out _ _ _).1, (HFin.out _ _ _).2⟩)
          · have p4 : decide (1 < (r1.length : Int)) = false := decide_eq_false (by omega)
            have p5 : (r2 == 0) = true := by
              rcases HOk.out rfl with h | h
              · exact absurd h hlen
              · simpa using h
            go_region
            go_wp2_with fail
            refine bodyPost_ret (v := .tuple #[.agg #[.int .i64 r0, .slice a2 r1.length c2, .int .i64 r2], .bool true, .bool true]) (by simp [results, Tryz.results44, go_sem, y0, y1, y2]) rfl (Or.inr ⟨hm1, a2, c2, rfl, (HFin.out _ _ _).1, (HFin.out _ _ _).2⟩)
    · obtain rfl : k = S.zs.length := by omega
      have p1 : decide ((S.zs.length : Int) < (S.zs.length : Int)) = false := decide_eq_false (by omega)
      have hmu : muteL S.zs (gI F.g) now = 0 := muteL_all HJ.out
      obtain ⟨y0, y1, y2, g0, g1, g2⟩ := HX.out
      obtain rfl : mu = 0 := hmu0.symm.trans hmu
      go_wp2_with fail
      refine bodyPost_ret (v := .tuple #[.agg #[.int .i64 0, .slice none 0 0, .int .i64 0], .bool false, .bool false]) (by simp [results, Tryz.results44, go_sem, y0, y1, y2]) rfl (Or.inl ⟨rfl, rfl, by rw [HRB.out]; exact below_set3 HB.out (Nat.le_refl _) _ _ _ _ _ _⟩)
end Go.Proofs.YthiphdcbboapkaaGreatDoor
namespace Go.Proofs.YthiphdcbboapkaaGreatDoor
open Go.RowKit Go.Maps

set_option maxRecDepth 100000
/-- What the document's chief is behind an operation. -/
structure PostD (w : World) (d : Nat) (S : St) (F : Dt) (S' : St) (F' : Dt) (w' : World) : Prop where
  da : DAt w' d S' F'
  only : Only [d] w w'
  ra : ∀ q ∈ rowB F'.a, q ∈ rowB F.a ∨ (0 < S.e2 ∧ q ∈ rowB F.ya) ∨ w.heap.size ≤ q
  ry : 0 < S'.e2 → ∀ q ∈ rowB F'.ya, (0 < S.e2 ∧ q ∈ rowB F.ya) ∨ w.heap.size ≤ q
theorem docs_set {w : World} {d : Nat} {L : List Value} (h : ∀ (j : Nat) (v : Value), L[j]? = some v → w.cell? ⟨d, j, none⟩ = some v) (i : Nat) (hi : i < L.length) (v : Value) : ∀ (j : Nat) (u : Value), (L.set i v)[j]? = some u → (w.setCell ⟨d, i, none⟩ v).cell? ⟨d, j, none⟩ = some u := fun j u hu => by
  by_cases e : j = i
  · subst e
    rw [List.getElem?_set_self hi] at hu
    obtain rfl := Option.some.inj hu
    exact World.cell?_setCell_same _ _ _ (h j _ (List.getElem?_eq_getElem hi))
  · rw [List.getElem?_set_ne (fun e2 => e e2.symm)] at hu
    rw [World.cell?_setCell_other _ _ _ _ (fun e2 => by injection e2 with h1 h2; omega)]
    exact h j u hu
/-- 'Lost' stored. -/
theorem DAt.lo {w : World} {d : Nat} {S : St} {F : Dt} (h : DAt w d S F) (hd : ∀ q ∈ rowB F.a, q ≠ d) (hy : 0 < S.e2 → ∀ q ∈ rowB F.ya, q ≠ d) (t : Bool) : DAt (w.setCell ⟨d, 15, none⟩ (.bool t)) d { S with lost := t } F :=
  h.put 15 _ rfl (by omega) ⟨rfl, rfl, rfl⟩ (fun h0 => ⟨h0, rfl, rfl, rfl, rfl, rfl, rfl, rfl, rfl⟩) hd hy
theorem St.lost_same {S : St} (h : S.lost = false) : { S with lost := false } = S := by
  obtain ⟨e, zs, nw, e2, zs2, nw2, un, hd, asks, lost, k, m, on, le, lzs, lnw⟩ := S
  change lost = false at h
  subst h
  rfl
set_option maxHeartbeats 3200000 in
theorem dtick_wait {w : World} {d : Nat} {S : St} {F : Dt} (H : DAt w d S F) (hd : ∀ q ∈ rowB F.a, q ≠ d) (hy : 0 < S.e2 → ∀ q ∈ rowB F.ya, q ≠ d) {now : Int} (h1 : 0 < S.e2) (h2 : ¬ S.un < now) (hl : S.lost = false) :
    Calls Tryz.prog 21 #[.pointer (some ⟨d, 0, none⟩), .int .i64 now] w fun e' w' => e' = .returned (.tuple #[]) ∧ PostD w d S F S F w' := by
  have HD := Lib.hid (H.lo hd hy false)
  rw [St.lost_same hl] at HD
  have d15 := H.d15
  have f15 := H.fz 15
  have d6 := H.d6
  have d7 := H.d7
  have q1 : decide (0 < S.e2) = true := decide_eq_true h1
  have q2 : decide (S.un < now) = false := decide_eq_false h2
  rw [q1] at d6
  clear H hd hy h1 h2 hl
  go_enter Tryz.func21, Tryz.ntmps21
  go_wp2_with fail
  refine bodyPost_ret (results_none rfl _ _ _) rfl ?_
  exact ⟨rfl, HD.out, only_one 15 _, fun q hq => Or.inl hq, fun h0 q hq => Or.inl ⟨h0, hq⟩⟩
set_option maxHeartbeats 3200000 in
theorem dtick_turn {w : World} {d : Nat} {S : St} {F : Dt} (H : DAt w d S F) (hd : ∀ q ∈ rowB F.a, q ≠ d) (hy : 0 < S.e2 → ∀ q ∈ rowB F.ya, q ≠ d) {now : Int} (h1 : 0 < S.e2) (h2 : S.un < now) (hl : S.lost = false) :
    Calls Tryz.prog 21 #[.pointer (some ⟨d, 0, none⟩), .int .i64 now] w fun e' w' => e' = .returned (.tuple #[]) ∧ ∃ g, (∀ i, i < 6 → g i = now) ∧ PostD w d S F (roundS S now) { F with a := F.ya, c := F.yc, g := g } w' := by
  have HY := Lib.hid (hy h1)
  have HH1 := Lib.hid h1
  obtain ⟨a, c, g, ye, ya, yn, yc, yw⟩ := F
  obtain ⟨y1, y2, y3, y4, y5⟩ := H.nx h1
  change ye = S.e2 at y1
  change yn = S.zs2.length at y2
  change yw = S.nw2 at y3
  subst y1 y2 y3
  have d15 := H.d15
  have f15 := H.fz 15
  have d0 := H.d0
  have d1 := H.d1
  have d2 := H.d2
  have d3 := H.d3
  have d4 := H.d4
  have d5 := H.d5
  have d6 := H.d6
  have d7 := H.d7
  have f0 := H.fz 0
  have f1 := H.fz 1
  have f2 := H.fz 2
  have f6 := H.fz 6
  have q1 : decide (0 < S.e2) = true := decide_eq_true h1
  have q2 : decide (S.un < now) = true := decide_eq_true h2
  rw [q1] at d6
  have hW : ∀ b4 : Bool, b4 = false → DAt (((((w.setCell ⟨d, 15, none⟩ (.bool false)).setCell ⟨d, 0, none⟩ (.int .i64 S.e2)).setCell ⟨d, 1, none⟩ (.slice ya S.zs2.length yc)).setCell ⟨d, 2, none⟩ (.int .i64 S.nw2)).setCell ⟨d, 6, none⟩ (.bool false)) d { S with e := S.e2, zs := S.zs2, nw := S.nw2, e2 := 0, zs2 := [], nw2 := 0, lost := false } { a := ya, c := yc, g := g, ye := S.e2, ya := ya, yn := S.zs2.length, yc := yc, yw := S.nw2 } := fun _ _ => by
    refine ⟨docs_set (docs_set (docs_set (docs_set (docs_set H.cs 15 (by simp) _) 0 (by simp) _) 1 (by simp) _) 2 (by simp) _) 6 (by simp) _, fun i => by simp [H.fz i], ?_, y5, fun h0 => absurd h0 (by show ¬ (0 : Int) < 0; omega)⟩
    exact y4.keepO (((((only_one 15 _).trans (only_one 0 _)).trans (only_one 1 _)).trans (only_one 2 _)).trans (only_one 6 _)) (fun q hq hm => by simp at hm; exact HY.out q hq hm)
  have HW := Lib.hid (hW false rfl)
  have HO : Hid (Only [d] w (((((w.setCell ⟨d, 15, none⟩ (.bool false)).setCell ⟨d, 0, none⟩ (.int .i64 S.e2)).setCell ⟨d, 1, none⟩ (.slice ya S.zs2.length yc)).setCell ⟨d, 2, none⟩ (.int .i64 S.nw2)).setCell ⟨d, 6, none⟩ (.bool false))) := Lib.hid (((((only_one 15 _).trans (only_one 0 _)).trans (only_one 1 _)).trans (only_one 2 _)).trans (only_one 6 _))
  have HL := Lib.hid hl
  clear H hd hy h1 h2 hl hW y4 y5
  go_enter Tryz.func21, Tryz.ntmps21
  go_upto_region 4 with fail
  generalize ((((w.setCell ⟨d, 15, none⟩ (.bool false)).setCell ⟨d, 0, none⟩ (.int .i64 S.e2)).setCell ⟨d, 1, none⟩ (.slice ya S.zs2.length yc)).setCell ⟨d, 2, none⟩ (.int .i64 S.nw2)).setCell ⟨d, 6, none⟩ (.bool false) = W at HW HO ⊢
  clear d0 d1 d2 d3 d4 d5 d6 d7 d15 f0 f1 f2 f6 f15
  go_wp2_with (go_at_call 38; refine (dhear_any HW.out HY.out (fun h0 => absurd h0 (by show ¬ (0 : Int) < 0; omega)) now).mono ?_; rintro e' w2 ⟨rfl, g2, hg2, hda, hon⟩; have HD2 := Lib.hid hda; have HO2 := Lib.hid hon; have HG2 := Lib.hid hg2; clear hda hon hg2)
  refine bodyPost_ret (results_none rfl _ _ _) rfl ?_
  refine ⟨rfl, g2, HG2.out, ?_, HO.out.trans HO2.out, fun q hq => Or.inr (Or.inl ⟨HH1.out, hq⟩), fun h0 => absurd h0 (by show ¬ (0 : Int) < 0; omega)⟩
  have h := HD2.out
  refine ⟨fun j v hv => h.cs j v ?_, h.fz, h.rz, h.cap, fun h0 => absurd h0 (by show ¬ (0 : Int) < 0; omega)⟩
  rw [← hv]
  show _ = (docL (roundS S now) _)[j]?
  have e : (roundS S now).lost = false := HL.out
  unfold docL
  rw [e]
  rfl
/-- The next roster stored. -/
theorem DAt.next {w w' : World} {d : Nat} {S : St} {F : Dt} (h : DAt w d S F) (_ : S.e2 = 0) (hd : ∀ q ∈ rowB F.a, q ≠ d) {r0 r2 : Int} {r1 : List Int} {a2 : Option Addr} {c2 : Nat} (hp : 0 < r0) (hz : IntsAt w a2 r1) (hc : r1.length ≤ c2) (ha : ∀ q ∈ rowB a2, q ≠ d)
    (hw : w' = (((w.setCell ⟨d, 3, none⟩ (.int .i64 r0)).setCell ⟨d, 4, none⟩ (.slice a2 r1.length c2)).setCell ⟨d, 5, none⟩ (.int .i64 r2)).setCell ⟨d, 6, none⟩ (.bool true)) :
    DAt w' d { S with e2 := r0, zs2 := r1, nw2 := r2 } { F with ye := r0, ya := a2, yn := r1.length, yc := c2, yw := r2 } ∧ Only [d] w w' := by
  subst hw
  have ho : Only [d] w ((((w.setCell ⟨d, 3, none⟩ (.int .i64 r0)).setCell ⟨d, 4, none⟩ (.slice a2 r1.length c2)).setCell ⟨d, 5, none⟩ (.int .i64 r2)).setCell ⟨d, 6, none⟩ (.bool true)) := (((only_one 3 _).trans (only_one 4 _)).trans (only_one 5 _)).trans (only_one 6 _)
  refine ⟨⟨fun j v hv => docs_set (docs_set (docs_set (docs_set h.cs 3 (by simp) _) 4 (by simp) _) 5 (by simp) _) 6 (by simp) _ j v ?_, fun i => by simp [h.fz i], h.rz.keepO ho (fun q hq hm => by simp at hm; exact hd q hq hm), h.cap, fun _ => ⟨rfl, rfl, rfl, hz.keepO ho (fun q hq hm => by simp at hm; exact ha q hq hm), hc⟩⟩, ho⟩
  rw [← hv]
  have e : decide (0 < r0) = true := decide_eq_true hp
  unfold docL
  simp only [e]
  rfl
/-- A fresh box beside it. -/
structure IdW (w W : World) (d : Nat) (S : St) (F : Dt) (rb : Nat) (r0 : Int) (a : Option Addr) (r1 : List Int) (c : Nat) (r2 : Int) : Prop where
  da : DAt W d S F
  on : Only [d] w W
  bx : B3 W rb (.int .i64 r0) (.slice a r1.length c) (.int .i64 r2)
  rz : IntsAt W a r1
  rn : d ≠ rb
  rl : w.heap.size ≤ rb
  ra : ∀ q ∈ rowB a, w.heap.size ≤ q
  rc : r1.length ≤ c
theorem IdW.at6 {w W0 w2 : World} {d : Nat} {S : St} {F : Dt} {r0 : Int} {a : Option Addr} {r1 : List Int} {c : Nat} {r2 : Int} {ty : TypeId} (hD : DAt W0 d S F) (hO : Only [d] w W0) (hb : Below W0.heap.size W0 w2) (hown : OwnI w2 W0.heap.size (.slice a r1.length c) r1) (hc : r1.length ≤ c) :
    IdW w (w2.alloc (.cells #[.int .i64 r0, .slice a r1.length c, .int .i64 r2] ty)) d S F w2.heap.size r0 a r1 c r2 := by
  have hb3 : Below w2.heap.size w2 (w2.alloc (.cells #[.int .i64 r0, .slice a r1.length c, .int .i64 r2] ty)) := below_alloc (Below.refl _ _) _
  have hs0 := hO.size
  have hs1 := hb.size
  have hdl := hD.lt
  have h3 : DAt (w2.alloc (.cells #[.int .i64 r0, .slice a r1.length c, .int .i64 r2] ty)) d S F := (hD.low hb).low hb3
  have hra : ∀ q ∈ rowB a, W0.heap.size ≤ q := fun q hq => (own_ge hown q hq).1
  exact ⟨h3, (hO.top hb).top hb3, B3.new w2 _ _ _ ty, (own_ints hown).keep hb3, by omega, by omega, fun q hq => by have := hra q hq; omega, hc⟩
theorem IdW.lo {w W : World} {d : Nat} {S : St} {F : Dt} {rb : Nat} {r0 : Int} {a : Option Addr} {r1 : List Int} {c : Nat} {r2 : Int} (h : IdW w W d S F rb r0 a r1 c r2) (hd : ∀ q ∈ rowB F.a, q ≠ d) (he : ¬ 0 < S.e2) (hdl : d < w.heap.size) (lo : Bool) : IdW w (W.setCell ⟨d, 15, none⟩ (.bool lo)) d { S with lost := lo } F rb r0 a r1 c r2 :=
  ⟨h.da.lo hd (fun h0 => absurd h0 he) lo, h.on.trans (only_one 15 _), h.bx.keepO (only_one 15 _) (fun hm => by simp at hm; exact h.rn hm.symm), h.rz.keepO (only_one 15 _) (fun q hq hm => by simp at hm; have := h.ra q hq; omega), h.rn, h.rl, h.ra, h.rc⟩
theorem ints_blt {w : World} {a : Option Addr} {zs : List Int} (h : IntsAt w a zs) (hz : zs ≠ []) : ∀ q ∈ rowB a, q < w.heap.size := fun q hq => by
  rcases h with h | ⟨b, off, rfl, hb, -⟩
  · exact absurd h hz
  · simp [rowB] at hq; omega
theorem IdW.box3 {w W w5 : World} {d : Nat} {S : St} {F : Dt} {rb : Nat} {r0 : Int} {a : Option Addr} {r1 : List Int} {c : Nat} {r2 : Int} (h : IdW w W d S F rb 0 none [] 0 0) (he : ¬ 0 < S.e2) (hal : ∀ q ∈ rowB F.a, q < w.heap.size) (hb : Below W.heap.size W w5) (hown : OwnI w5 W.heap.size (.slice a r1.length c) r1) :
    IdW w (((w5.setCell ⟨rb, 0, none⟩ (.int .i64 r0)).setCell ⟨rb, 1, none⟩ (.slice a r1.length c)).setCell ⟨rb, 2, none⟩ (.int .i64 r2)) d S F rb r0 a r1 c r2 := by
  have ho : Only [rb] w5 (((w5.setCell ⟨rb, 0, none⟩ (.int .i64 r0)).setCell ⟨rb, 1, none⟩ (.slice a r1.length c)).setCell ⟨rb, 2, none⟩ (.int .i64 r2)) := ((only_one 0 _).trans (only_one 1 _)).trans (only_one 2 _)
  have hlt := h.bx.lt
  have hsz := h.on.size
  have hra : ∀ q ∈ rowB a, W.heap.size ≤ q := fun q hq => (own_ge hown q hq).1
  obtain ⟨y0, y1, y2, g0, g1, g2⟩ := h.bx.keep hb
  refine ⟨(h.da.low hb).keepO ho (fun hm => by simp at hm; exact h.rn hm) (fun q hq hm => by simp at hm; have := hal q hq; have := h.rl; omega) (fun h0 => absurd h0 he), (h.on.top hb).join ho (fun i hi => by simp at hi; have := h.rl; exact Or.inr (by omega)), ⟨?_, ?_, ?_, ?_, ?_, ?_⟩, (own_ints hown).keepO ho (fun q hq hm => by simp at hm; have := hra q hq; omega), h.rn, h.rl, fun q hq => by have := hra q hq; omega, own_le hown⟩
  · rw [World.cell?_setCell_other _ _ _ _ (by simp), World.cell?_setCell_other _ _ _ _ (by simp)]
    exact World.cell?_setCell_same _ _ _ y0
  · rw [World.cell?_setCell_other _ _ _ _ (by simp)]
    exact World.cell?_setCell_same _ _ _ (by rw [World.cell?_setCell_other _ _ _ _ (by simp)]; exact y1)
  · exact World.cell?_setCell_same _ _ _ (by rw [World.cell?_setCell_other _ _ _ _ (by simp), World.cell?_setCell_other _ _ _ _ (by simp)]; exact y2)
  · simp [g0]
  · simp [g1]
  · simp [g2]
set_option maxHeartbeats 3200000 in
theorem dtick_rest {w : World} {d : Nat} {S : St} {F : Dt} (H : DAt w d S F) (hd : ∀ q ∈ rowB F.a, q ≠ d) (h1 : ¬ 0 < S.e2) (hl : S.zs.length ≤ 5) (hmem : ∀ n ∈ S.zs, 1 ≤ n ∧ n ≤ 5) (he : 1 ≤ S.e ∧ S.e ≤ 1099511627776) {now : Int} (hn : 0 ≤ now ∧ now ≤ 4611686018427387000) (hg : ∀ i, i < 6 → 0 ≤ F.g i ∧ F.g i ≤ 4611686018427387000) (hmu : muteL S.zs (gI F.g) now = 0) (ha : S.asks = 0) :
    Calls Tryz.prog 21 #[.pointer (some ⟨d, 0, none⟩), .int .i64 now] w fun e' w' => e' = .returned (.tuple #[]) ∧ PostD w d S F { S with lost := false } F w' := by
  have hy : 0 < S.e2 → ∀ q ∈ rowB F.ya, q ≠ d := fun h0 => absurd h0 h1
  have HD0 := Lib.hid (H.lo hd hy false)
  have HA := Lib.hid hd
  have HE := Lib.hid h1
  have HDl := Lib.hid H.lt
  have d15 := H.d15
  have f15 := H.fz 15
  have HO0 : Hid (Only [d] w (w.setCell ⟨d, 15, none⟩ (.bool false))) := Lib.hid (only_one 15 _)
  have q1 : decide (0 < S.e2) = false := decide_eq_false h1
  have q2 : (S.asks != 0) = false := by simp [ha]
  clear H hd hy h1 ha
  go_enter Tryz.func21, Tryz.ntmps21
  go_upto_region 1 with fail
  generalize w.setCell ⟨d, 15, none⟩ (.bool false) = W0 at HD0 HO0 ⊢
  have d6 : W0.cell? ⟨d, 6, none⟩ = some (.bool (decide (0 < S.e2))) := HD0.out.d6
  rw [q1] at d6
  clear d15 f15
  go_wp2_with fail
  refine (ddrops_any HD0.out hl hmem he hn hg hmu rfl).mono ?_
  rintro e' w2 hr
  rcases hr with ⟨-, rfl, hb⟩ | ⟨hm, -⟩
  · have HI0 := Lib.hid (IdW.at6 (r0 := 0) (a := none) (r1 := []) (c := 0) (r2 := 0) (ty := 24) HD0.out HO0.out hb (World.ownsRow_nil _ _ _ _) (by simp))
    clear hb d6
    go_upto_region 6 with fail
    rw [List.length_nil] at HI0
    generalize w2.alloc _ = W3 at HI0 ⊢
    generalize w2.heap.size = rb at HI0 ⊢
    have d15 : W3.cell? ⟨d, 15, none⟩ = some (.bool false) := HI0.out.da.d15
    have f15 := HI0.out.da.fz 15
    have HI := Lib.hid (HI0.out.lo HA.out (show ¬ 0 < S.e2 by have := HE.out; omega) HDl.out false)
    go_upto_region 7 with fail
    clear d15 f15 HI0
    generalize W3.setCell _ _ = W4 at HI ⊢
    have d14 : W4.cell? ⟨d, 14, none⟩ = some (.int .i64 S.asks) := HI.out.da.d14
    go_wp2_with fail
    go_end0
    exact ⟨rfl, HI.out.da, HI.out.on, fun q hq => Or.inl hq, fun h0 => absurd h0 (show ¬ 0 < S.e2 by have := HE.out; omega)⟩
  · exact absurd hm (by omega)
/-- The end of a tick: what was found is stored or not. -/
theorem IdW.fin {w W : World} {d : Nat} {S : St} {F : Dt} {rb : Nat} {r0 : Int} {a : Option Addr} {r1 : List Int} {c : Nat} {r2 : Int} (h : IdW w W d S F rb r0 a r1 c r2) (he : ¬ 0 < S.e2) (hz : S.e2 = 0) (hd : ∀ q ∈ rowB F.a, q ≠ d) (hdl : d < w.heap.size) (hp : 0 < r0) :
    PostD w d S F { S with e2 := r0, zs2 := r1, nw2 := r2 } { F with ye := r0, ya := a, yn := r1.length, yc := c, yw := r2 } ((((W.setCell ⟨d, 3, none⟩ (.int .i64 r0)).setCell ⟨d, 4, none⟩ (.slice a r1.length c)).setCell ⟨d, 5, none⟩ (.int .i64 r2)).setCell ⟨d, 6, none⟩ (.bool true)) := by
  have _ := he
  obtain ⟨h1, h2⟩ := h.da.next (r2 := r2) hz hd hp h.rz h.rc (fun q hq e => by have := h.ra q hq; omega) rfl
  exact ⟨h1, h.on.trans h2, fun q hq => Or.inl hq, fun _ q hq => Or.inr (h.ra q hq)⟩
theorem PostD.lost {w w' : World} {d : Nat} {S S' : St} {F F' : Dt} {lo : Bool} (h : PostD w d { S with lost := lo } F S' F' w') : PostD w d S F S' F' w' := ⟨h.da, h.only, h.ra, h.ry⟩
set_option maxHeartbeats 3200000 in
theorem dtick_drop {w : World} {d : Nat} {S : St} {F : Dt} (H : DAt w d S F) (hd : ∀ q ∈ rowB F.a, q ≠ d) (hz : S.e2 = 0) (hl : S.zs.length ≤ 5) (hmem : ∀ n ∈ S.zs, 1 ≤ n ∧ n ≤ 5) (he : 1 ≤ S.e ∧ S.e ≤ 1099511627776) {now : Int} (hn : 0 ≤ now ∧ now ≤ 4611686018427387000) (hg : ∀ i, i < 6 → 0 ≤ F.g i ∧ F.g i ≤ 4611686018427387000) {m : Int} (hmu : muteL S.zs (gI F.g) now = m) (hm0 : 0 < m) {r : Int × List Int × Int × Bool} (hr : dropF S.e S.zs S.nw m = r) :
    Calls Tryz.prog 21 #[.pointer (some ⟨d, 0, none⟩), .int .i64 now] w fun e' w' => e' = .returned (.tuple #[]) ∧ ∃ F', F'.g = F.g ∧ PostD w d S F (nextS { S with lost := !r.2.2.2 } r) F' w' := by
  have h1 : ¬ 0 < S.e2 := by omega
  have hy : 0 < S.e2 → ∀ q ∈ rowB F.ya, q ≠ d := fun h0 => absurd h0 h1
  have HD0 := Lib.hid (H.lo hd hy false)
  have HA := Lib.hid hd
  have HE := Lib.hid h1
  have HZ := Lib.hid hz
  have HDl := Lib.hid H.lt
  have hne : r.2.2.2 = true → 0 < r.1 := fun h => by rw [← hr] at h ⊢; exact (dropF_may h).2.2
  have HNe := Lib.hid hne
  have d15 := H.d15
  have f15 := H.fz 15
  have HO0 : Hid (Only [d] w (w.setCell ⟨d, 15, none⟩ (.bool false))) := Lib.hid (only_one 15 _)
  have q1 : decide (0 < S.e2) = false := decide_eq_false h1
  clear H hd hy h1 hz hne
  obtain ⟨r0, r1, r2, ok⟩ := r
  go_enter Tryz.func21, Tryz.ntmps21
  go_upto_region 1 with fail
  generalize w.setCell ⟨d, 15, none⟩ (.bool false) = W0 at HD0 HO0 ⊢
  have d6 : W0.cell? ⟨d, 6, none⟩ = some (.bool (decide (0 < S.e2))) := HD0.out.d6
  rw [q1] at d6
  clear d15 f15
  go_wp2_with fail
  refine (ddrops_any HD0.out hl hmem he hn hg hmu hr).mono ?_
  rintro e' w2 hr2
  rcases hr2 with ⟨hm, -⟩ | ⟨-, a2, c2, rfl, hown, hb⟩
  · exact absurd hm (by omega)
  · have HI0 := Lib.hid (IdW.at6 (r0 := r0) (r2 := r2) (ty := 24) HD0.out HO0.out hb hown (own_le hown))
    clear hb hown d6
    go_upto_region 6 with fail
    generalize w2.alloc _ = W3 at HI0 ⊢
    generalize w2.heap.size = rb at HI0 ⊢
    have d15 : W3.cell? ⟨d, 15, none⟩ = some (.bool false) := HI0.out.da.d15
    have f15 := HI0.out.da.fz 15
    cases ok with
    | false =>
      have HI := Lib.hid (HI0.out.lo HA.out (show ¬ 0 < S.e2 by have := HE.out; omega) HDl.out true)
      go_upto_region 7 with fail
      clear d15 f15 HI0
      generalize W3.setCell _ _ = W4 at HI ⊢
      go_wp2_with fail
      go_end0
      exact ⟨rfl, F, rfl, HI.out.da, HI.out.on, fun q hq => Or.inl hq, fun h0 => absurd h0 (show ¬ 0 < S.e2 by have := HE.out; omega)⟩
    | true =>
      have HI := Lib.hid (HI0.out.lo HA.out (show ¬ 0 < S.e2 by have := HE.out; omega) HDl.out false)
      go_upto_region 7 with fail
      clear d15 f15 HI0
      generalize W3.setCell _ _ = W4 at HI ⊢
      obtain ⟨y0, y1, y2, -⟩ := HI.out.bx
      have d3 := HI.out.da.d3
      have d4 := HI.out.da.d4
      have d5 := HI.out.da.d5
      have d6 := HI.out.da.d6
      have f3 := HI.out.da.fz 3
      have f4 := HI.out.da.fz 4
      have f5 := HI.out.da.fz 5
      have f6 := HI.out.da.fz 6
      go_wp2_with fail
      go_end0
      exact ⟨rfl, { F with ye := r0, ya := a2, yn := r1.length, yc := c2, yw := r2 }, rfl, (HI.out.fin (show ¬ 0 < S.e2 by have := HE.out; omega) HZ.out HA.out HDl.out (HNe.out (by trivial))).lost⟩
set_option maxHeartbeats 3200000 in
theorem dtick_add {w : World} {d : Nat} {S : St} {F : Dt} (H : DAt w d S F) (hd : ∀ q ∈ rowB F.a, q ≠ d) (hz : S.e2 = 0) (hne0 : S.zs ≠ []) (hl : S.zs.length ≤ 5) (hmem : ∀ n ∈ S.zs, 1 ≤ n ∧ n ≤ 5) (he : 1 ≤ S.e ∧ S.e ≤ 1099511627776) {now : Int} (hn : 0 ≤ now ∧ now ≤ 4611686018427387000) (hg : ∀ i, i < 6 → 0 ≤ F.g i ∧ F.g i ≤ 4611686018427387000) (hmu : muteL S.zs (gI F.g) now = 0) (ha : 0 < S.asks) {r : Int × List Int × Int × Bool} (hr : addF S.e S.zs S.nw S.asks = r) :
    Calls Tryz.prog 21 #[.pointer (some ⟨d, 0, none⟩), .int .i64 now] w fun e' w' => e' = .returned (.tuple #[]) ∧ ∃ F', F'.g = F.g ∧ PostD w d S F (nextS { S with lost := false } r) F' w' := by
  have h1 : ¬ 0 < S.e2 := by omega
  have hy : 0 < S.e2 → ∀ q ∈ rowB F.ya, q ≠ d := fun h0 => absurd h0 h1
  have HD0 := Lib.hid (H.lo hd hy false)
  have HA := Lib.hid hd
  have HE := Lib.hid h1
  have HZ := Lib.hid hz
  have HDl := Lib.hid H.lt
  have HAl := Lib.hid (ints_blt H.rz hne0)
  have hne : r.2.2.2 = true → 0 < r.1 := fun h => by rw [← hr] at h ⊢; exact (addF_may h).2.2
  have HNe := Lib.hid hne
  have d15 := H.d15
  have f15 := H.fz 15
  have HO0 : Hid (Only [d] w (w.setCell ⟨d, 15, none⟩ (.bool false))) := Lib.hid (only_one 15 _)
  have q1 : decide (0 < S.e2) = false := decide_eq_false h1
  have q2 : (S.asks != 0) = true := by simp; omega
  have HAd : Hid (∀ W F', DAt W d { S with lost := false } F' → Calls Tryz.prog 45 #[.agg #[.int .i64 S.e, .slice F'.a S.zs.length F'.c, .int .i64 S.nw], .int .i64 S.asks] W (ResF W r)) := Lib.hid (fun W F' h => by rw [← hr]; exact addNode_F S.e S.nw S.asks F'.a F'.c S.zs W h.rz (by omega) (by omega))
  clear H hd hy h1 hz hne hr ha
  obtain ⟨r0, r1, r2, ok⟩ := r
  go_enter Tryz.func21, Tryz.ntmps21
  go_upto_region 1 with fail
  generalize w.setCell ⟨d, 15, none⟩ (.bool false) = W0 at HD0 HO0 ⊢
  have d6 : W0.cell? ⟨d, 6, none⟩ = some (.bool (decide (0 < S.e2))) := HD0.out.d6
  rw [q1] at d6
  clear d15 f15
  go_wp2_with fail
  refine (ddrops_any HD0.out hl hmem he hn hg hmu rfl).mono ?_
  rintro e' w2 hr2
  rcases hr2 with ⟨-, rfl, hb⟩ | ⟨hm, -⟩
  · have HI0 := Lib.hid (IdW.at6 (r0 := 0) (a := none) (r1 := []) (c := 0) (r2 := 0) (ty := 24) HD0.out HO0.out hb (World.ownsRow_nil _ _ _ _) (by simp))
    clear hb d6
    go_upto_region 6 with fail
    rw [List.length_nil] at HI0
    generalize w2.alloc _ = W3 at HI0 ⊢
    generalize w2.heap.size = rb at HI0 ⊢
    have d15 : W3.cell? ⟨d, 15, none⟩ = some (.bool false) := HI0.out.da.d15
    have f15 := HI0.out.da.fz 15
    have HI := Lib.hid (HI0.out.lo HA.out (show ¬ 0 < S.e2 by have := HE.out; omega) HDl.out false)
    go_upto_region 7 with fail
    clear d15 f15 HI0
    generalize W3.setCell _ _ = W4 at HI ⊢
    have d14 : W4.cell? ⟨d, 14, none⟩ = some (.int .i64 S.asks) := HI.out.da.d14
    go_upto_region 8 with fail
    go_cut [6] from 57 to 68 (fun v wx => v = .bool ok ∧ ∃ a5 c5, IdW w wx d { S with lost := false } F rb r0 a5 r1 c5 r2)
    case first =>
      have d0 : W4.cell? ⟨d, 0, none⟩ = some (.int .i64 S.e) := HI.out.da.d0
      have d1 : W4.cell? ⟨d, 1, none⟩ = some (.slice F.a S.zs.length F.c) := HI.out.da.d1
      have d2 : W4.cell? ⟨d, 2, none⟩ = some (.int .i64 S.nw) := HI.out.da.d2
      have HDD : Hid (DAt W4.drew d { S with lost := false } F) := Lib.hid (HI.out.da.low (Below.drew (Below.refl _ _)))
      have HXD : Hid (B3 W4.drew rb (.int .i64 0) (.slice none 0 0) (.int .i64 0)) := Lib.hid HI.out.bx
      go_region_with (first
        | (go_at_call 45; refine (HAd.out _ _ HDD.out).mono ?_; rintro e' w5 ⟨a5, c5, rfl, hown, hb⟩; have HO := Lib.hid hown; have HX2 := Lib.hid (HXD.out.keep hb); have HD5 := Lib.hid (HDD.out.low hb); have HBs := Lib.hid hb; obtain ⟨y0, y1, y2, g0, g1, g2⟩ := HX2.out; clear hb hown))
      all_goals
        go_wp2_with fail
        go_meet
        exact ⟨rfl, a5, c5, HI.out.box3 (show ¬ 0 < S.e2 by have := HE.out; omega) HAl.out (below_on (Below.drew (Below.refl _ _)) HBs.out) HO.out⟩
    case rest =>
      obtain ⟨rfl, a5, c5, hi⟩ := hcut
      have HI5 := Lib.hid hi
      clear hi
      cases ok with
      | false =>
        go_wp2_with fail
        go_end0
        exact ⟨rfl, F, rfl, HI5.out.da, HI5.out.on, fun q hq => Or.inl hq, fun h0 => absurd h0 (show ¬ 0 < S.e2 by have := HE.out; omega)⟩
      | true =>
        rename_i wx
        obtain ⟨y0, y1, y2, -⟩ := HI5.out.bx
        have d3 := HI5.out.da.d3
        have d4 := HI5.out.da.d4
        have d5 := HI5.out.da.d5
        have d6 := HI5.out.da.d6
        have f3 := HI5.out.da.fz 3
        have f4 := HI5.out.da.fz 4
        have f5 := HI5.out.da.fz 5
        have f6 := HI5.out.da.fz 6
        go_wp2_with fail
        go_end0
        exact ⟨rfl, { F with ye := r0, ya := a5, yn := r1.length, yc := c5, yw := r2 }, rfl, (HI5.out.fin (show ¬ 0 < S.e2 by have := HE.out; omega) HZ.out HA.out HDl.out (HNe.out (by trivial))).lost⟩
  · exact absurd hm (by omega)
theorem roundS_zs (S : St) (now : Int) : (roundS S now).zs = S.zs2 := rfl
/-- Tick of the document's chief, whatever the time. -/
theorem dtick_any {w : World} {d : Nat} {S : St} {F : Dt} (H : DAt w d S F) (hd : ∀ q ∈ rowB F.a, q ≠ d) (hy : 0 < S.e2 → ∀ q ∈ rowB F.ya, q ≠ d) {T : Int} (hok : OkS S T) (hT : T ≤ 4611686018427387000) (hg : HdG S F T) {now : Int} (hn : 0 ≤ now ∧ now ≤ T) :
    Calls Tryz.prog 21 #[.pointer (some ⟨d, 0, none⟩), .int .i64 now] w fun e' w' => e' = .returned (.tuple #[]) ∧ ∃ F', PostD w d S F (tickS S now) F' w' ∧ HdG (tickS S now) F' T := by
  obtain ⟨-, hl1, hl5, he, hmem, -⟩ := mayB_ok hok.may
  have hg6 : ∀ i, i < 6 → 0 ≤ F.g i ∧ F.g i ≤ 4611686018427387000 := fun i hi => by have := hg.2 i hi; omega
  have hmu : muteL S.zs (gI F.g) now = muteL S.zs S.hd now := muteL_congr hg.1
  have hnx : ∀ (S0 : St) (r : Int × List Int × Int × Bool), (nextS S0 r).zs = S0.zs ∧ (nextS S0 r).hd = S0.hd := fun S0 r => by unfold nextS; split <;> exact ⟨rfl, rfl⟩
  unfold tickS
  by_cases h1 : 0 < S.e2
  · rw [if_pos h1]
    have hx : mayB S.e2 S.zs2 S.nw2 = true ∧ S.lost = false := by
      rcases hok.nx with h | h
      · omega
      · exact ⟨h.2.1, h.2.2.2⟩
    by_cases h2 : S.un < now
    · rw [if_pos h2]
      refine (dtick_turn H hd hy h1 h2 hx.2).mono ?_
      rintro e' w' ⟨rfl, g, hgn, hp⟩
      have hm2 := (mayB_ok hx.1).2.2.2.2.1
      refine ⟨rfl, _, hp, fun n hn2 => ?_, fun i hi => ?_⟩
      · rw [roundS_zs] at hn2
        have := hm2 n hn2
        show g n.toNat = if n ∈ S.zs2 then now else 0
        rw [if_pos hn2, hgn _ (by omega)]
      · show 0 ≤ g i ∧ g i ≤ T
        rw [hgn i hi]; exact hn
    · rw [if_neg h2]
      refine (dtick_wait H hd hy h1 h2 hx.2).mono ?_
      rintro e' w' ⟨rfl, hp⟩
      exact ⟨rfl, F, hp, hg⟩
  · rw [if_neg h1]
    have hz : S.e2 = 0 := by
      rcases hok.nx with h | h
      · exact h.1
      · omega
    by_cases h2 : 0 < muteL S.zs S.hd now
    · rw [if_pos h2]
      refine (dtick_drop H hd hz hl5 hmem he (now := now) (by omega) hg6 hmu h2 rfl).mono ?_
      rintro e' w' ⟨rfl, F', hF, hp⟩
      refine ⟨rfl, F', hp, fun n hn2 => ?_, fun i hi => ?_⟩
      · rw [(hnx _ _).1] at hn2
        rw [(hnx _ _).2, hF]
        exact hg.1 n hn2
      · rw [hF]; exact hg.2 i hi
    · rw [if_neg h2]
      have hm0 : muteL S.zs (gI F.g) now = 0 := by
        have h3 := hmem
        have h4 : ∀ zs : List Int, (∀ n ∈ zs, 1 ≤ n ∧ n ≤ 5) → muteL zs S.hd now = 0 ∨ 0 < muteL zs S.hd now := fun zs => by
          induction zs with
          | nil => intro _; exact Or.inl rfl
          | cons x r ih =>
            intro hh
            show (if 9 < now - S.hd x then x else muteL r S.hd now) = 0 ∨ 0 < (if 9 < now - S.hd x then x else muteL r S.hd now)
            split
            · have := hh x (by simp); exact Or.inr (by omega)
            · exact ih (fun n hn => hh n (by simp [hn]))
        rw [hmu]
        rcases h4 S.zs h3 with h | h
        · exact h
        · exact absurd h h2
      by_cases h3 : 0 < S.asks
      · rw [if_pos h3]
        refine (dtick_add H hd hz (fun e => by rw [e] at hl1; simp at hl1) hl5 hmem he (now := now) (by omega) hg6 hm0 h3 rfl).mono ?_
        rintro e' w' ⟨rfl, F', hF, hp⟩
        refine ⟨rfl, F', hp, fun n hn2 => ?_, fun i hi => ?_⟩
        · rw [(hnx _ _).1] at hn2
          rw [(hnx _ _).2, hF]
          exact hg.1 n hn2
        · rw [hF]; exact hg.2 i hi
      · rw [if_neg h3]
        refine (dtick_rest H hd h1 hl5 hmem he (now := now) (by omega) hg6 hm0 (by have := hok.asks; omega)).mono ?_
        rintro e' w' ⟨rfl, hp⟩
        exact ⟨rfl, F, hp, hg⟩
end Go.Proofs.YthiphdcbboapkaaGreatDoor
namespace Go.Proofs.YthiphdcbboapkaaGreatDoor
open Go.RowKit Go.Maps

set_option maxRecDepth 100000
def F0 (a : Option Addr) (c : Nat) (g : Nat → Int) : Dt := { a := a, c := c, g := g, ye := 0, ya := none, yn := 0, yc := 0, yw := 0 }
set_option maxHeartbeats 3200000 in
theorem dnew_no {w : World} {e nw : Int} {zs : List Int} {a : Option Addr} {c : Nat} (hm : mayB e zs nw = false ∨ nw ≠ 0) (hz : IntsAt w a zs) (hl : zs.length ≤ 1000) (now : Int) :
    Calls Tryz.prog 16 #[.agg #[.int .i64 e, .slice a zs.length c, .int .i64 nw], .int .i64 now] w fun e' w' => e' = .returned (.tuple #[.pointer none, .bool false]) ∧ Below w.heap.size w w' := by
  have hb := below_alloc (Below.refl w.heap.size w) (.cells #[.int .i64 e, .slice a zs.length c, .int .i64 nw] 24)
  have HX := Lib.hid (B3.new w (.int .i64 e) (.slice a zs.length c) (.int .i64 nw) 24)
  have HZ := Lib.hid (hz.keep hb)
  have HB := Lib.hid hb
  obtain ⟨my, hmy⟩ : ∃ my, mayB e zs nw = my := ⟨_, rfl⟩
  have HM := Lib.hid hmy
  have hh : my = false ∨ my = true ∧ (nw != 0) = true := by
    cases my with
    | false => exact Or.inl rfl
    | true =>
      rcases hm with h | h
      · rw [h] at hmy; cases hmy
      · exact Or.inr ⟨rfl, by simpa using h⟩
  clear hz hb hm hmy
  rcases hh with rfl | ⟨rfl, q1⟩
  all_goals
    go_enter Tryz.func16, Tryz.ntmps16
    go_upto_region 1 with fail
    generalize w.alloc _ = V at HX HZ HB ⊢
    obtain ⟨rb, hrb⟩ : ∃ rb, w.heap.size = rb := ⟨_, rfl⟩
    have HRB := Lib.hid hrb
    rw [hrb] at HX HB ⊢
    clear hrb
    obtain ⟨y0, y1, y2, -⟩ := HX.out
    go_wp2_with (go_at_call 29; refine (mayRoster_any e nw a c zs _ (by omega) HZ.out).mono ?_; rw [HM.out]; rintro e' w' ⟨rfl, hb⟩; have HB2 := Lib.hid (HB.out.trans (hb.mono (by have := HX.out.lt; omega))); have y2' := cell_keep hb y2; clear hb y0 y1 y2)
    go_ret2
    exact ⟨rfl, by rw [HRB.out]; exact HB2.out⟩
set_option maxHeartbeats 3200000 in
theorem dnew_yes {w : World} {e : Int} {zs : List Int} {a : Option Addr} {c : Nat} (hm : mayB e zs 0 = true) (hz : IntsAt w a zs) (hcap : zs.length ≤ c) (now : Int) :
    Calls Tryz.prog 16 #[.agg #[.int .i64 e, .slice a zs.length c, .int .i64 0], .int .i64 now] w fun e' w' => ∃ d g, e' = .returned (.tuple #[.pointer (some ⟨d, 0, none⟩), .bool true]) ∧ (∀ i, i < 6 → g i = now) ∧ DAt w' d (newS e zs now) (F0 a c g) ∧ w.heap.size ≤ d ∧ Below w.heap.size w w' := by
  have hb := below_alloc (Below.refl w.heap.size w) (.cells #[.int .i64 e, .slice a zs.length c, .int .i64 0] 24)
  have hl5 := (mayB_mayL hm).2
  have hne : zs ≠ [] := fun h => by rw [h] at hl5; simp at hl5
  have HAl := Lib.hid (ints_blt hz hne)
  have HX := Lib.hid (B3.new w (.int .i64 e) (.slice a zs.length c) (.int .i64 0) 24)
  have HZ := Lib.hid (hz.keep hb)
  have HB := Lib.hid hb
  have HM := Lib.hid hm
  have HS : Hid ((w.alloc (.cells #[.int .i64 e, .slice a zs.length c, .int .i64 0] 24)).heap.size = w.heap.size + 1) := Lib.hid (by simp)
  clear hz hb hm hne
  go_enter Tryz.func16, Tryz.ntmps16
  go_upto_region 1 with fail
  generalize w.alloc _ = V at HX HZ HB HS ⊢
  obtain ⟨rb, hrb⟩ : ∃ rb, w.heap.size = rb := ⟨_, rfl⟩
  have HRB := Lib.hid hrb
  rw [hrb] at HX HB HS ⊢
  clear hrb
  obtain ⟨y0, y1, y2, -⟩ := HX.out
  go_wp2_with (go_at_call 29; refine (mayRoster_any e 0 a c zs _ (by omega) HZ.out).mono ?_; rw [HM.out]; rintro e' w2 ⟨rfl, hb⟩; have HB2 := Lib.hid hb; have HZ2 := Lib.hid (HZ.out.keep hb); have HX2 := Lib.hid (HX.out.keep hb); clear hb y0 y1 y2; obtain ⟨y0, y1, y2, -⟩ := HX2.out)
  have hb3 : Below w2.heap.size w2 (w2.alloc (.cells (docL (newS e zs now) (F0 a c (fun _ => 0))).toArray 51)) := below_alloc (Below.refl _ _) _
  have HD : Hid (DAt (w2.alloc (.cells (docL (newS e zs now) (F0 a c (fun _ => 0))).toArray 51)) w2.heap.size (newS e zs now) (F0 a c (fun _ => 0))) := Lib.hid (by
    refine ⟨fun j v hv => ?_, fun i => World.frozen?_alloc_new _ _ _ _, HZ2.out.keep hb3, hcap, fun h0 => absurd h0 (by show ¬ (0 : Int) < 0; omega)⟩
    rw [World.cell?_alloc_new]
    simpa using hv)
  have hw2 : w.heap.size ≤ w2.heap.size := by have := HB.out.size; have := HB2.out.size; have := HS.out; have := HRB.out; omega
  have HW2 := Lib.hid hw2
  have HB3 := Lib.hid hb3
  refine (dhear_any HD.out (fun q hq => by have := HAl.out q hq; omega) (fun h0 => absurd h0 (by show ¬ (0 : Int) < 0; omega)) now).mono ?_
  rintro e' w3 ⟨rfl, g, hg, hda, ho⟩
  have HG := Lib.hid hg
  have HDA := Lib.hid hda
  have HO := Lib.hid ho
  clear hg hda ho hw2 hb3 y0 y1 y2
  go_wp2_with fail
  go_ret2
  have h := HDA.out
  have hbw : Below w.heap.size w w2 := by rw [HRB.out]; exact HB.out.trans (HB2.out.mono (by have := HS.out; omega))
  exact ⟨w2.heap.size, g, rfl, HG.out, ⟨h.cs, h.fz, h.rz, h.cap, h.nx⟩, HW2.out, Only.under (below_on hbw HB3.out) HO.out (fun i hi => by simp at hi; have := HW2.out; omega)⟩
end Go.Proofs.YthiphdcbboapkaaGreatDoor
namespace Go.Proofs.YthiphdcbboapkaaGreatDoor
open Go.RowKit

set_option maxRecDepth 100000
/-- A region's operations, by its number. -/
def regOf (i : Nat) : Code → Option (List Oper)
  | .region id ops _ => if id = i then some ops.toList else none
  | .seq a b => (regOf i a).or (regOf i b)
  | .cond _ a b => (regOf i a).or (regOf i b)
  | .block _ b => regOf i b
  | .loop b => regOf i b
  | .scope b => regOf i b
  | _ => none
/-- So many steps of the text's order. -/
def lexUp (ops : Array Oper) : Nat → Nat → Array Bool → Bool
  | 0, _, _ => true
  | n + 1, k, l => (Region.ready .any ops l).contains k && Region.free .any ops l k && lexUp ops n (k + 1) (l.setIfInBounds k true)
def setUp : Nat → Nat → Array Bool → Array Bool
  | 0, _, l => l
  | n + 1, k, l => setUp n (k + 1) (l.setIfInBounds k true)
theorem lexFrom_add (ops : Array Oper) (r : Nat) : ∀ (n k : Nat) (l : Array Bool), lexUp ops n k l = true → Region.lexFrom .any ops r (k + n) (setUp n k l) = true → Region.lexFrom .any ops (r + n) k l = true
  | 0, _, _, _, h => h
  | n + 1, k, l, h1, h2 => by
    simp only [lexUp, Bool.and_eq_true] at h1
    show ((Region.ready .any ops l).contains k && Region.free .any ops l k && Region.lexFrom .any ops (r + n) (k + 1) (l.setIfInBounds k true)) = true
    rw [h1.1.1, h1.1.2, lexFrom_add ops r n (k + 1) _ h1.2 (by rw [show k + 1 + n = k + (n + 1) by omega]; exact h2)]
    rfl
def ltf (k : Nat) : Array Bool := (List.replicate k true ++ List.replicate (97 - k) false).toArray
theorem lex_0 : lexUp (((Tryz.f17).body.bind (regOf 6)).getD []).toArray 8 0 (ltf 0) = true := by kernel_rfl
theorem set_0 : setUp 8 0 (ltf 0) = ltf 8 := by kernel_rfl
theorem lex_8 : lexUp (((Tryz.f17).body.bind (regOf 6)).getD []).toArray 8 8 (ltf 8) = true := by kernel_rfl
theorem set_8 : setUp 8 8 (ltf 8) = ltf 16 := by kernel_rfl
theorem lex_16 : lexUp (((Tryz.f17).body.bind (regOf 6)).getD []).toArray 8 16 (ltf 16) = true := by kernel_rfl
theorem set_16 : setUp 8 16 (ltf 16) = ltf 24 := by kernel_rfl
theorem lex_24 : lexUp (((Tryz.f17).body.bind (regOf 6)).getD []).toArray 8 24 (ltf 24) = true := by kernel_rfl
theorem set_24 : setUp 8 24 (ltf 24) = ltf 32 := by kernel_rfl
theorem lex_32 : lexUp (((Tryz.f17).body.bind (regOf 6)).getD []).toArray 8 32 (ltf 32) = true := by kernel_rfl
theorem set_32 : setUp 8 32 (ltf 32) = ltf 40 := by kernel_rfl
theorem lex_40 : lexUp (((Tryz.f17).body.bind (regOf 6)).getD []).toArray 8 40 (ltf 40) = true := by kernel_rfl
theorem set_40 : setUp 8 40 (ltf 40) = ltf 48 := by kernel_rfl
theorem lex_48 : lexUp (((Tryz.f17).body.bind (regOf 6)).getD []).toArray 8 48 (ltf 48) = true := by kernel_rfl
theorem set_48 : setUp 8 48 (ltf 48) = ltf 56 := by kernel_rfl
theorem lex_56 : lexUp (((Tryz.f17).body.bind (regOf 6)).getD []).toArray 8 56 (ltf 56) = true := by kernel_rfl
theorem set_56 : setUp 8 56 (ltf 56) = ltf 64 := by kernel_rfl
theorem lex_64 : lexUp (((Tryz.f17).body.bind (regOf 6)).getD []).toArray 8 64 (ltf 64) = true := by kernel_rfl
theorem set_64 : setUp 8 64 (ltf 64) = ltf 72 := by kernel_rfl
theorem lex_72 : lexUp (((Tryz.f17).body.bind (regOf 6)).getD []).toArray 8 72 (ltf 72) = true := by kernel_rfl
theorem set_72 : setUp 8 72 (ltf 72) = ltf 80 := by kernel_rfl
theorem lex_80 : lexUp (((Tryz.f17).body.bind (regOf 6)).getD []).toArray 8 80 (ltf 80) = true := by kernel_rfl
theorem set_80 : setUp 8 80 (ltf 80) = ltf 88 := by kernel_rfl
theorem lex_88 : lexUp (((Tryz.f17).body.bind (regOf 6)).getD []).toArray 8 88 (ltf 88) = true := by kernel_rfl
theorem set_88 : setUp 8 88 (ltf 88) = ltf 96 := by kernel_rfl
theorem lex_96 : lexUp (((Tryz.f17).body.bind (regOf 6)).getD []).toArray 1 96 (ltf 96) = true := by kernel_rfl
theorem set_96 : setUp 1 96 (ltf 96) = ltf 97 := by kernel_rfl
theorem lex_end : Region.lexFrom .any (((Tryz.f17).body.bind (regOf 6)).getD []).toArray 0 97 (ltf 97) = true := by kernel_rfl
theorem from_96 : Region.lexFrom .any (((Tryz.f17).body.bind (regOf 6)).getD []).toArray 1 96 (ltf 96) = true := lexFrom_add (((Tryz.f17).body.bind (regOf 6)).getD []).toArray 0 1 96 (ltf 96) lex_96 (by rw [set_96]; exact lex_end)
theorem from_88 : Region.lexFrom .any (((Tryz.f17).body.bind (regOf 6)).getD []).toArray 9 88 (ltf 88) = true := lexFrom_add (((Tryz.f17).body.bind (regOf 6)).getD []).toArray 1 8 88 (ltf 88) lex_88 (by rw [set_88]; exact from_96)
theorem from_80 : Region.lexFrom .any (((Tryz.f17).body.bind (regOf 6)).getD []).toArray 17 80 (ltf 80) = true := lexFrom_add (((Tryz.f17).body.bind (regOf 6)).getD []).toArray 9 8 80 (ltf 80) lex_80 (by rw [set_80]; exact from_88)
theorem from_72 : Region.lexFrom .any (((Tryz.f17).body.bind (regOf 6)).getD []).toArray 25 72 (ltf 72) = true := lexFrom_add (((Tryz.f17).body.bind (regOf 6)).getD []).toArray 17 8 72 (ltf 72) lex_72 (by rw [set_72]; exact from_80)
theorem from_64 : Region.lexFrom .any (((Tryz.f17).body.bind (regOf 6)).getD []).toArray 33 64 (ltf 64) = true := lexFrom_add (((Tryz.f17).body.bind (regOf 6)).getD []).toArray 25 8 64 (ltf 64) lex_64 (by rw [set_64]; exact from_72)
theorem from_56 : Region.lexFrom .any (((Tryz.f17).body.bind (regOf 6)).getD []).toArray 41 56 (ltf 56) = true := lexFrom_add (((Tryz.f17).body.bind (regOf 6)).getD []).toArray 33 8 56 (ltf 56) lex_56 (by rw [set_56]; exact from_64)
theorem from_48 : Region.lexFrom .any (((Tryz.f17).body.bind (regOf 6)).getD []).toArray 49 48 (ltf 48) = true := lexFrom_add (((Tryz.f17).body.bind (regOf 6)).getD []).toArray 41 8 48 (ltf 48) lex_48 (by rw [set_48]; exact from_56)
theorem from_40 : Region.lexFrom .any (((Tryz.f17).body.bind (regOf 6)).getD []).toArray 57 40 (ltf 40) = true := lexFrom_add (((Tryz.f17).body.bind (regOf 6)).getD []).toArray 49 8 40 (ltf 40) lex_40 (by rw [set_40]; exact from_48)
theorem from_32 : Region.lexFrom .any (((Tryz.f17).body.bind (regOf 6)).getD []).toArray 65 32 (ltf 32) = true := lexFrom_add (((Tryz.f17).body.bind (regOf 6)).getD []).toArray 57 8 32 (ltf 32) lex_32 (by rw [set_32]; exact from_40)
theorem from_24 : Region.lexFrom .any (((Tryz.f17).body.bind (regOf 6)).getD []).toArray 73 24 (ltf 24) = true := lexFrom_add (((Tryz.f17).body.bind (regOf 6)).getD []).toArray 65 8 24 (ltf 24) lex_24 (by rw [set_24]; exact from_32)
theorem from_16 : Region.lexFrom .any (((Tryz.f17).body.bind (regOf 6)).getD []).toArray 81 16 (ltf 16) = true := lexFrom_add (((Tryz.f17).body.bind (regOf 6)).getD []).toArray 73 8 16 (ltf 16) lex_16 (by rw [set_16]; exact from_24)
theorem from_8 : Region.lexFrom .any (((Tryz.f17).body.bind (regOf 6)).getD []).toArray 89 8 (ltf 8) = true := lexFrom_add (((Tryz.f17).body.bind (regOf 6)).getD []).toArray 81 8 8 (ltf 8) lex_8 (by rw [set_8]; exact from_16)
theorem from_0 : Region.lexFrom .any (((Tryz.f17).body.bind (regOf 6)).getD []).toArray 97 0 (ltf 0) = true := lexFrom_add (((Tryz.f17).body.bind (regOf 6)).getD []).toArray 89 8 0 (ltf 0) lex_0 (by rw [set_0]; exact from_8)
theorem eq_size : (((Tryz.f17).body.bind (regOf 6)).getD []).toArray.size = 97 := by kernel_rfl
theorem eq_sel : Region.noSelect (((Tryz.f17).body.bind (regOf 6)).getD []).toArray = true := by kernel_rfl
theorem eq_rep : Array.replicate 97 false = ltf 0 := by kernel_rfl
theorem eq_lex : Region.lexB .any (((Tryz.f17).body.bind (regOf 6)).getD []).toArray = true := by
  unfold Region.lexB
  rw [eq_sel, eq_size, eq_rep, from_0]
  rfl
theorem eq_lex_of {l : List Oper} (h : (((Tryz.f17).body.bind (regOf 6)).getD []) = l) : Region.lexB .any l.toArray = true := h ▸ eq_lex
end Go.Proofs.YthiphdcbboapkaaGreatDoor
namespace Go.Proofs.YthiphdcbboapkaaGreatDoor
open Go.RowKit Go.Maps

set_option maxRecDepth 100000
set_option maxHeartbeats 1600000 in
theorem eqLeases_none (w : World) : Calls Tryz.prog 17 #[.slice none 0 0, .slice none 0 0] w fun e w' => e = .returned (.bool true) ∧ Below w.heap.size w w' := by
  go_enter Tryz.func17, Tryz.ntmps17
  go_wp2_with fail
  go_loopw [5] (fun n5 wr => n5 = .int .i64 0 ∧ wr = w) (fun _ _ => 0)
  case atStart => exact ⟨rfl, rfl⟩
  case round =>
    obtain ⟨rfl, rfl⟩ := hrel
    go_wp2_with fail
    go_ret
    exact ⟨rfl, Below.refl _ _⟩
theorem eqB_refl (e nw : Int) (zs : List Int) : eqB e e nw nw zs zs = true := by unfold eqB; simp
/-- Two leases side by side. -/
def LL2 (w : World) (q1 q2 : Nat) (fr e : Int) (zs : List Int) (nw un : Int) (a1 a2 : Option Addr) (c1 c2 : Nat) (U : World) : Prop := U.cell? ⟨q1, 0, none⟩ = some (.int .i64 2) ∧ U.cell? ⟨q1, 1, none⟩ = some (.int .i64 0) ∧ U.cell? ⟨q1, 2, none⟩ = some (.int .i64 fr) ∧ U.cell? ⟨q1, 3, none⟩ = some (.int .i64 0) ∧ U.cell? ⟨q1, 4, none⟩ = some (.int .i64 0) ∧ U.cell? ⟨q1, 5, none⟩ = some (.int .i64 0) ∧ U.cell? ⟨q1, 6, none⟩ = some (.int .i64 un) ∧ U.cell? ⟨q1, 9, none⟩ = some (.int .i64 e) ∧ U.cell? ⟨q1, 10, none⟩ = some (.slice a1 zs.length c1) ∧ U.cell? ⟨q1, 11, none⟩ = some (.int .i64 nw) ∧ U.cell? ⟨q1, 12, none⟩ = some (.slice none 0 0) ∧ U.cell? ⟨q2, 0, none⟩ = some (.int .i64 2) ∧ U.cell? ⟨q2, 1, none⟩ = some (.int .i64 0) ∧ U.cell? ⟨q2, 2, none⟩ = some (.int .i64 fr) ∧ U.cell? ⟨q2, 6, none⟩ = some (.int .i64 un) ∧ U.cell? ⟨q2, 9, none⟩ = some (.int .i64 e) ∧ U.cell? ⟨q2, 10, none⟩ = some (.slice a2 zs.length c2) ∧ U.cell? ⟨q2, 11, none⟩ = some (.int .i64 nw) ∧ LeaseAt U q1 fr e zs nw un a1 c1 ∧ LeaseAt U q2 fr e zs nw un a2 c2 ∧ Below w.heap.size w U
theorem LL2.of {w U : World} {q1 q2 : Nat} {fr e : Int} {zs : List Int} {nw un : Int} {a1 a2 : Option Addr} {c1 c2 : Nat} (h1 : LeaseAt U q1 fr e zs nw un a1 c1) (h2 : LeaseAt U q2 fr e zs nw un a2 c2) (hb : Below w.heap.size w U) : LL2 w q1 q2 fr e zs nw un a1 a2 c1 c2 U :=
  ⟨h1.cs 0 _ rfl, h1.cs 1 _ rfl, h1.cs 2 _ rfl, h1.cs 3 _ rfl, h1.cs 4 _ rfl, h1.cs 5 _ rfl, h1.cs 6 _ rfl, h1.cs 9 _ rfl, h1.cs 10 _ rfl, h1.cs 11 _ rfl, h1.cs 12 _ rfl, h2.cs 0 _ rfl, h2.cs 1 _ rfl, h2.cs 2 _ rfl, h2.cs 6 _ rfl, h2.cs 9 _ rfl, h2.cs 10 _ rfl, h2.cs 11 _ rfl, h1, h2, hb⟩
theorem LL2.get {w U : World} {q1 q2 : Nat} {fr e : Int} {zs : List Int} {nw un : Int} {a1 a2 : Option Addr} {c1 c2 : Nat} (h : LL2 w q1 q2 fr e zs nw un a1 a2 c1 c2 U) : LeaseAt U q1 fr e zs nw un a1 c1 ∧ LeaseAt U q2 fr e zs nw un a2 c2 ∧ Below w.heap.size w U :=
  h.2.2.2.2.2.2.2.2.2.2.2.2.2.2.2.2.2.2
theorem LL2.keep {w U U' : World} {q1 q2 : Nat} {fr e : Int} {zs : List Int} {nw un : Int} {a1 a2 : Option Addr} {c1 c2 : Nat} (h : LL2 w q1 q2 fr e zs nw un a1 a2 c1 c2 U) (k : Below U.heap.size U U') : LL2 w q1 q2 fr e zs nw un a1 a2 c1 c2 U' :=
  LL2.of (h.get.1.low k) (h.get.2.1.low k) (below_on h.get.2.2 k)
/-- A world in which both stand. -/
structure LWd (w : World) (q1 q2 : Nat) (fr e : Int) (zs : List Int) (nw un : Int) (a1 a2 : Option Addr) (c1 c2 : Nat) where
  W : World
  h : LL2 w q1 q2 fr e zs nw un a1 a2 c1 c2 W
theorem wp_region_quiet_litC {P : Program} {C : World → Prop} {id : Nat} {Q : Exit → Act → World → Prop} {a : Act} {w : World} {l : List Oper} (hm : P.follows .mixedOrders = true) (hB : Region.lexB .any l.toArray = true) (hC : C { w with drawn := w.drawn + 1 })
    (h : wpQuiet P l.toArray C (fun a' => ∀ w', C w' → Q .normal a' w') l a) : (Code.region id l.toArray true).wp P Q a w := wp_region_quiet hm hB hC (by simpa using h)
set_option maxHeartbeats 6400000 in
theorem eqLeases_one {w : World} {q1 q2 : Nat} {fr e : Int} {zs : List Int} {nw un : Int} {a1 a2 : Option Addr} {c1 c2 : Nat} (h1 : LeaseAt w q1 fr e zs nw un a1 c1) (h2 : LeaseAt w q2 fr e zs nw un a2 c2) (hl : zs.length ≤ 5) :
    Calls Tryz.prog 17 #[.slice (some ⟨q1, 0, none⟩) 1 1, .slice (some ⟨q2, 0, none⟩) 1 1] w fun e w' => e = .returned (.bool true) ∧ Below w.heap.size w w' := by
  have HQ1 := Lib.hid h1
  have HQ2 := Lib.hid h2
  clear h1 h2
  go_enter Tryz.func17, Tryz.ntmps17
  go_wp2_with fail
  go_loopw [5] (fun n5 wr => (n5 = .int .i64 0 ∧ wr = w) ∨ (n5 = .int .i64 1 ∧ Below w.heap.size w wr)) (fun n5 _ => 1 - (intOf n5).toNat)
  case atStart => exact Or.inl ⟨rfl, rfl⟩
  case round =>
    rcases hrel with ⟨rfl, rfl⟩ | ⟨rfl, hb⟩
    · have pF : (fr != fr) = false := by simp
      have pU : (un != un) = false := by simp
      go_upto_region 6 with fail
      have HS : Hid (LL2 wr q1 q2 fr e zs nw un a1 a2 c1 c2 wr.drew) := Lib.hid (LL2.of (HQ1.out.low (Below.drew (Below.refl _ _))) (HQ2.out.low (Below.drew (Below.refl _ _))) (Below.drew (Below.refl _ _)))
      simp only [List.append_eq, List.cons_append, List.nil_append]
      have x10 : ∀ n : LWd wr q1 q2 fr e zs nw un a1 a2 c1 c2, n.W.cell? ⟨q1, 0, none⟩ = some (.int .i64 2) := fun n => n.h.1
      have x11 : ∀ n : LWd wr q1 q2 fr e zs nw un a1 a2 c1 c2, n.W.cell? ⟨q1, 1, none⟩ = some (.int .i64 0) := fun n => n.h.2.1
      have x12 : ∀ n : LWd wr q1 q2 fr e zs nw un a1 a2 c1 c2, n.W.cell? ⟨q1, 2, none⟩ = some (.int .i64 fr) := fun n => n.h.2.2.1
      have x13 : ∀ n : LWd wr q1 q2 fr e zs nw un a1 a2 c1 c2, n.W.cell? ⟨q1, 3, none⟩ = some (.int .i64 0) := fun n => n.h.2.2.2.1
      have x14 : ∀ n : LWd wr q1 q2 fr e zs nw un a1 a2 c1 c2, n.W.cell? ⟨q1, 4, none⟩ = some (.int .i64 0) := fun n => n.h.2.2.2.2.1
      have x15 : ∀ n : LWd wr q1 q2 fr e zs nw un a1 a2 c1 c2, n.W.cell? ⟨q1, 5, none⟩ = some (.int .i64 0) := fun n => n.h.2.2.2.2.2.1
      have x16 : ∀ n : LWd wr q1 q2 fr e zs nw un a1 a2 c1 c2, n.W.cell? ⟨q1, 6, none⟩ = some (.int .i64 un) := fun n => n.h.2.2.2.2.2.2.1
      have x19 : ∀ n : LWd wr q1 q2 fr e zs nw un a1 a2 c1 c2, n.W.cell? ⟨q1, 9, none⟩ = some (.int .i64 e) := fun n => n.h.2.2.2.2.2.2.2.1
      have x110 : ∀ n : LWd wr q1 q2 fr e zs nw un a1 a2 c1 c2, n.W.cell? ⟨q1, 10, none⟩ = some (.slice a1 zs.length c1) := fun n => n.h.2.2.2.2.2.2.2.2.1
      have x111 : ∀ n : LWd wr q1 q2 fr e zs nw un a1 a2 c1 c2, n.W.cell? ⟨q1, 11, none⟩ = some (.int .i64 nw) := fun n => n.h.2.2.2.2.2.2.2.2.2.1
      have x112 : ∀ n : LWd wr q1 q2 fr e zs nw un a1 a2 c1 c2, n.W.cell? ⟨q1, 12, none⟩ = some (.slice none 0 0) := fun n => n.h.2.2.2.2.2.2.2.2.2.2.1
      have x20 : ∀ n : LWd wr q1 q2 fr e zs nw un a1 a2 c1 c2, n.W.cell? ⟨q2, 0, none⟩ = some (.int .i64 2) := fun n => n.h.2.2.2.2.2.2.2.2.2.2.2.1
      have x21 : ∀ n : LWd wr q1 q2 fr e zs nw un a1 a2 c1 c2, n.W.cell? ⟨q2, 1, none⟩ = some (.int .i64 0) := fun n => n.h.2.2.2.2.2.2.2.2.2.2.2.2.1
      have x22 : ∀ n : LWd wr q1 q2 fr e zs nw un a1 a2 c1 c2, n.W.cell? ⟨q2, 2, none⟩ = some (.int .i64 fr) := fun n => n.h.2.2.2.2.2.2.2.2.2.2.2.2.2.1
      have x26 : ∀ n : LWd wr q1 q2 fr e zs nw un a1 a2 c1 c2, n.W.cell? ⟨q2, 6, none⟩ = some (.int .i64 un) := fun n => n.h.2.2.2.2.2.2.2.2.2.2.2.2.2.2.1
      have x29 : ∀ n : LWd wr q1 q2 fr e zs nw un a1 a2 c1 c2, n.W.cell? ⟨q2, 9, none⟩ = some (.int .i64 e) := fun n => n.h.2.2.2.2.2.2.2.2.2.2.2.2.2.2.2.1
      have x210 : ∀ n : LWd wr q1 q2 fr e zs nw un a1 a2 c1 c2, n.W.cell? ⟨q2, 10, none⟩ = some (.slice a2 zs.length c2) := fun n => n.h.2.2.2.2.2.2.2.2.2.2.2.2.2.2.2.2.1
      have x211 : ∀ n : LWd wr q1 q2 fr e zs nw un a1 a2 c1 c2, n.W.cell? ⟨q2, 11, none⟩ = some (.int .i64 nw) := fun n => n.h.2.2.2.2.2.2.2.2.2.2.2.2.2.2.2.2.2.1
      haveI hN : Nonempty (LWd wr q1 q2 fr e zs nw un a1 a2 c1 c2) := ⟨⟨_, HS.out⟩⟩
      refine wp_region_quiet_litC (C := fun w' => ∃ n : LWd wr q1 q2 fr e zs nw un a1 a2 c1 c2, w' = n.W) (by kernel_rfl) (eq_lex_of (by kernel_rfl)) ⟨⟨_, HS.out⟩, rfl⟩ ?_
      repeat (go_big_quiet_step ((go_at_call 23; refine (eqRoster_any e e nw nw a1 a2 c1 c2 zs zs _ (by omega) (LL2.get (LWd.h _)).1.rz (LL2.get (LWd.h _)).2.1.rz).mono ?_; rw [eqB_refl]; rintro e' w2 ⟨rfl, hb⟩; exact ⟨rfl, ⟨w2, LL2.keep (LWd.h _) hb⟩, rfl⟩)))
      refine wpQuiet_nil ?_
      intro w2 hw2
      obtain ⟨n, rfl⟩ := hw2
      have HB := Lib.hid n.h.get.2.2
      go_wp2_with fail
      go_roundw
      case rel => exact Or.inr ⟨rfl, HB.out⟩
      case measure => simp [intOf]
    · have HB := Lib.hid hb
      clear hb
      go_wp2_with fail
      go_ret
      exact ⟨rfl, HB.out⟩
end Go.Proofs.YthiphdcbboapkaaGreatDoor

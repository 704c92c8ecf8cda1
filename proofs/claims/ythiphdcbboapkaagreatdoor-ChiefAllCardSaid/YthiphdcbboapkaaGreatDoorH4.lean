/- Walks of chief.Step: what is nothing, who asks, a full one. Walks of chief.Step: a member's beat. Walk of chief.Step: a member's beat that is granted a lease. -/
import Derived.Test.YthiphdcbboapkaaGreatDoorHj
import Derived.Deep.QuietTactic
import Derived.Deep.DeepCutAuto
import Derived.Test.YthiphdcbboapkaaGreatDoorH3
namespace Go.Proofs.YthiphdcbboapkaaGreatDoor
open Go.RowKit Go.Maps

set_option maxRecDepth 100000
/-- A word. -/
structure Wd where
  kind : Int
  fr : Int
  tt : Int
  ep : Int
  seq : Int
  req : Int
  unt : Int
  err : Int
  ver : Int
  re : Int
  ra : Option Addr
  rn : Nat
  rc : Nat
  rw : Int
  da : Option Addr
  dn : Nat
  dc : Nat
  ss : Int
  la : Option Addr
  ln : Nat
  lc : Nat
  ma : Option Addr
  mn : Nat
  mc : Nat
  l0 : Int
  l1 : Int
  l2 : Int
  l3 : Int
  l4 : Int
@[reducible] def wordV (W : Wd) : Value := .agg #[.int .i64 W.kind, .int .i64 W.fr, .int .i64 W.tt, .int .i64 W.ep, .int .i64 W.seq, .int .i64 W.req, .int .i64 W.unt, .int .i64 W.err, .int .i64 W.ver, .int .i64 W.re, .slice W.ra W.rn W.rc, .int .i64 W.rw, .slice W.da W.dn W.dc, .int .i64 W.ss, .slice W.la W.ln W.lc, .slice W.ma W.mn W.mc, .int .i64 W.l0, .int .i64 W.l1, .int .i64 W.l2, .int .i64 W.l3, .int .i64 W.l4]
def wordC (W : Wd) : Array Value := #[.int .i64 W.kind, .int .i64 W.fr, .int .i64 W.tt, .int .i64 W.ep, .int .i64 W.seq, .int .i64 W.req, .int .i64 W.unt, .int .i64 W.err, .int .i64 W.ver, .int .i64 W.re, .slice W.ra W.rn W.rc, .int .i64 W.rw, .slice W.da W.dn W.dc, .int .i64 W.ss, .slice W.la W.ln W.lc, .slice W.ma W.mn W.mc, .int .i64 W.l0, .int .i64 W.l1, .int .i64 W.l2, .int .i64 W.l3, .int .i64 W.l4]
/-- A word in its box: what is read of it. -/
def WAt (w : World) (q : Nat) (W : Wd) : Prop := w.cell? ⟨q, 0, none⟩ = some (.int .i64 W.kind) ∧ w.cell? ⟨q, 1, none⟩ = some (.int .i64 W.fr) ∧ w.cell? ⟨q, 2, none⟩ = some (.int .i64 W.tt) ∧ w.cell? ⟨q, 3, none⟩ = some (.int .i64 W.ep)
theorem WAt.new (w : World) (W : Wd) (ty : TypeId) : WAt (w.alloc (.cells (wordC W) ty)) w.heap.size W :=
  ⟨World.cell?_alloc_new w _ ty 0, World.cell?_alloc_new w _ ty 1, World.cell?_alloc_new w _ ty 2, World.cell?_alloc_new w _ ty 3⟩
theorem WAt.keep {w w' : World} {q : Nat} {W : Wd} (h : WAt w q W) (k : Below w.heap.size w w') : WAt w' q W := ⟨cell_keep k h.1, cell_keep k h.2.1, cell_keep k h.2.2.1, cell_keep k h.2.2.2⟩
theorem WAt.keepO {S : List Nat} {w w' : World} {q : Nat} {W : Wd} (h : WAt w q W) (k : Only S w w') (hq : q ∉ S) : WAt w' q W :=
  ⟨k.cellK (p := ⟨q, 0, none⟩) hq h.1, k.cellK (p := ⟨q, 1, none⟩) hq h.2.1, k.cellK (p := ⟨q, 2, none⟩) hq h.2.2.1, k.cellK (p := ⟨q, 3, none⟩) hq h.2.2.2⟩
/-- What Step finds at first: the word in its box, the chief. -/
structure Beg (w0 w V : World) (x : Nat) (S : St) (f : Ft) (rb : Nat) (W : Wd) : Prop where
  wa : WAt V rb W
  ch : CH w0 V x S f
  bl : Below w.heap.size w V
  rb' : w.heap.size = rb
  rl : rb < V.heap.size
theorem Beg.new {w0 w : World} {x : Nat} {S : St} {f : Ft} (H : CH w0 w x S f) (W : Wd) (ty : TypeId) : Beg w0 w (w.alloc (.cells (wordC W) ty)) x S f w.heap.size W :=
  ⟨WAt.new w W ty, H.low (below_alloc (Below.refl _ _) _), below_alloc (Below.refl _ _) _, rfl, by simp⟩
theorem Beg.nf {w0 w V : World} {x : Nat} {S : St} {f : Ft} {rb : Nat} {W : Wd} (h : Beg w0 w V x S f rb W) (H : CH w0 w x S f) : ∀ q ∈ foot x f, ¬ (q = rb) := fun q hq e => by
  have := H.lt q hq
  have := h.rb'
  omega
theorem off_ch {w0 w : World} {x : Nat} {S : St} {f : Ft} (H : CH w0 w x S f) : Calls Tryz.prog 39 #[.pointer (some ⟨x, 0, none⟩)] w fun e w' => e = .returned (.bool false) ∧ w = w' := off_any H.at'
theorem changing_ch {w0 w : World} {x : Nat} {S : St} {f : Ft} (H : CH w0 w x S f) : Calls Tryz.prog 25 #[.pointer (some ⟨x, 0, none⟩)] w fun e w' => e = .returned (.bool (decide (0 < S.e2))) ∧ w = w' := changing_any H.at'
theorem until_ch {w0 w : World} {x : Nat} {S : St} {f : Ft} (H : CH w0 w x S f) : Calls Tryz.prog 26 #[.pointer (some ⟨x, 0, none⟩)] w fun e w' => e = .returned (.int .i64 S.un) ∧ w = w' := until_any H.at'
theorem lost_ch {w0 w : World} {x : Nat} {S : St} {f : Ft} (H : CH w0 w x S f) : Calls Tryz.prog 27 #[.pointer (some ⟨x, 0, none⟩)] w fun e w' => e = .returned (.bool (S.lost && !decide (0 < S.e2))) ∧ w = w' := by
  have := lost_any H.at'
  simp only [mkC, Bool.false_or] at this
  exact this
set_option maxHeartbeats 3200000 in
theorem step_no {w0 w : World} {x : Nat} {S : St} {f : Ft} (H : CH w0 w x S f) (W : Wd) (h : W.tt ≠ 0 ∨ W.fr < 1 ∨ 5 < W.fr) (now : Int) :
    Calls Tryz.prog 18 #[.pointer (some ⟨x, 0, none⟩), wordV W, .int .i64 now] w fun e' w' => e' = .returned (.slice none 0 0) ∧ Below w.heap.size w w' := by
  have HG := Lib.hid (Beg.new H W 46)
  clear H
  unfold wordC at HG
  have hh : (W.tt != 0) = true ∨ ((W.tt != 0) = false ∧ decide (W.fr < 1) = true) ∨ ((W.tt != 0) = false ∧ decide (W.fr < 1) = false ∧ decide (5 < W.fr) = true) := by
    by_cases h1 : W.tt = 0
    · by_cases h2 : W.fr < 1
      · exact Or.inr (Or.inl ⟨by simp [h1], by simp [h2]⟩)
      · exact Or.inr (Or.inr ⟨by simp [h1], by simp; omega, by simp; omega⟩)
    · exact Or.inl (by simp [h1])
  clear h
  rcases hh with q1 | ⟨q1, q2⟩ | ⟨q1, q2, q3⟩
  all_goals
    go_enter Tryz.func18, Tryz.ntmps18
    go_upto_region 1 with fail
    generalize w.alloc _ = V at HG ⊢
    generalize w.heap.size = rb at HG ⊢
    obtain ⟨k0, k1, k2, k3⟩ := HG.out.wa
    go_wp2_with (go_at_call 39; refine (off_ch HG.out.ch).mono ?_; rintro e' w' ⟨rfl, rfl⟩)
    go_ret
    exact ⟨rfl, by have h1 := HG.out.bl; exact h1⟩
/-! a beat -/
/-- What is read of a chief's roster and of the word. -/
def Rd (w0 V : World) (x : Nat) (S : St) (f : Ft) (rb : Nat) (W : Wd) (U : World) : Prop :=
  U.cell? ⟨x, 1, none⟩ = some (.int .i64 S.e) ∧ U.cell? ⟨x, 2, none⟩ = some (.slice f.a S.zs.length f.c) ∧ U.cell? ⟨x, 3, none⟩ = some (.int .i64 S.nw) ∧ U.cell? ⟨rb, 0, none⟩ = some (.int .i64 W.kind) ∧ U.cell? ⟨rb, 1, none⟩ = some (.int .i64 W.fr) ∧ U.cell? ⟨rb, 3, none⟩ = some (.int .i64 W.ep) ∧ CH w0 U x S f ∧ Below V.heap.size V U
theorem Rd.start {w0 w V : World} {x : Nat} {S : St} {f : Ft} {rb : Nat} {W : Wd} (h : Beg w0 w V x S f rb W) : Rd w0 V x S f rb W V.drew :=
  ⟨h.ch.at'.d1, h.ch.at'.d2, h.ch.at'.d3, h.wa.1, h.wa.2.1, h.wa.2.2.2, h.ch.low (Below.drew (Below.refl _ _)), Below.drew (Below.refl _ _)⟩
theorem Rd.keep {w0 V : World} {x : Nat} {S : St} {f : Ft} {rb : Nat} {W : Wd} {U U' : World} (h : Rd w0 V x S f rb W U) (k : Below U.heap.size U U') : Rd w0 V x S f rb W U' := by
  obtain ⟨h1, h2, h3, h4, h5, h6, h7, h8⟩ := h
  exact ⟨cell_keep k h1, cell_keep k h2, cell_keep k h3, cell_keep k h4, cell_keep k h5, cell_keep k h6, h7.low k, below_on h8 k⟩
theorem Rd.ch {w0 V : World} {x : Nat} {S : St} {f : Ft} {rb : Nat} {W : Wd} {U : World} (h : Rd w0 V x S f rb W U) : CH w0 U x S f := h.2.2.2.2.2.2.1
theorem Rd.bl {w0 V : World} {x : Nat} {S : St} {f : Ft} {rb : Nat} {W : Wd} {U : World} (h : Rd w0 V x S f rb W U) : Below V.heap.size V U := h.2.2.2.2.2.2.2
theorem has_ch {w0 w : World} {x : Nat} {S : St} {f : Ft} (H : CH w0 w x S f) (hl : S.zs.length ≤ 5) (n : Int) : Calls Tryz.prog 40 #[.agg #[.int .i64 S.e, .slice f.a S.zs.length f.c, .int .i64 S.nw], .int .i64 n] w fun e w' => e = .returned (.bool (decide (0 ≤ idx S.zs n))) ∧ Below w.heap.size w w' :=
  has_any S.e S.nw n f.a f.c S.zs w (by omega) H.at'.rz
/-- One asks. -/
theorem store_a {w0 w : World} {x : Nat} {S : St} {f : Ft} (H : CH w0 w x S f) (t : Int) : CH w0 (w.setCell ⟨x, 9, none⟩ (.int .i64 t)) x { S with asks := t } f :=
  H.put 9 (by decide) _ (lt12 rfl rfl rfl rfl rfl rfl rfl rfl rfl rfl rfl rfl) H.at'.rz H.at'.rz2 ⟨rfl, rfl, rfl, rfl, rfl⟩ (fun _ => ⟨rfl, rfl, rfl⟩) ⟨rfl, rfl, rfl, rfl⟩ (fun q hq => ⟨H.da q hq, H.lt q (mem_foot.2 (Or.inr (Or.inl hq)))⟩) (fun q hq => ⟨H.da2 q hq, H.lt q (mem_foot.2 (Or.inr (Or.inr hq)))⟩)
theorem PostF.set {w0 w w1 : World} {x : Nat} {f f1 : Ft} {S1 S2 : St} (h : PostF w0 w x f S1 f1 w1) {i : Nat} {v : Value} (hc : CH w0 (w1.setCell ⟨x, i, none⟩ v) x S2 f1) : PostF w0 w x f S2 f1 (w1.setCell ⟨x, i, none⟩ v) :=
  h.trans ⟨hc, (only_one i v).mono (fun j hj => by simp at hj; subst hj; exact x_own _ _), fun _ h => Or.inl h, fun _ h => Or.inl h⟩
theorem Beg.post {w0 w V U : World} {x : Nat} {S : St} {f : Ft} {rb : Nat} {W : Wd} (h : Beg w0 w V x S f rb W) (k : Below V.heap.size V U) : PostF w0 w x f S f U := ⟨h.ch.low k, Only.of_below (below_on h.bl k), fun _ h => Or.inl h, fun _ h => Or.inl h⟩
set_option maxHeartbeats 3200000 in
theorem step_ask {w0 w : World} {x : Nat} {S : St} {f : Ft} (H : CH w0 w x S f) (hl : S.zs.length ≤ 5) (W : Wd) (h0 : W.tt = 0) (h1 : 1 ≤ W.fr) (h2 : W.fr ≤ 5) (h3 : W.kind = 1) (h4 : idx S.zs W.fr < 0) (now : Int) :
    Calls Tryz.prog 18 #[.pointer (some ⟨x, 0, none⟩), wordV W, .int .i64 now] w fun e' w' => e' = .returned (.slice none 0 0) ∧ PostF w0 w x f { S with asks := W.fr } f w' := by
  have HG := Lib.hid (Beg.new H W 46)
  clear H
  unfold wordC at HG
  have q1 : (W.tt != 0) = false := by simp [h0]
  have q2 : decide (W.fr < 1) = false := by simp; omega
  have q3 : decide (5 < W.fr) = false := by simp; omega
  have q4 : (W.kind == 1) = true := by simp [h3]
  have q5 : Hid (decide (0 ≤ idx S.zs W.fr) = false) := Lib.hid (by simp; omega)
  clear h0 h1 h2 h3 h4
  go_enter Tryz.func18, Tryz.ntmps18
  go_upto_region 1 with fail
  generalize w.alloc _ = V at HG ⊢
  generalize w.heap.size = rb at HG ⊢
  obtain ⟨k0, k1, k2, k3⟩ := HG.out.wa
  go_wp2_with (go_at_call 39; refine (off_ch HG.out.ch).mono ?_; rintro e' w' ⟨rfl, rfl⟩)
  have HR := Lib.hid (Rd.start HG.out)
  go_region_held3 (fun U => U.cell? ⟨x, 1, none⟩ = some (.int .i64 S.e) ∧ U.cell? ⟨x, 2, none⟩ = some (.slice f.a S.zs.length f.c) ∧ U.cell? ⟨x, 3, none⟩ = some (.int .i64 S.nw) ∧ U.cell? ⟨rb, 0, none⟩ = some (.int .i64 W.kind) ∧ U.cell? ⟨rb, 1, none⟩ = some (.int .i64 W.fr) ∧ U.cell? ⟨rb, 3, none⟩ = some (.int .i64 W.ep) ∧ CH w0 U x S f ∧ Below V.heap.size V U)
    (first | exact HR.out | exact Rd.keep (W := W) (‹_ ∧ _ ∧ _ ∧ _ ∧ _ ∧ _ ∧ CH _ _ _ _ _ ∧ Below _ _ _›) hb)
    (first | (go_at_call 40; have s := (‹_ ∧ _ ∧ _ ∧ _ ∧ _ ∧ _ ∧ CH _ _ _ _ _ ∧ Below _ _ _›).2.2.2.2.2.2.1; refine (has_ch s hl W.fr).mono ?_; rw [q5.out]; rintro e' w2 ⟨rfl, hb⟩; clear s))
  all_goals
    have s : Hid (Rd w0 V x S f rb W w2) := Lib.hid (‹_ ∧ _ ∧ _ ∧ _ ∧ _ ∧ _ ∧ CH _ _ _ _ _ ∧ Below _ _ _›)
    have k1 := s.out.2.2.2.2.1
    have d9 := s.out.ch.at'.d9
    have f9 := s.out.ch.at'.fz 9
    go_wp2_with fail
    go_ret
    exact ⟨rfl, (HG.out.post s.out.bl).set (store_a s.out.ch W.fr)⟩
end Go.Proofs.YthiphdcbboapkaaGreatDoor
namespace Go.Proofs.YthiphdcbboapkaaGreatDoor
open Go.RowKit Go.Maps

set_option maxRecDepth 100000
/-- A lease. -/
def leaseA (fr e : Int) (a : Option Addr) (n c : Nat) (nw un : Int) : Array Value := #[.int .i64 2, .int .i64 0, .int .i64 fr, .int .i64 0, .int .i64 0, .int .i64 0, .int .i64 un, .int .i64 0, .int .i64 0, .int .i64 e, .slice a n c, .int .i64 nw, .slice none 0 0, .int .i64 0, .slice none 0 0, .slice none 0 0, .int .i64 0, .int .i64 0, .int .i64 0, .int .i64 0, .int .i64 0]
/-- A lease in a block. -/
structure LeaseAt (w : World) (q : Nat) (fr e : Int) (zs : List Int) (nw un : Int) (a : Option Addr) (c : Nat) : Prop where
  cs : ∀ (i : Nat) (v : Value), (leaseA fr e a zs.length c nw un)[i]? = some v → w.cell? ⟨q, i, none⟩ = some v
  fz : ∀ i, w.frozen? ⟨q, i, none⟩ = false
  rz : IntsAt w a zs
  lt : q < w.heap.size
theorem LeaseAt.keepO {S : List Nat} {w w' : World} {q : Nat} {fr e : Int} {zs : List Int} {nw un : Int} {a : Option Addr} {c : Nat} (h : LeaseAt w q fr e zs nw un a c) (k : Only S w w') (hq : q ∉ S) (ha : ∀ i ∈ rowB a, i ∉ S) : LeaseAt w' q fr e zs nw un a c :=
  ⟨fun i v hv => k.cellK (p := ⟨q, i, none⟩) hq (h.cs i v hv), fun i => (k.frozen (p := ⟨q, i, none⟩) h.lt hq).trans (h.fz i), h.rz.keepO k ha, Nat.lt_of_lt_of_le h.lt k.size⟩
theorem LeaseAt.low {w w' : World} {q : Nat} {fr e : Int} {zs : List Int} {nw un : Int} {a : Option Addr} {c : Nat} (h : LeaseAt w q fr e zs nw un a c) (k : Below w.heap.size w w') : LeaseAt w' q fr e zs nw un a c := h.keepO (S := []) (Only.of_below k) (by simp) (by simp)
/-- The member is heard. -/
theorem CH.beat {w0 w w' : World} {x : Nat} {S : St} {f : Ft} (h : CH w0 w x S f) {q : Nat} {D : DataW Unit} {n t : Int} (hq : f.hb = some q) (hD : IsMap D) (hat : ∀ n, fitI n → D.atKey (.int .i64 n) (.lit (.int .i64 0)) = .lit (.int .i64 (S.hd n))) (hown : w'.ownsMap Tryz.prog 3 (plainElem Tryz.prog 2) q (S.m + 1) (D.put (.int .i64 n) (.lit (.int .i64 t)))) (ho : Only [q] w w') (hon : S.on = true) :
    PostF w0 w x f { S with hd := upd S.hd n t, m := S.m + 1 } f w' := by
  have h1 := h.heard hq ho (HeardAt.put hD hat hown)
  refine ⟨?_, ho.mono (fun i hi => by simp at hi; subst hi; exact mem_own.2 (Or.inr (Or.inl (by rw [hq]; simp)))), fun _ h => Or.inl h, fun _ h => Or.inl h⟩
  obtain ⟨e, zs, nw, e2, zs2, nw2, un, hd, asks, lost, k, m, on, le, lzs, lnw⟩ := S
  change on = true at hon
  subst hon
  exact h1
set_option maxHeartbeats 3200000 in
theorem step_beat1 {w0 w : World} {x : Nat} {S : St} {f : Ft} (H : CH w0 w x S f) (hl : S.zs.length ≤ 5) (hon : S.on = true) (hmm : S.m ≤ 100000) (W : Wd) (h0 : W.tt = 0) (h1 : 1 ≤ W.fr) (h2 : W.fr ≤ 5) (h3 : W.kind = 1) (h4 : 0 ≤ idx S.zs W.fr) (h5 : 0 < S.e2) {now : Int} (hn : fitI now) :
    Calls Tryz.prog 18 #[.pointer (some ⟨x, 0, none⟩), wordV W, .int .i64 now] w fun e' w' => e' = .returned (.slice none 0 0) ∧ PostF w0 w x f (beatS S W.fr now) f w' := by
  have HG := Lib.hid (Beg.new H W 46)
  unfold wordC at HG
  obtain ⟨q, hq, -⟩ := H.mp hon
  have q1 : (W.tt != 0) = false := by simp [h0]
  have q2 : decide (W.fr < 1) = false := by simp; omega
  have q3 : decide (5 < W.fr) = false := by simp; omega
  have q4 : (W.kind == 1) = true := by simp [h3]
  have q5 : Hid (decide (0 ≤ idx S.zs W.fr) = true) := Lib.hid (by simp; omega)
  have q6 : Hid (decide (0 < S.e2) = true) := Lib.hid (by simp; omega)
  have HFr : Hid (fitI W.fr) := Lib.hid (fitI_of (by omega))
  have HBt : Hid (beatS S W.fr now = { S with hd := upd S.hd W.fr now, m := S.m + 1 }) := Lib.hid (by unfold beatS; rw [if_pos h5])
  have HN := Lib.hid hn
  have HQ := Lib.hid hq
  clear H h0 h1 h2 h3 h4 h5 hn hq
  go_enter Tryz.func18, Tryz.ntmps18
  go_upto_region 1 with fail
  generalize w.alloc _ = V at HG ⊢
  generalize w.heap.size = rb at HG ⊢
  obtain ⟨k0, k1, k2, k3⟩ := HG.out.wa
  go_wp2_with (go_at_call 39; refine (off_ch HG.out.ch).mono ?_; rintro e' w' ⟨rfl, rfl⟩)
  have HR := Lib.hid (Rd.start HG.out)
  go_region_held3 (fun U => U.cell? ⟨x, 1, none⟩ = some (.int .i64 S.e) ∧ U.cell? ⟨x, 2, none⟩ = some (.slice f.a S.zs.length f.c) ∧ U.cell? ⟨x, 3, none⟩ = some (.int .i64 S.nw) ∧ U.cell? ⟨rb, 0, none⟩ = some (.int .i64 W.kind) ∧ U.cell? ⟨rb, 1, none⟩ = some (.int .i64 W.fr) ∧ U.cell? ⟨rb, 3, none⟩ = some (.int .i64 W.ep) ∧ CH w0 U x S f ∧ Below V.heap.size V U)
    (first | exact HR.out | exact Rd.keep (W := W) (‹_ ∧ _ ∧ _ ∧ _ ∧ _ ∧ _ ∧ CH _ _ _ _ _ ∧ Below _ _ _›) hb)
    (first | (go_at_call 40; have s := (‹_ ∧ _ ∧ _ ∧ _ ∧ _ ∧ _ ∧ CH _ _ _ _ _ ∧ Below _ _ _›).2.2.2.2.2.2.1; refine (has_ch s hl W.fr).mono ?_; rw [q5.out]; rintro e' w2 ⟨rfl, hb⟩; clear s))
  all_goals
    have s : Hid (Rd w0 V x S f rb W w2) := Lib.hid (‹_ ∧ _ ∧ _ ∧ _ ∧ _ ∧ _ ∧ CH _ _ _ _ _ ∧ Below _ _ _›)
    have k0 := s.out.2.2.2.1
    have k1 := s.out.2.2.2.2.1
    have d8 : w2.cell? ⟨x, 8, none⟩ = some (.map f.hb) := s.out.ch.at'.d8
    rw [HQ.out] at d8
    obtain ⟨q', hq', D, hown, hat⟩ := s.out.ch.mp hon
    obtain rfl : q' = q := by rw [HQ.out] at hq'; exact (Option.some.inj hq').symm
    have HD : Hid (w2.drew.ownsMap Tryz.prog 3 (plainElem Tryz.prog 2) q' S.m D) := Lib.hid hown.drew
    have HAt := Lib.hid hat
    clear hown hat hq'
    go_wp2_with fail
    go_still_tail 7, (by kernel_rfl)
    refine wpList_mapUpdate_own _ rfl _ _ _ 74 rfl 3 2 keyInt Tryz.underlying74 _ q' S.m _ rfl HD.out (by unfold maxLen; omega) _ _ _ rfl rfl (keyOf_int_mk Tryz.underlying3 HFr.out) _ [] (plainElem_int Tryz.underlying2 HN.out) ?_
    intro w3 hown3 hg3
    have HPo : Hid (PostF w0 w x f (beatS S W.fr now) f w3) := Lib.hid (by
      rw [HBt.out]
      exact (HG.out.post (Below.drew s.out.bl)).trans (CH.beat (HG.out.post (Below.drew s.out.bl)).ch HQ.out HD.out.isMap HAt.out hown3 (only_grown hg3) hon))
    have HC3 : Hid (CH w0 w3 x (beatS S W.fr now) f) := Lib.hid HPo.out.ch
    have q7 : Hid (decide (0 < (beatS S W.fr now).e2) = true) := Lib.hid (by rw [HBt.out]; exact q6.out)
    clear hown3 hg3 d8 k0 k1
    go_wp2_with (go_at_call 25; refine (changing_ch HC3.out).mono ?_; rw [q7.out]; rintro e' w' ⟨rfl, rfl⟩)
    go_ret
    exact ⟨rfl, HPo.out⟩
end Go.Proofs.YthiphdcbboapkaaGreatDoor
namespace Go.Proofs.YthiphdcbboapkaaGreatDoor
open Go.RowKit Go.Maps

set_option maxRecDepth 100000
theorem chroster_of {w0 w : World} {x : Nat} {S S4 : St} {f : Ft} (H : CH w0 w x S4 f) (h : S4.e = S.e ∧ S4.zs = S.zs ∧ S4.nw = S.nw) (hl5 : S.zs.length ≤ 5) :
    Calls Tryz.prog 24 #[.pointer (some ⟨x, 0, none⟩)] w fun e' w' => ∃ a c, e' = .returned (rosV S.e a S.zs c S.nw) ∧ OwnI w' w.heap.size (.slice a S.zs.length c) S.zs ∧ Below w.heap.size w w' := by
  obtain ⟨h1, h2, h3⟩ := h
  have := chroster_any H (by rw [h2]; exact hl5)
  rwa [h1, h2, h3] at this
set_option maxHeartbeats 3200000 in
theorem step_beat2 {w0 w : World} {x : Nat} {S : St} {f : Ft} (H : CH w0 w x S f) (hl : S.zs.length ≤ 5) (hon : S.on = true) (hmm : S.m ≤ 100000) (W : Wd) (h0 : W.tt = 0) (h1 : 1 ≤ W.fr) (h2 : W.fr ≤ 5) (h3 : W.kind = 1) (h4 : 0 ≤ idx S.zs W.fr) (h5 : ¬ 0 < S.e2) {now : Int} (hn : 0 ≤ now ∧ now ≤ 4611686018427387904) :
    Calls Tryz.prog 18 #[.pointer (some ⟨x, 0, none⟩), wordV W, .int .i64 now] w fun e' w' => ∃ q a c, e' = .returned (.slice (some ⟨q, 0, none⟩) 1 1) ∧ PostF w0 w x f (beatS S W.fr now) f w' ∧ LeaseAt w' q W.fr S.e S.zs S.nw (now + 6) a c ∧ w.heap.size ≤ q ∧ OwnI w' w.heap.size (.slice a S.zs.length c) S.zs := by
  have HG := Lib.hid (Beg.new H W 46)
  unfold wordC at HG
  obtain ⟨q, hq, -⟩ := H.mp hon
  have q1 : (W.tt != 0) = false := by simp [h0]
  have q2 : decide (W.fr < 1) = false := by simp; omega
  have q3 : decide (5 < W.fr) = false := by simp; omega
  have q4 : (W.kind == 1) = true := by simp [h3]
  have q5 : Hid (decide (0 ≤ idx S.zs W.fr) = true) := Lib.hid (by simp; omega)
  have q6 : Hid (decide (0 < S.e2) = false) := Lib.hid (by simp; omega)
  have q8 : IntKind.i64.wrap (now + 6) = now + 6 := IntWalk.i64_in _ (by omega)
  have HFr : Hid (fitI W.fr) := Lib.hid (fitI_of (by omega))
  have HBt : Hid (beatS S W.fr now = { S with hd := upd S.hd W.fr now, m := S.m + 1, un := max S.un (now + 6) }) := Lib.hid (by unfold beatS; rw [if_neg h5])
  have HN : Hid (fitI now) := Lib.hid (fitI_of (by omega))
  have HQ := Lib.hid hq
  have HNF : Hid (∀ i ∈ foot x f, ¬ (i = w.heap.size)) := Lib.hid (fun i hi e => by have := H.lt i hi; omega)
  clear H h0 h1 h2 h3 h4 h5 hn hq
  go_enter Tryz.func18, Tryz.ntmps18
  go_upto_region 1 with fail
  generalize w.alloc _ = V at HG ⊢
  generalize w.heap.size = rb at HG HNF ⊢
  obtain ⟨k0, k1, k2, k3⟩ := HG.out.wa
  go_wp2_with (go_at_call 39; refine (off_ch HG.out.ch).mono ?_; rintro e' w' ⟨rfl, rfl⟩)
  have HR := Lib.hid (Rd.start HG.out)
  go_region_held3 (fun U => U.cell? ⟨x, 1, none⟩ = some (.int .i64 S.e) ∧ U.cell? ⟨x, 2, none⟩ = some (.slice f.a S.zs.length f.c) ∧ U.cell? ⟨x, 3, none⟩ = some (.int .i64 S.nw) ∧ U.cell? ⟨rb, 0, none⟩ = some (.int .i64 W.kind) ∧ U.cell? ⟨rb, 1, none⟩ = some (.int .i64 W.fr) ∧ U.cell? ⟨rb, 3, none⟩ = some (.int .i64 W.ep) ∧ CH w0 U x S f ∧ Below V.heap.size V U)
    (first | exact HR.out | exact Rd.keep (W := W) (‹_ ∧ _ ∧ _ ∧ _ ∧ _ ∧ _ ∧ CH _ _ _ _ _ ∧ Below _ _ _›) hb)
    (first | (go_at_call 40; have s := (‹_ ∧ _ ∧ _ ∧ _ ∧ _ ∧ _ ∧ CH _ _ _ _ _ ∧ Below _ _ _›).2.2.2.2.2.2.1; refine (has_ch s hl W.fr).mono ?_; rw [q5.out]; rintro e' w2 ⟨rfl, hb⟩; clear s))
  all_goals
    have s : Hid (Rd w0 V x S f rb W w2) := Lib.hid (‹_ ∧ _ ∧ _ ∧ _ ∧ _ ∧ _ ∧ CH _ _ _ _ _ ∧ Below _ _ _›)
    have k0 := s.out.2.2.2.1
    have k1 := s.out.2.2.2.2.1
    have d8 : w2.cell? ⟨x, 8, none⟩ = some (.map f.hb) := s.out.ch.at'.d8
    rw [HQ.out] at d8
    obtain ⟨q', hq', D, hown, hat⟩ := s.out.ch.mp hon
    obtain rfl : q' = q := by rw [HQ.out] at hq'; exact (Option.some.inj hq').symm
    have HD : Hid (w2.drew.ownsMap Tryz.prog 3 (plainElem Tryz.prog 2) q' S.m D) := Lib.hid hown.drew
    have HAt := Lib.hid hat
    clear hown hat hq'
    go_wp2_with fail
    go_still_tail 7, (by kernel_rfl)
    refine wpList_mapUpdate_own _ rfl _ _ _ 74 rfl 3 2 keyInt Tryz.underlying74 _ q' S.m _ rfl HD.out (by unfold maxLen; omega) _ _ _ rfl rfl (keyOf_int_mk Tryz.underlying3 HFr.out) _ [] (plainElem_int Tryz.underlying2 HN.out) ?_
    intro w3 hown3 hg3
    have HPo : Hid (PostF w0 w x f { S with hd := upd S.hd W.fr now, m := S.m + 1 } f w3) := Lib.hid ((HG.out.post (Below.drew s.out.bl)).trans (CH.beat (HG.out.post (Below.drew s.out.bl)).ch HQ.out HD.out.isMap HAt.out hown3 (only_grown hg3) hon))
    have HC3 : Hid (CH w0 w3 x { S with hd := upd S.hd W.fr now, m := S.m + 1 } f) := Lib.hid HPo.out.ch
    have HO3 : Hid (Only [q'] w2.drew w3) := Lib.hid (only_grown hg3)
    have hrq : rb ∉ [q'] := fun hm => by
      simp at hm
      exact HNF.out q' (own_foot (mem_own.2 (Or.inr (Or.inl (by rw [HQ.out]; simp))))) hm.symm
    have k1 : w3.cell? ⟨rb, 1, none⟩ = some (.int .i64 W.fr) := HO3.out.cellK (p := ⟨rb, 1, none⟩) hrq k1
    have d7 : w3.cell? ⟨x, 7, none⟩ = some (.int .i64 S.un) := HC3.out.at'.d7
    have f7 := HC3.out.at'.fz 7
    have hxr : ¬ (x = rb) := HNF.out x (own_foot (x_own x f))
    clear hown3 hg3 d8 k0
    go_upto_region 10 with (go_at_call 25; refine (changing_ch HC3.out).mono ?_; rw [q6.out]; rintro e' w' ⟨rfl, rfl⟩)
    have HP4 : Hid (PostF w0 w x f (beatS S W.fr now) f (w3.setCell ⟨x, 7, none⟩ (.int .i64 (max S.un (now + 6))))) := Lib.hid (by rw [HBt.out]; exact HPo.out.set (store_u HC3.out _))
    have k1 : (w3.setCell ⟨x, 7, none⟩ (.int .i64 (max S.un (now + 6)))).cell? ⟨rb, 1, none⟩ = some (.int .i64 W.fr) := by rw [World.cell?_setCell_other _ _ _ _ (fun h => by injection h with h1 h2; omega)]; exact k1
    have hE : Hid ((beatS S W.fr now).e = S.e ∧ (beatS S W.fr now).zs = S.zs ∧ (beatS S W.fr now).nw = S.nw) := Lib.hid (by rw [HBt.out]; exact ⟨rfl, rfl, rfl⟩)
    clear d7 f7 HPo HC3 HO3
    generalize w3.setCell ⟨x, 7, none⟩ (.int .i64 (max S.un (now + 6))) = W4 at HP4 k1 ⊢
    have HC4 : Hid (CH w0 W4.drew x (beatS S W.fr now) f) := Lib.hid (HP4.out.ch.low (Below.drew (Below.refl _ _)))
    go_region_held3 (fun U => U.cell? ⟨rb, 1, none⟩ = some (.int .i64 W.fr) ∧ CH w0 U x (beatS S W.fr now) f ∧ Below W4.heap.size W4 U)
      (first | exact ⟨k1, HC4.out, Below.drew (Below.refl _ _)⟩ | (obtain ⟨s1, s2, s3⟩ := (‹_ ∧ CH _ _ _ _ _ ∧ Below _ _ _›); exact ⟨cell_keep hb s1, s2.low hb, below_on s3 hb⟩) | (obtain ⟨s1, s2, s3⟩ := (‹_ ∧ CH _ _ _ _ _ ∧ Below _ _ _›); exact ⟨cell_keep (below_alloc (Below.refl _ _) _) s1, s2.low (below_alloc (Below.refl _ _) _), below_alloc s3 _⟩))
      (first | (go_at_call 24; have s := (‹_ ∧ CH _ _ _ _ _ ∧ Below _ _ _›).2.1; refine (chroster_of s hE.out hl).mono ?_; rintro e' w5 ⟨a, c, rfl, hown, hb⟩; have HOwn := Lib.hid hown; have HB5 := Lib.hid hb; clear s hown))
    all_goals
      obtain ⟨-, -, hb6⟩ := (‹_ ∧ CH _ _ _ _ _ ∧ Below _ _ _›)
      have HB6 := Lib.hid hb6
      clear hb6
      go_wp2_with fail
      go_ret
      have hz4 : w.heap.size ≤ W4.heap.size := HP4.out.only.size
      have hz5 : W4.heap.size ≤ w5.heap.size := by have := HB5.out.size; simpa using this
      have hb5 : Below w5.heap.size w5 (w5.alloc (.cells (leaseA W.fr S.e a S.zs.length c S.nw (now + 6)) 46)) := below_alloc (Below.refl _ _) _
      refine ⟨w5.heap.size, a, c, rfl, HP4.out.low HB6.out, ⟨fun i v hv => ?_, fun i => World.frozen?_alloc_new _ _ _ _, (own_ints HOwn.out).keep hb5, by simp⟩, by omega, ownsRow_base (ownsRow_below HOwn.out hb5) (by simpa using hz4)⟩
      exact (World.cell?_alloc_new w5 _ _ i).trans hv
end Go.Proofs.YthiphdcbboapkaaGreatDoor

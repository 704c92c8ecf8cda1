/- ChiefAll: the chief and the document's one side by side. ChiefAll: the walk. -/
import Derived.Test.YthiphdcbboapkaaGreatDoorHB
import Derived.Test.YthiphdcbboapkaaGreatDoorH7
namespace Go.Proofs.YthiphdcbboapkaaGreatDoor
open Go.RowKit Go.Maps

set_option maxRecDepth 100000
/-- The chief and the document's one. -/
structure AllW (w wr : World) (x d : Nat) (k : Nat) (t : Int) (S : St) (f : Ft) (F : Dt) : Prop where
  ch : CH w wr x S f
  da : DAt wr d S F
  hg : HdG S F t
  ok : OkS S t
  kk : S.k ≤ k + 1
  mm : S.m ≤ 7 + 6 * k
  t0 : 3 ≤ t
  t1 : t ≤ 3 + 3 * (k : Int)
  dlo : w.heap.size ≤ d
  df : d ∉ foot x f
  af : ∀ q ∈ rowB F.a, q ∉ foot x f ∧ q ≠ d
  yf : 0 < S.e2 → ∀ q ∈ rowB F.ya, q ∉ foot x f ∧ q ≠ d
theorem ok_ne {S : St} {T : Int} (h : OkS S T) : S.zs ≠ [] ∧ (0 < S.e2 → S.zs2 ≠ []) := by
  refine ⟨fun e => ?_, fun h0 e => ?_⟩
  · have := (mayB_mayL h.may).2.1
    rw [e] at this; simp at this
  · rcases h.nx with h1 | h1
    · omega
    · have := (mayB_mayL h1.2.1).2.1
      rw [e] at this; simp at this
theorem AllW.alt {w wr : World} {x d : Nat} {k : Nat} {t : Int} {S : St} {f : Ft} {F : Dt} (h : AllW w wr x d k t S f F) : ∀ q ∈ rowB F.a, q < wr.heap.size := ints_blt h.da.rz (ok_ne h.ok).1
theorem AllW.ylt {w wr : World} {x d : Nat} {k : Nat} {t : Int} {S : St} {f : Ft} {F : Dt} (h : AllW w wr x d k t S f F) (h0 : 0 < S.e2) : ∀ q ∈ rowB F.ya, q < wr.heap.size := ints_blt (h.da.nx h0).2.2.2.1 ((ok_ne h.ok).2 h0)
theorem AllW.low {w wr w' : World} {x d : Nat} {k : Nat} {t : Int} {S : St} {f : Ft} {F : Dt} (h : AllW w wr x d k t S f F) (hb : Below wr.heap.size wr w') : AllW w w' x d k t S f F :=
  { h with ch := h.ch.low hb, da := h.da.low hb }
/-- Blocks beside it turn nothing. -/
theorem AllW.aside {T : List Nat} {w wr w' : World} {x d : Nat} {k : Nat} {t : Int} {S : St} {f : Ft} {F : Dt} (h : AllW w wr x d k t S f F) (ho : Only T wr w') (h1 : ∀ q ∈ foot x f, q ∉ T) (h2 : d ∉ T) (h3 : ∀ q ∈ rowB F.a, q ∉ T) (h4 : 0 < S.e2 → ∀ q ∈ rowB F.ya, q ∉ T) (hl : ∀ i ∈ T, w.heap.size ≤ i) : AllW w w' x d k t S f F :=
  { h with ch := h.ch.keep ho h1 hl, da := h.da.keepO ho h2 h3 h4 }
/-- The chief has turned, the document's one not yet. -/
structure Half (w w' : World) (x d : Nat) (S S' : St) (f' : Ft) (F : Dt) : Prop where
  ch : CH w w' x S' f'
  da : DAt w' d S F
  df : d ∉ foot x f'
  af : ∀ q ∈ rowB F.a, q ∉ foot x f' ∧ q ≠ d
  yf : 0 < S.e2 → ∀ q ∈ rowB F.ya, q ∉ foot x f' ∧ q ≠ d
theorem AllW.half {w wr w' : World} {x d : Nat} {k : Nat} {t : Int} {S S' : St} {f f' : Ft} {F : Dt} (h : AllW w wr x d k t S f F) (hp : PostF w wr x f S' f' w') : Half w w' x d S S' f' F := by
  have hof : ∀ q, q < wr.heap.size → q ∉ foot x f → q ∉ foot x f' := fun q hl hn hm => hp.aside (T := [q]) (fun i hi hj => by simp at hj; subst hj; exact hn hi) (fun i hi => by simp at hi; subst hi; exact hl) q hm (by simp)
  exact ⟨hp.ch, h.da.keepO hp.only (fun hm => h.df (own_foot hm)) (fun q hq hm => (h.af q hq).1 (own_foot hm)) (fun h0 q hq hm => (h.yf h0 q hq).1 (own_foot hm)), hof d h.da.lt h.df, fun q hq => ⟨hof q (h.alt q hq) (h.af q hq).1, (h.af q hq).2⟩, fun h0 q hq => ⟨hof q (h.ylt h0 q hq) (h.yf h0 q hq).1, (h.yf h0 q hq).2⟩⟩
/-- Both have turned. -/
theorem Half.full {w w' w2 : World} {x d : Nat} {k : Nat} {t : Int} {S S' : St} {f' : Ft} {F F' : Dt} (h : Half w w' x d S S' f' F) (hd : PostD w' d S F S' F' w2) (hdl : w.heap.size ≤ d) (hg : HdG S' F' t) (hok : OkS S' t) (hk : S'.k ≤ k + 1) (hm : S'.m ≤ 7 + 6 * k) (h0 : 3 ≤ t) (h1 : t ≤ 3 + 3 * (k : Int)) : AllW w w2 x d k t S' f' F' where
  ch := h.ch.keep hd.only (fun q hq hm => by simp at hm; subst hm; exact h.df hq) (fun i hi => by simp at hi; omega)
  da := hd.da
  hg := hg
  ok := hok
  kk := hk
  mm := hm
  t0 := h0
  t1 := h1
  dlo := hdl
  df := h.df
  af := fun q hq => by
    rcases hd.ra q hq with h2 | ⟨h2, h3⟩ | h2
    · exact h.af q h2
    · exact h.yf h2 q h3
    · exact ⟨fun hm => by have := h.ch.lt q hm; omega, fun e => by have := h.da.lt; omega⟩
  yf := fun h4 q hq => by
    rcases hd.ry h4 q hq with ⟨h2, h3⟩ | h2
    · exact h.yf h2 q h3
    · exact ⟨fun hm => by have := h.ch.lt q hm; omega, fun e => by have := h.da.lt; omega⟩
theorem stepS_e2 (S : St) (kind fr tt ep now : Int) : (stepS S kind fr tt ep now).e2 = S.e2 := by
  unfold stepS
  split
  · rfl
  · split
    · split
      · rfl
      · unfold beatS; split <;> rfl
    · split <;> rfl
/-- Behind the chief's Step. -/
structure Mid1 (w wr w6 : World) (x d k : Nat) (t : Int) (S : St) (f f6 : Ft) (F : Dt) (W : Wd) (v : Value) : Prop where
  al : AllW w wr x d k t S f F
  hf : Half w w6 x d S (stepS S W.kind W.fr W.tt W.ep t) f6 F
  td : Told w wr w6 x S f6 W t v
  sz : wr.heap.size ≤ w6.heap.size
theorem both1 {w wr : World} (LA : Laid w) {x d k : Nat} {t : Int} {S : St} {f : Ft} {F : Dt} (h : AllW w wr x d k t S f F) (hk : k ≤ 60) (W : Wd) :
    Calls Tryz.prog 18 #[.pointer (some ⟨x, 0, none⟩), wordV W, .int .i64 t] wr fun e' w6 => ∃ v f6, e' = .returned v ∧ f6.g = f.g ∧ Only (own x f) wr w6 ∧ Mid1 w wr w6 x d k t S f f6 F W v := by
  have h1 := h.t1
  refine (step_any LA h.ch h.ok (by omega) (by have := h.kk; omega) (by have := h.mm; omega) W (now := t) ⟨by have := h.t0; omega, Int.le_refl _⟩).mono ?_
  rintro e' w6 ⟨v, f6, rfl, hp, hg, ht⟩
  exact ⟨v, f6, rfl, hg, hp.only, ⟨h, h.half hp, ht, hp.only.size⟩⟩
/-- Behind both Steps. -/
structure Mid2 (w w7 : World) (x d k : Nat) (t : Int) (S : St) (f6 : Ft) (F' : Dt) (v v2 : Value) : Prop where
  al : AllW w w7 x d (k + 1) t S f6 F'
  eq : (v = .slice none 0 0 ∧ v2 = .slice none 0 0) ∨ ∃ q1 q2 fr e zs nw un a1 a2 c1 c2, v = .slice (some ⟨q1, 0, none⟩) 1 1 ∧ v2 = .slice (some ⟨q2, 0, none⟩) 1 1 ∧ LeaseAt w7 q1 fr e zs nw un a1 c1 ∧ LeaseAt w7 q2 fr e zs nw un a2 c2 ∧ zs.length ≤ 5
theorem both2 {w wr w6 : World} {x d k : Nat} {t : Int} {S : St} {f f6 : Ft} {F : Dt} {W : Wd} {v : Value} (h : Mid1 w wr w6 x d k t S f f6 F W v) (hk : k ≤ 60) :
    Calls Tryz.prog 19 #[.pointer (some ⟨d, 0, none⟩), wordV W, .int .i64 t] w6 fun e' w7 => ∃ v2 F', e' = .returned v2 ∧ Only [d] w6 w7 ∧ Mid2 w w7 x d k t (stepS S W.kind W.fr W.tt W.ep t) f6 F' v v2 := by
  have h0 := h.al.t0
  have h1 := h.al.t1
  have hl5 := (mayB_ok h.al.ok.may).2.2.1
  refine (dstep_any h.hf.da (fun q hq => (h.hf.af q hq).2) (fun h0 q hq => (h.hf.yf h0 q hq).2) hl5 (mayB_ok h.al.ok.may).2.2.2.2.1 h.al.hg W (now := t) ⟨by omega, Int.le_refl _⟩ (by omega)).mono ?_
  rintro e' w7 ⟨v2, g, rfl, hda, hg, ho, ht⟩
  have hk6 := stepS_k S W.kind W.fr W.tt W.ep t
  have hkk := h.al.kk
  have hmm := h.al.mm
  refine ⟨v2, _, rfl, ho, ⟨h.hf.full ⟨hda, ho, fun q hq => Or.inl hq, fun h2 q hq => Or.inl ⟨by rw [stepS_e2] at h2; exact h2, hq⟩⟩ h.al.dlo hg (stepS_ok h.al.ok ⟨by omega, Int.le_refl _⟩) (by omega) (by omega) h0 (by omega), ?_⟩⟩
  rcases h.td with ⟨h2, rfl⟩ | ⟨h2, q, a, c, rfl, h3, h4, h5, h6⟩
  · rcases ht with ⟨h3, rfl⟩ | ⟨h3, _⟩
    · exact Or.inl ⟨rfl, rfl⟩
    · rw [h2] at h3; cases h3
  · rcases ht with ⟨h7, _⟩ | ⟨_, q2, rfl, h7, h8⟩
    · rw [h2] at h7; cases h7
    · refine Or.inr ⟨q, q2, W.fr, S.e, S.zs, S.nw, t + 6, a, F.a, c, F.c, rfl, rfl, h3.keepO ho (fun hm => by simp at hm; have := h.al.da.lt; omega) (fun i hi hm => ?_), h7, hl5⟩
      simp at hm
      have h9 := (own_ge h5 i hi).1
      have := h.al.da.lt
      omega
theorem both3 {w w7 : World} {x d k : Nat} {t : Int} {S : St} {f6 : Ft} {F' : Dt} {v v2 : Value} (h : Mid2 w w7 x d k t S f6 F' v v2) :
    Calls Tryz.prog 17 #[v, v2] w7 fun e w8 => e = .returned (.bool true) ∧ AllW w w8 x d (k + 1) t S f6 F' ∧ Below w7.heap.size w7 w8 := by
  rcases h.eq with ⟨rfl, rfl⟩ | ⟨q1, q2, fr, e, zs, nw, un, a1, a2, c1, c2, rfl, rfl, h1, h2, h3⟩
  · refine (eqLeases_none w7).mono ?_
    rintro e w8 ⟨rfl, hb⟩
    exact ⟨rfl, h.al.low hb, hb⟩
  · refine (eqLeases_one h1 h2 h3).mono ?_
    rintro e w8 ⟨rfl, hb⟩
    exact ⟨rfl, h.al.low hb, hb⟩
/-- A tick of both. -/
structure MidT (w wr w6 : World) (x d k : Nat) (t : Int) (S : St) (f f6 : Ft) (F : Dt) (now : Int) : Prop where
  al : AllW w wr x d k t S f F
  hf : Half w w6 x d S (tickS S now) f6 F
theorem tick1 {w wr : World} (LA : Laid w) {x d k : Nat} {t : Int} {S : St} {f : Ft} {F : Dt} (h : AllW w wr x d k t S f F) (hk : k ≤ 60) {now : Int} (hn : t ≤ now ∧ now ≤ t + 3) :
    Calls Tryz.prog 20 #[.pointer (some ⟨x, 0, none⟩), .int .i64 now] wr fun e' w6 => ∃ f6, e' = .returned (.slice none 0 0) ∧ f6.g = f.g ∧ MidT w wr w6 x d k t S f f6 F now := by
  have h0 := h.t0
  have h1 := h.t1
  refine (tick_any LA h.ch (h.ok.mono (show t ≤ now by omega)) (by omega) (by have := h.kk; omega) (now := now) ⟨by omega, Int.le_refl _⟩).mono ?_
  rintro e' w6 ⟨rfl, f6, hp, hg⟩
  exact ⟨f6, rfl, hg, ⟨h, h.half hp⟩⟩
theorem tick2 {w wr w6 : World} {x d k : Nat} {t : Int} {S : St} {f f6 : Ft} {F : Dt} {now : Int} (h : MidT w wr w6 x d k t S f f6 F now) (hk : k ≤ 60) (hn : t ≤ now ∧ now ≤ t + 3) :
    Calls Tryz.prog 21 #[.pointer (some ⟨d, 0, none⟩), .int .i64 now] w6 fun e' w7 => e' = .returned (.tuple #[]) ∧ ∃ F', AllW w w7 x d (k + 1) now (tickS S now) f6 F' := by
  have h0 := h.al.t0
  have h1 := h.al.t1
  have hok : OkS S now := h.al.ok.mono hn.1
  have hg : HdG S F now := ⟨h.al.hg.1, fun i hi => by have := h.al.hg.2 i hi; omega⟩
  refine (dtick_any h.hf.da (fun q hq => (h.hf.af q hq).2) (fun h0 q hq => (h.hf.yf h0 q hq).2) hok (by omega) hg (now := now) ⟨by omega, Int.le_refl _⟩).mono ?_
  rintro e' w7 ⟨rfl, F', hp, hg2⟩
  have hk6 := tickS_k S now
  have hkk := h.al.kk
  have hmm := h.al.mm
  have hz2 : S.zs2.length ≤ 5 := by
    rcases h.al.ok.nx with h2 | h2
    · rw [h2.2.1]; simp
    · exact (mayB_mayL h2.2.1).2.2
  exact ⟨rfl, F', h.hf.full hp h.al.dlo hg2 (tickS_ok hok ⟨by omega, Int.le_refl _⟩) (by omega) (by omega) (by omega) (by omega)⟩
/-! a fall -/
theorem tear1 {w wr : World} {x d k : Nat} {t : Int} {S : St} {f : Ft} {F : Dt} (h : AllW w wr x d k t S f F) (hk : k ≤ 60) (n : Int) (hn : -9223372036854775808 ≤ n ∧ n ≤ 9223372036854775807) :
    Calls Tryz.prog 22 #[.pointer (some ⟨f.g, 0, none⟩), .int .i64 n] wr fun e' w' => ∃ g b, e' = .returned (.pointer (some ⟨g, 0, none⟩)) ∧ Torn w w' g b S.e S.zs S.nw S.k ∧ wr.heap.size ≤ g ∧ wr.heap.size ≤ b ∧ wr.heap.size ≤ w'.heap.size ∧ AllW w w' x d k t S f F := by
  obtain ⟨l1, l2, l3⟩ := h.ok.la
  refine (chtear_any h.ch (by rw [l2]; exact (ok_ne h.ok).1) (by have := h.kk; omega) n hn).mono ?_
  rintro e' w' ⟨g, b, rfl, ht, hb, hg, hbb⟩
  rw [l1, l2, l3] at ht
  exact ⟨g, b, rfl, ht, hg, hbb, hb.size, h.low hb⟩
/-- A new chief of what lasts beside the document's elder one. -/
structure MidR (w w5 : World) (x d k : Nat) (t : Int) (S : St) (f' : Ft) (F : Dt) : Prop where
  ch : CH w w5 x (tornS S.e S.zs S.nw S.k t) f'
  da : DAt w5 d S F
  ok : OkS S t
  kk : S.k ≤ k + 1
  t0 : 3 ≤ t
  t1 : t ≤ 3 + 3 * (k : Int)
  af : ∀ q ∈ rowB F.a, q ∉ foot x f'
theorem tear2 {w wr w4 : World} (LA : Laid w) {x d k : Nat} {t : Int} {S : St} {f : Ft} {F : Dt} {g b : Nat} (h : AllW w w4 x d k t S f F) (h0 : AllW w wr x d k t S f F) (hk : k ≤ 60) (ht : Torn w w4 g b S.e S.zs S.nw S.k) (hg : wr.heap.size ≤ g) (hb : wr.heap.size ≤ b) (hs : wr.heap.size ≤ w4.heap.size) :
    Calls Tryz.prog 15 #[.pointer (some ⟨g, 0, none⟩), .agg #[.int .i64 0, .slice none 0 0, .int .i64 0], .int .i64 t] w4 fun e' w5 => ∃ x' f', e' = .returned (.tuple #[.pointer (some ⟨x', 0, none⟩), .int .i64 0]) ∧ f'.g = g ∧ MidR w w5 x' d k t S f' F := by
  have h1 := h.t0
  have h2 := h.t1
  refine (chopen_torn LA ht (by have := h.kk; omega) h.ok.may (now := t) (by omega) 0 none [] 0 0).mono ?_
  rintro e' w5 ⟨x', f', rfl, hch, hfg, ho, hf⟩
  have hal := h0.alt
  refine ⟨x', f', rfl, hfg, ⟨hch, h.da.keepO ho (fun hm => ?_) (fun q hq hm => ?_) (fun h3 q hq hm => ?_), h.ok, h.kk, h1, h2, fun q hq hm => ?_⟩⟩
  · have := h0.da.lt; simp at hm; omega
  · have := hal q hq; simp at hm; omega
  · have := h0.ylt h3 q hq; simp at hm; omega
  · have := hal q hq
    rcases hf q hm with h3 | h3 | h3 <;> omega
theorem MidR.low {w w5 w6 : World} {x d k : Nat} {t : Int} {S : St} {f' : Ft} {F : Dt} (h : MidR w w5 x d k t S f' F) (hb : Below w5.heap.size w5 w6) : MidR w w6 x d k t S f' F := { h with ch := h.ch.low hb, da := h.da.low hb }
theorem tornS_docL (S : St) (a a1 : Option Addr) (c c1 : Nat) (g : Nat → Int) (t : Int) : docL (tornS S.e S.zs S.nw S.k t) (F0 a c g) = ((((docL (newS 1 [1] t) (F0 a1 c1 g)).set 0 (.int .i64 S.e)).set 1 (.slice a S.zs.length c)).set 2 (.int .i64 S.nw)).set 7 (.int .i64 (t + 6)) := rfl
/-- The document's new one has the elder one's roster. -/
theorem MidR.fin {w w5 w6 : World} {x d d2 k : Nat} {t : Int} {S : St} {f' : Ft} {F : Dt} {a1 : Option Addr} {c1 : Nat} {g : Nat → Int} (h : MidR w w5 x d k t S f' F) (hb : Below w5.heap.size w5 w6) (hd : w5.heap.size ≤ d2) (hda : DAt w6 d2 (newS 1 [1] t) (F0 a1 c1 g)) (hg : ∀ i, i < 6 → g i = t) :
    AllW w ((((w6.setCell ⟨d2, 0, none⟩ (.int .i64 S.e)).setCell ⟨d2, 1, none⟩ (.slice F.a S.zs.length F.c)).setCell ⟨d2, 2, none⟩ (.int .i64 S.nw)).setCell ⟨d2, 7, none⟩ (.int .i64 (t + 6))) x d2 (k + 1) t (tornS S.e S.zs S.nw S.k t) f' (F0 F.a F.c g) := by
  have ho : Only [d2] w6 ((((w6.setCell ⟨d2, 0, none⟩ (.int .i64 S.e)).setCell ⟨d2, 1, none⟩ (.slice F.a S.zs.length F.c)).setCell ⟨d2, 2, none⟩ (.int .i64 S.nw)).setCell ⟨d2, 7, none⟩ (.int .i64 (t + 6))) := (((only_one 0 _).trans (only_one 1 _)).trans (only_one 2 _)).trans (only_one 7 _)
  have h6 := h.low hb
  have hdf : d2 ∉ foot x f' := fun hm => by have := h.ch.lt d2 hm; omega
  have hal : ∀ q ∈ rowB F.a, q < w5.heap.size := ints_blt h.da.rz (ok_ne h.ok).1
  have hmm := mayB_ok h.ok.may
  have hw5 := h.ch.below.size
  refine ⟨h6.ch.keep ho (fun q hq hm => by simp at hm; subst hm; exact hdf hq) (fun i hi => by simp at hi; omega), ⟨fun j v hv => ?_, fun i => by simp [hda.fz i], h6.da.rz.keepO ho (fun q hq hm => by simp at hm; have := hal q hq; omega), h6.da.cap, fun h0 => absurd h0 (by show ¬ (0 : Int) < 0; omega)⟩, ⟨fun n hn => ?_, fun i hi => ?_⟩, tornS_ok h.ok.may (by have := h.t0; omega), ?_, ?_, h.t0, by have := h.t1; omega, by omega, hdf, fun q hq => ⟨h.af q hq, fun e => by have := hal q hq; omega⟩, fun h0 => absurd h0 (by show ¬ (0 : Int) < 0; omega)⟩
  · rw [tornS_docL S F.a a1 F.c c1 g t] at hv
    exact docs_set (docs_set (docs_set (docs_set hda.cs 0 (by simp) _) 1 (by simp) _) 2 (by simp) _) 7 (by simp) _ j v hv
  · have h1 := hmm.2.2.2.2.1 n hn
    show g n.toNat = if n ∈ S.zs then t else 0
    have hn' : n ∈ S.zs := hn
    rw [if_pos hn', hg _ (by omega)]
  · show 0 ≤ g i ∧ g i ≤ t
    rw [hg i hi]
    have := h.t0
    omega
  · show S.k + 1 ≤ k + 1 + 1
    have := h.kk
    omega
  · show S.zs.length ≤ 7 + 6 * (k + 1)
    have := hmm.2.2.1
    omega
end Go.Proofs.YthiphdcbboapkaaGreatDoor
namespace Go.Proofs.YthiphdcbboapkaaGreatDoor
open Go.RowKit Go.Maps

set_option maxRecDepth 100000
theorem AllW.first {w w4 w5 w6 : World} {x d g b : Nat} {e : Int} {ys : List Int} {f : Ft} {a2 : Option Addr} {c2 : Nat} {g2 : Nat → Int} (hm : mayB e ys 0 = true) (hch : CH w w5 x (newS e ys 3) f) (ho : Only [g, b] w4 w5) (hf : ∀ q ∈ foot x f, q = g ∨ q = b ∨ w4.heap.size ≤ q) (ha : ∀ q ∈ rowB a2, q < w4.heap.size ∧ q ≠ g ∧ q ≠ b) (hda : DAt w6 d (newS e ys 3) (F0 a2 c2 g2)) (hd : w5.heap.size ≤ d) (hb : Below w5.heap.size w5 w6) (hg2 : ∀ i, i < 6 → g2 i = 3) :
    AllW w w6 x d 0 3 (newS e ys 3) f (F0 a2 c2 g2) := by
  have hmm := mayB_ok hm
  have h45 := ho.size
  refine ⟨hch.low hb, hda, ⟨fun n hn => ?_, fun i hi => ?_⟩, newS_ok hm (by omega), ?_, ?_, by omega, by omega, ?_, fun hm2 => by have := hch.lt d hm2; omega, fun q hq => ?_, fun h0 => absurd h0 (by show ¬ (0 : Int) < 0; omega)⟩
  · have h1 := hmm.2.2.2.2.1 n hn
    show g2 n.toNat = if n ∈ ys then 3 else 0
    have hn' : n ∈ ys := hn
    rw [if_pos hn', hg2 _ (by omega)]
  · show 0 ≤ g2 i ∧ g2 i ≤ 3
    rw [hg2 i hi]; omega
  · show 1 ≤ 0 + 1
    omega
  · show ys.length ≤ 7 + 6 * 0
    have := hmm.2.2.1
    omega
  · have := hch.below.size; omega
  · have h1 := ha q hq
    refine ⟨fun hm2 => ?_, fun e => ?_⟩
    · rcases hf q hm2 with h2 | h2 | h2
      · exact h1.2.1 h2
      · exact h1.2.2 h2
      · omega
    · omega
/-- An operation in its box. -/
structure OpW (W : World) (qb : Nat) (op : COp) : Prop where
  rg : W.rangeAt qb 0 op.cells
theorem OpW.keepO {T : List Nat} {W W' : World} {qb : Nat} {op : COp} (h : OpW W qb op) (k : Only T W W') (hq : qb ∉ T) : OpW W' qb op := ⟨fun j v hv => k.cellK (p := ⟨qb, 0 + j, none⟩) hq (h.rg j v hv)⟩
theorem OpW.low {W W' : World} {qb : Nat} {op : COp} (h : OpW W qb op) (k : Below W.heap.size W W') : OpW W' qb op := h.keepO (T := []) (Only.of_below k) (by simp)
theorem OpW.k0 {W : World} {qb : Nat} {op : COp} (h : OpW W qb op) : W.cell? ⟨qb, 0, none⟩ = some (.int .i64 op.kind) := h.rg 0 _ rfl
theorem OpW.k1 {W : World} {qb : Nat} {op : COp} (h : OpW W qb op) : W.cell? ⟨qb, 1, none⟩ = some (.int .i64 op.n) := h.rg 1 _ rfl
theorem OpW.k2 {W : World} {qb : Nat} {op : COp} (h : OpW W qb op) : W.cell? ⟨qb, 2, none⟩ = some (.int .i64 op.fr) := h.rg 2 _ rfl
theorem OpW.k3 {W : World} {qb : Nat} {op : COp} (h : OpW W qb op) : W.cell? ⟨qb, 3, none⟩ = some (.bool op.old) := h.rg 3 _ rfl
theorem OpW.word {W : World} {qb : Nat} {op : COp} (h : OpW W qb op) : W.rangeAt qb 4 (wordC op.w).toList := fun j v hv => by
  have h2 := h.rg (j + 4) v (by show (Value.int .i64 op.kind :: Value.int .i64 op.n :: Value.int .i64 op.fr :: Value.bool op.old :: (wordC op.w).toList)[j + 4]? = some v; simpa using hv)
  rw [show 0 + (j + 4) = 4 + j by omega] at h2
  exact h2
theorem OpW.lt {W : World} {qb : Nat} {op : COp} (h : OpW W qb op) : qb < W.heap.size := cell_old h.k0
theorem WAll.set3 {w : World} {q : Nat} {fr ep K : Int} (h : WAll w q (wd K fr ep)) (e' : Int) : WAll (w.setCell ⟨q, 3, none⟩ (.int .i64 e')) q (wd K fr e') := ⟨fun i v hv => by
  match i with
  | 0 => rw [World.cell?_setCell_other _ _ _ _ (by simp)]; exact h.cs 0 v hv
  | 1 => rw [World.cell?_setCell_other _ _ _ _ (by simp)]; exact h.cs 1 v hv
  | 2 => rw [World.cell?_setCell_other _ _ _ _ (by simp)]; exact h.cs 2 v hv
  | 3 =>
    obtain rfl : v = .int .i64 e' := (Option.some.inj hv).symm
    exact World.cell?_setCell_same _ _ _ (h.cs 3 _ rfl)
  | i + 4 =>
    rw [World.cell?_setCell_other _ _ _ _ (fun e => by injection e with h1 h2; omega)]
    exact h.cs (i + 4) v hv⟩
theorem WAll.setk {w : World} {q : Nat} {fr ep K : Int} (h : WAll w q (wd K fr ep)) (K' : Int) : WAll (w.setCell ⟨q, 0, none⟩ (.int .i64 K')) q (wd K' fr ep) := ⟨fun i v hv => by
  match i with
  | 0 =>
    obtain rfl : v = .int .i64 K' := (Option.some.inj hv).symm
    exact World.cell?_setCell_same _ _ _ (h.cs 0 _ rfl)
  | i + 1 =>
    rw [World.cell?_setCell_other _ _ _ _ (fun e => by injection e with h1 h2; omega)]
    exact h.cs (i + 1) v hv⟩
theorem word_made_drew {w : World} {zs : Array Value} {ty : TypeId} {W : Wd} (hz : zs.size = 21) : Below w.heap.size w ((w.alloc (.cells zs ty)).drew.setCells w.heap.size 0 (wordC W).toList) ∧ WAll ((w.alloc (.cells zs ty)).drew.setCells w.heap.size 0 (wordC W).toList) w.heap.size W ∧ ∀ i, ((w.alloc (.cells zs ty)).drew.setCells w.heap.size 0 (wordC W).toList).frozen? ⟨w.heap.size, i, none⟩ = false :=
  ⟨below_setCells _ _ _ (Below.drew (below_alloc (Below.refl _ _) _)) (Nat.le_refl _), ⟨fun i v hv => by
    have h := World.rangeAt_setCells_same (w.alloc (.cells zs ty)).drew w.heap.size 0 (wordC W).toList (fun j hj => there_new w zs ty hz j hj) i v (by simpa using hv)
    rwa [Nat.zero_add] at h⟩, fun i => (World.frozen?_setCells _ _ _ _ _).trans (World.frozen?_alloc_new _ _ _ _)⟩
theorem four (n : Int) : ∃ d j : Int, n.tmod 4 = d ∧ (d + 4).tmod 4 = j ∧ (d + 4) % 4 = j ∧ d % 4 = j ∧ -4 < d ∧ d < 4 ∧ 0 ≤ j ∧ j ≤ 3 := by
  obtain ⟨d, hd⟩ : ∃ d, n.tmod 4 = d := ⟨_, rfl⟩
  have h1 : d < 4 := by rw [← hd]; exact Int.tmod_lt_of_pos _ (by omega)
  have h2 : -4 < d := by rw [← hd]; have := Int.tmod_lt_of_pos (-n) (show (0 : Int) < 4 by omega); rw [Int.neg_tmod] at this; omega
  have h3 : (d + 4).tmod 4 = (d + 4) % 4 := Int.tmod_eq_emod_of_nonneg (by omega)
  exact ⟨d, (d + 4) % 4, hd, h3, rfl, by omega, h2, h1, by omega, by omega⟩
/-- What is compared behind each operation. -/
def EndP (w X : World) (x d : Nat) (S : St) (f : Ft) (F : Dt) (ch lo : Bool) (U : World) : Prop := U.cell? ⟨d, 0, none⟩ = some (.int .i64 S.e) ∧ U.cell? ⟨d, 1, none⟩ = some (.slice F.a S.zs.length F.c) ∧ U.cell? ⟨d, 2, none⟩ = some (.int .i64 S.nw) ∧ U.cell? ⟨d, 6, none⟩ = some (.bool ch) ∧ U.cell? ⟨d, 7, none⟩ = some (.int .i64 S.un) ∧ U.cell? ⟨d, 15, none⟩ = some (.bool lo) ∧ CH w U x S f ∧ DAt U d S F ∧ Below X.heap.size X U
theorem EndP.of {w X U : World} {x d : Nat} {S : St} {f : Ft} {F : Dt} {ch lo : Bool} (h1 : CH w U x S f) (h2 : DAt U d S F) (h3 : Below X.heap.size X U) (hc : decide (0 < S.e2) = ch) (hl : S.lost = lo) : EndP w X x d S f F ch lo U :=
  ⟨h2.d0, h2.d1, h2.d2, by rw [← hc]; exact h2.d6, h2.d7, by rw [← hl]; exact h2.d15, h1, h2, h3⟩
theorem EndP.keep {w X U U' : World} {x d : Nat} {S : St} {f : Ft} {F : Dt} {ch lo : Bool} (h : EndP w X x d S f F ch lo U) (k : Below U.heap.size U U') : EndP w X x d S f F ch lo U' := by
  obtain ⟨h1, h2, h3, h4, h5, h6, h7, h8, h9⟩ := h
  exact ⟨cell_keep k h1, cell_keep k h2, cell_keep k h3, cell_keep k h4, cell_keep k h5, cell_keep k h6, h7.low k, h8.low k, below_on h9 k⟩
theorem word_oneW (W : Wd) : ((wordC W).all fun v => v.oneCell') = true := all_oneCell_toArray (cs := (wordC W).toList) (fun v hv => by
  simp only [wordC, List.mem_cons, List.mem_nil_iff, or_false] at hv
  rcases hv with rfl | rfl | rfl | rfl | rfl | rfl | rfl | rfl | rfl | rfl | rfl | rfl | rfl | rfl | rfl | rfl | rfl | rfl | rfl | rfl | rfl <;> rfl)
theorem only_setCells {b : Nat} {a : World} : ∀ (vs : List Value) (o : Nat) (w : World), Only [b] a w → Only [b] a (w.setCells b o vs)
  | [], _, _, h => h
  | v :: r, o, w, h => only_setCells r (o + 1) (w.setCell ⟨b, o, none⟩ v) (h.trans (only_one o v))
theorem WAll.there {w : World} {q : Nat} {W : Wd} (h : WAll w q W) (hf : ∀ i, w.frozen? ⟨q, i, none⟩ = false) : w.there q 0 21 := fun j hj => by
  rw [Nat.zero_add]
  have h21 : (wordC W).size = 21 := rfl
  have h2 := h.cs j _ (Array.getElem?_eq_getElem (by rw [h21]; exact hj))
  exact ⟨by rw [h2]; rfl, hf j⟩
theorem WAll.stored {w : World} {q : Nat} {W W' : Wd} (h : WAll w q W) (hf : ∀ i, w.frozen? ⟨q, i, none⟩ = false) : WAll (w.setCells q 0 (wordC W').toList) q W' := ⟨fun i v hv => by
  have h2 := World.rangeAt_setCells_same w q 0 (wordC W').toList (h.there hf) i v (by simpa using hv)
  rwa [Nat.zero_add] at h2⟩
theorem put_nil (a : Act) (v : Value) : a.put none v = a := rfl
theorem B3.all {w : World} {q : Nat} {u v t : Value} (h : B3 w q u v t) (u' v' t' : Value) : B3 (((w.setCell ⟨q, 0, none⟩ u').setCell ⟨q, 1, none⟩ v').setCell ⟨q, 2, none⟩ t') q u' v' t' := by
  obtain ⟨y0, y1, y2, g0, g1, g2⟩ := h
  refine ⟨?_, ?_, ?_, ?_, ?_, ?_⟩
  · rw [World.cell?_setCell_other _ _ _ _ (by simp), World.cell?_setCell_other _ _ _ _ (by simp)]
    exact World.cell?_setCell_same _ _ _ y0
  · rw [World.cell?_setCell_other _ _ _ _ (by simp)]
    exact World.cell?_setCell_same _ _ _ (by rw [World.cell?_setCell_other _ _ _ _ (by simp)]; exact y1)
  · exact World.cell?_setCell_same _ _ _ (by rw [World.cell?_setCell_other _ _ _ _ (by simp), World.cell?_setCell_other _ _ _ _ (by simp)]; exact y2)
  · simp [g0]
  · simp [g1]
  · simp [g2]
set_option maxHeartbeats 25600000 in
theorem chiefAll_walk (e nw : Int) (a : Option Addr) (c : Nat) (zs : List Int) (a1 : Option Addr) (c1 : Nat) (L : List COp) (w : World) (hz : IntsAt w a zs) (hlz : zs.length ≤ 9223372036854775807) (hcap : zs.length ≤ c) (hzL : RowsAt w a1 25 (L.map COp.cells)) (hLo : ∀ o ∈ L, -9223372036854775808 ≤ o.n ∧ o.n ≤ 9223372036854775807) (LA : Laid w) :
    Calls Tryz.prog 3 #[.agg #[.int .i64 e, .slice a zs.length c, .int .i64 nw], .slice a1 L.length c1] w fun e w' => e = .returned (.bool true) ∧ Below w.heap.size w w' := by
  have HL := Lib.hid LA
  have HZL := Lib.hid hzL
  have hb0 := below_alloc (Below.refl w.heap.size w) (.cells #[.int .i64 e, .slice a zs.length c, .int .i64 nw] 24)
  have HX := Lib.hid (B3.new w (.int .i64 e) (.slice a zs.length c) (.int .i64 nw) 24)
  have HZ := Lib.hid (hz.keep hb0)
  have HB := Lib.hid hb0
  have hs : w.heap.size < (w.alloc (.cells #[.int .i64 e, .slice a zs.length c, .int .i64 nw] 24)).heap.size := by simp
  have HS := Lib.hid hs
  have HLo := Lib.hid hLo
  clear LA hz hb0 hzL hs hLo
  go_enter Tryz.func3, Tryz.ntmps3
  go_upto_region 1 with fail
  generalize w.alloc _ = V at HX HZ HB HS ⊢
  obtain ⟨rb, hrb⟩ : ∃ rb, w.heap.size = rb := ⟨_, rfl⟩
  have HRB := Lib.hid hrb
  rw [hrb] at HX HS ⊢
  clear hrb
  go_wp2_with fail
  refine (begun10_any _ (HL.out.keep HB.out)).mono ?_
  rintro e' w1 ⟨rfl, hb⟩
  have HX1 := Lib.hid (HX.out.keep hb)
  have HZ1 := Lib.hid (HZ.out.keep hb)
  have HB1 := Lib.hid (below_on HB.out hb)
  have HS1 : Hid (rb < w1.heap.size) := Lib.hid (Nat.lt_of_lt_of_le HS.out hb.size)
  clear hb HX HZ HB HS
  obtain ⟨y0, y1, y2, -⟩ := HX1.out
  go_wp2_with fail
  refine (roster_any e nw a c zs _ HZ1.out hlz hcap).mono ?_
  rintro e' w2 ⟨v2, rfl, hown, hb⟩
  have hl7 : (zs.take 7).length ≤ 7 := by simp; omega
  obtain ⟨ys, hys⟩ : ∃ ys, zs.take 7 = ys := ⟨_, rfl⟩
  rw [hys] at hown hl7
  obtain ⟨a2, c2, rfl, -, hc2⟩ := own_cap hown
  have HX2 := Lib.hid (HX1.out.keep hb)
  clear y0 y1 y2 hys
  obtain ⟨y0, y1, y2, g0, g1, g2⟩ := HX2.out
  have HO : Hid (∀ u v t : Value, OwnI (((w2.setCell ⟨rb, 0, none⟩ u).setCell ⟨rb, 1, none⟩ v).setCell ⟨rb, 2, none⟩ t) w1.heap.size (.slice a2 ys.length c2) ys) := Lib.hid (fun u v t => own_set3 hown HS1.out _ _ _)
  have HB3 : Hid (∀ u v t : Value, Below w.heap.size w (((w2.setCell ⟨rb, 0, none⟩ u).setCell ⟨rb, 1, none⟩ v).setCell ⟨rb, 2, none⟩ t)) := Lib.hid (fun u v t => below_set3 (below_on HB1.out hb) (by have := HRB.out; omega) _ _ _ _ _ _)
  clear hown hb HZ1 HX1
  go_upto_region 5 with fail
  have HX3 := Lib.hid (HX2.out.all (.int .i64 e) (.slice a2 ys.length c2) (.int .i64 nw))
  have HO3 := Lib.hid (HO.out (.int .i64 e) (.slice a2 ys.length c2) (.int .i64 nw))
  have HB4 := Lib.hid (HB3.out (.int .i64 e) (.slice a2 ys.length c2) (.int .i64 nw))
  clear y0 y1 y2 g0 g1 g2 HX2 HO HB3
  generalize ((w2.setCell ⟨rb, 0, none⟩ (.int .i64 e)).setCell ⟨rb, 1, none⟩ (.slice a2 ys.length c2)).setCell ⟨rb, 2, none⟩ (.int .i64 nw) = W3 at HX3 HO3 HB4 ⊢
  go_wp2_with fail
  refine (new_S (w0 := w) HB4.out 1048576 1048576 (by decide)).mono ?_
  rintro e' w4 ⟨g, b, rfl, hs, hb, hg, hbb⟩
  have HCs := Lib.hid hs
  have HX4 := Lib.hid (HX3.out.keep hb)
  have HZ4 : Hid (IntsAt w4 a2 ys) := Lib.hid ((own_ints HO3.out).keep hb)
  have HB5 := Lib.hid (below_on HB4.out hb)
  have HGb : Hid (W3.heap.size ≤ g ∧ W3.heap.size ≤ b ∧ W3.heap.size ≤ w4.heap.size) := Lib.hid ⟨hg, hbb, hb.size⟩
  have HR3 : Hid (∀ q ∈ rowB a2, q < W3.heap.size) := Lib.hid (fun q hq => (own_ge HO3.out q hq).2)
  have HX3l := Lib.hid HX3.out.lt
  clear hs hb hg hbb HX3 HO3 HB4
  obtain ⟨y0, y1, y2, -⟩ := HX4.out
  go_wp2_with fail
  by_cases hmay : mayB e ys nw = true ∧ nw = 0
  case neg =>
    have hno : mayB e ys nw = false ∨ nw ≠ 0 := by
      by_cases h : mayB e ys nw = true
      · exact Or.inr (fun h2 => hmay ⟨h, h2⟩)
      · exact Or.inl (by simpa using h)
    have HNo := Lib.hid hno
    clear hmay hno
    refine (chopen_no HL.out HCs.out (by decide) (by decide) HNo.out HZ4.out (fun _ q hq => by have := HR3.out q hq; have := HGb.out; omega) (by omega) 3).mono ?_
    rintro e' w5 ⟨rfl, ho⟩
    have HX5 := Lib.hid (HX4.out.keepO ho (fun hm => by simp at hm; have := HX3l.out; have := HGb.out; omega))
    have HZ5 := Lib.hid (HZ4.out.keepO ho (fun q hq hm => by simp at hm; have := HR3.out q hq; have := HGb.out; omega))
    have HB6 : Hid (Below w.heap.size w w5) := Lib.hid (Only.under HB5.out ho (fun i hi => by
      have h1 := HGb.out
      have h2 := HRB.out
      have h3 := HX3l.out
      simp at hi
      omega))
    clear ho y0 y1 y2
    obtain ⟨y0, y1, y2, -⟩ := HX5.out
    go_wp2_with fail
    refine (dnew_no HNo.out HZ5.out (by omega) 3).mono ?_
    rintro e' w6 ⟨rfl, hb⟩
    have HB7 := Lib.hid (below_on HB6.out hb)
    clear hb
    go_wp2_with fail
    go_ret
    exact ⟨rfl, HB7.out⟩
  case pos =>
    obtain ⟨hm, rfl⟩ := hmay
    have HM := Lib.hid hm
    clear hm
    refine (chopen_fresh HL.out HCs.out (by decide) (by decide) HM.out HZ4.out (fun q hq => by have := HR3.out q hq; have := HGb.out; omega) (now := 3) (fitI_of (by omega))).mono ?_
    rintro e' w5 ⟨x, f, rfl, hch, hfg, ho, hf⟩
    have HX5 := Lib.hid (HX4.out.keepO ho (fun hm => by simp at hm; have := HX3l.out; have := HGb.out; omega))
    have HZ5 := Lib.hid (HZ4.out.keepO ho (fun q hq hm => by simp at hm; have := HR3.out q hq; have := HGb.out; omega))
    have HCh := Lib.hid hch
    have HFg := Lib.hid hfg
    have HOn := Lib.hid ho
    have HFf := Lib.hid hf
    clear hch hfg ho hf y0 y1 y2
    obtain ⟨y0, y1, y2, -⟩ := HX5.out
    go_wp2_with fail
    refine (dnew_yes HM.out HZ5.out hc2 3).mono ?_
    rintro e' w6 ⟨d, g2, rfl, hg2, hda, hd, hb⟩
    have HI : Hid (AllW w w6 x d 0 3 (newS e ys 3) f (F0 a2 c2 g2)) := Lib.hid (AllW.first HM.out HCh.out HOn.out HFf.out (fun q hq => by have := HR3.out q hq; have := HGb.out; omega) hda hd hb hg2)
    rw [← HFg.out]
    clear hg2 hda hd hb y0 y1 y2 HX5 HZ5 HCh HOn HFf HCs HX4 HZ4 HB5 HGb HR3 HX3l HM
    go_wp2_with fail
    go_loopw [6, 7, 8, 10, 12] (fun n6 n7 n8 n10 n12 wr => ∃ (k : Nat) (t : Int) (x d : Nat) (S : St) (f : Ft) (F : Dt), n6 = .pointer (some ⟨f.g, 0, none⟩) ∧ n7 = .int .i64 t ∧ n8 = .pointer (some ⟨x, 0, none⟩) ∧ n10 = .pointer (some ⟨d, 0, none⟩) ∧ n12 = .int .i64 (k : Int) ∧ k ≤ L.length ∧ k ≤ 60 ∧ AllW w wr x d k t S f F) (fun _ _ _ _ n12 _ => 61 - (intOf n12).toNat)
    case atStart => exact ⟨0, 3, x, d, _, f, _, rfl, rfl, rfl, rfl, rfl, Nat.zero_le _, by decide, HI.out⟩
    case round =>
      obtain ⟨k, t, x, d, S, f, F, rfl, rfl, rfl, rfl, rfl, hk, hk60, hi⟩ := hrel
      have HI2 := Lib.hid hi
      clear hi HI HFg
      by_cases hlt : k < L.length ∧ k < 60
      · obtain ⟨hlt, h60⟩ := hlt
        have p1 : decide ((k : Int) < (L.length : Int)) = true := decide_eq_true (by omega)
        have p2 : decide ((k : Int) < 60) = true := decide_eq_true (by omega)
        rcases HZL.out with h | ⟨q, o, rfl, hq, hcs⟩
        · exfalso; have : L = [] := by simpa using h
          rw [this] at hlt; simp at hlt
        obtain ⟨op, hop⟩ : ∃ op, L[k]? = some op := ⟨_, List.getElem?_eq_getElem hlt⟩
        have hr0 : w.rangeAt q (o + k * 25) op.cells := fun j v hv => hcs k _ (by rw [List.getElem?_map, hop]; rfl) j v hv
        have hr1 : wr.rangeAt q (o + k * 25) op.cells := fun j v hv => cell_keep HI2.out.ch.below (hr0 j v hv)
        have HOn := Lib.hid (HLo.out op (List.mem_of_getElem? hop))
        have HRng := Lib.hid hr1
        have HOne := Lib.hid (all_oneCell_toArray (cop_one op))
        clear hr0 hr1 hcs hop hq
        go_upto_region 17 with (first
          | (refine wpList_load_mid rfl 48 _ rfl q (o + k * 25) rfl op.cells _ HRng.out Tryz.underlying48 rfl opI ?_)
          | (refine wpList_store_mid rfl 48 _ _ rfl _ 0 op.cells.toArray rfl rfl (there_new _ _ _ rfl) opI HOne.out ?_))
        obtain ⟨hbW, hrW⟩ := op_made (w := wr) (zs := #[.int .i64 0, .int .i64 0, .int .i64 0, .bool false, .int .i64 0, .int .i64 0, .int .i64 0, .int .i64 0, .int .i64 0, .int .i64 0, .int .i64 0, .int .i64 0, .int .i64 0, .int .i64 0, .slice none 0 0, .int .i64 0, .slice none 0 0, .int .i64 0, .slice none 0 0, .slice none 0 0, .int .i64 0, .int .i64 0, .int .i64 0, .int .i64 0, .int .i64 0]) (ty := 48) op rfl
        have HA1 := Lib.hid (HI2.out.low hbW)
        have HOp : Hid (OpW (World.setCells (wr.alloc _) wr.heap.size 0 op.cells) wr.heap.size op) := Lib.hid ⟨hrW⟩
        clear hbW hrW HRng HOne
        generalize World.setCells (wr.alloc _) wr.heap.size 0 op.cells = W1 at HA1 HOp ⊢
        obtain ⟨qb, hqb⟩ : ∃ qb, wr.heap.size = qb := ⟨_, rfl⟩
        have HQb := Lib.hid hqb
        rw [hqb] at HOp ⊢
        clear hqb
        have hwk : IntKind.i64.wrap ((k : Int) + 1) = (k : Int) + 1 := IntWalk.i64_in _ (by omega)
        obtain ⟨dd, j, m1, m2, m3, m4, m5, m6, m7, m8⟩ := five op.fr
        have n1 : IntKind.i64.wrap (dd + 5) = dd + 5 := IntWalk.i64_in _ (by omega)
        have n2 : IntKind.i64.wrap (1 + j) = 1 + j := IntWalk.i64_in _ (by omega)
        have n3 : IntKind.i64.wrap dd = dd := IntWalk.i64_in _ (by omega)
        have n4 : IntKind.i64.wrap j = j := IntWalk.i64_in _ (by omega)
        have k2 := HOp.out.k2
        have d0 := HA1.out.da.d0
        have hdl : d < W1.heap.size := HA1.out.da.lt
        have hql : qb < W1.heap.size := HOp.out.lt
        rw [put_nil]
        go_cut [14] from 62 to 73 (fun v wx => v = .pointer (some ⟨W1.heap.size, 0, none⟩) ∧ Below W1.heap.size W1 wx ∧ WAll wx W1.heap.size (wd 0 (1 + j) S.e) ∧ ∀ i, wx.frozen? ⟨W1.heap.size, i, none⟩ = false)
        case first =>
          refine wp_region_held_drew (S := fun U => U.cell? ⟨qb, 2, none⟩ = some (.int .i64 op.fr) ∧ U.cell? ⟨d, 0, none⟩ = some (.int .i64 S.e) ∧ Below W1.heap.size W1 U) (by kernel_rfl) ⟨k2, d0, Below.drew (Below.refl _ _)⟩ (fun hHeld => ?_)
          refine wpAnyH_take (i := 0) (v := ?_) rfl (by kernel_rfl) (by kernel_rfl) (by kernel_rfl) (fun _ _ _ h => h) (Or.inl ⟨by rfl, ?_⟩) (by assumption) ?_
          rotate_left
          · intro w hSw
            obtain ⟨hS1, hS2, -⟩ := hSw
            go_simp
            all_goals with_reducible rfl
          simp only [Act.put, List.setIfInBounds_toArray]
          refine wpAnyH_take (i := 1) (v := ?_) rfl (by kernel_rfl) (by kernel_rfl) (by kernel_rfl) (fun _ _ _ h => h) (Or.inl ⟨by rfl, ?_⟩) (by assumption) ?_
          rotate_left
          · intro w hSw
            obtain ⟨hS1, hS2, -⟩ := hSw
            go_simp
            all_goals with_reducible rfl
          simp only [Act.put]
          refine wpAnyH_take (i := 2) (v := ?_) rfl (by kernel_rfl) (by kernel_rfl) (by kernel_rfl) (fun _ _ _ h => h) (Or.inl ⟨by rfl, ?_⟩) (by assumption) ?_
          rotate_left
          · intro w hSw
            obtain ⟨hS1, hS2, -⟩ := hSw
            go_simp
            all_goals with_reducible rfl
          simp only [Act.put]
          refine wpAnyH_take (i := 3) (v := ?_) rfl (by kernel_rfl) (by kernel_rfl) (by kernel_rfl) (fun _ _ _ h => h) (Or.inl ⟨by rfl, ?_⟩) (by assumption) ?_
          rotate_left
          · intro w hSw
            obtain ⟨hS1, hS2, -⟩ := hSw
            go_simp
            all_goals with_reducible rfl
          simp only [Act.put]
          refine wpAnyH_take (i := 4) (v := ?_) rfl (by kernel_rfl) (by kernel_rfl) (by kernel_rfl) (fun _ _ _ h => h) (Or.inl ⟨by rfl, ?_⟩) (by assumption) ?_
          rotate_left
          · intro w hSw
            obtain ⟨hS1, hS2, -⟩ := hSw
            go_simp
            all_goals with_reducible rfl
          simp only [Act.put]
          refine wpAnyH_take (i := 5) (v := ?_) rfl (by kernel_rfl) (by kernel_rfl) (by kernel_rfl) (fun _ _ _ h => h) (Or.inl ⟨by rfl, ?_⟩) (by assumption) ?_
          rotate_left
          · intro w hSw
            obtain ⟨hS1, hS2, -⟩ := hSw
            go_simp
            all_goals with_reducible rfl
          simp only [Act.put]
          refine wpAnyH_take (i := 6) (v := ?_) rfl (by kernel_rfl) (by kernel_rfl) (by kernel_rfl) (fun _ _ _ h => h) (Or.inl ⟨by rfl, ?_⟩) (by assumption) ?_
          rotate_left
          · intro w hSw
            obtain ⟨hS1, hS2, -⟩ := hSw
            go_simp
            all_goals with_reducible rfl
          simp only [Act.put]
          refine wpAnyH_take (i := 7) (v := ?_) rfl (by kernel_rfl) (by kernel_rfl) (by kernel_rfl) (fun _ _ _ h => h) (Or.inl ⟨by rfl, ?_⟩) (by assumption) ?_
          rotate_left
          · intro w hSw
            obtain ⟨hS1, hS2, -⟩ := hSw
            go_simp
            all_goals with_reducible rfl
          simp only [Act.put]
          refine wpAnyH_take (i := 8) (v := ?_) rfl (by kernel_rfl) (by kernel_rfl) (by kernel_rfl) (fun _ _ _ h => h) (Or.inl ⟨by rfl, ?_⟩) (by assumption) ?_
          rotate_left
          · intro w hSw
            obtain ⟨hS1, hS2, -⟩ := hSw
            go_simp
            all_goals with_reducible rfl
          simp only [Act.put]
          refine wpAnyH_take (i := 9) (v := ?_) rfl (by kernel_rfl) (by kernel_rfl) (by kernel_rfl) (fun _ _ _ h => h) (Or.inl ⟨by rfl, ?_⟩) (by assumption) ?_
          rotate_left
          · intro w hSw
            obtain ⟨hS1, hS2, -⟩ := hSw
            go_simp
            all_goals with_reducible rfl
          simp only [Act.put]
          refine wpAnyH_take (i := 10) (v := ?_) rfl (by kernel_rfl) (by kernel_rfl) (by kernel_rfl) (fun _ _ _ h => h) (Or.inl ⟨by rfl, ?_⟩) (by assumption) ?_
          rotate_left
          · intro w hSw
            obtain ⟨hS1, hS2, -⟩ := hSw
            go_simp
            all_goals with_reducible rfl
          simp only [Act.put]
          refine wpAnyH_take (i := 11) (v := ?_) rfl (by kernel_rfl) (by kernel_rfl) (by kernel_rfl) (fun _ _ _ h => h) (Or.inl ⟨by rfl, ?_⟩) (by assumption) ?_
          rotate_left
          · intro w hSw
            obtain ⟨hS1, hS2, -⟩ := hSw
            go_simp
            all_goals with_reducible rfl
          simp only [Act.put]
          refine wpAnyH_ready (rs := [12]) (by kernel_rfl) (by simp) ?_
          refine AllReadyH.cons rfl (fun K hK => ?_) AllReadyH.nil
          go_simp
          refine hK.out _ _ ⟨cell_keep (Below.drew (below_alloc (Below.refl _ _) _)) k2, cell_keep (Below.drew (below_alloc (Below.refl _ _) _)) d0, Below.drew (below_alloc (Below.refl _ _) _)⟩ (fun hHeld => ?_)
          clear hK K
          try simp only [Act.put, List.setIfInBounds_toArray, List.set_cons_zero, List.set_cons_succ]
          refine wpAnyH_ready (rs := [13]) (by kernel_rfl) (by simp) ?_
          refine AllReadyH.cons rfl (fun K hK => ?_) AllReadyH.nil
          rw [if_pos (by rfl)]
          refine wp_store_mid 46 _ _ rfl W1.heap.size 0 (wordC (wd 0 (1 + j) S.e)) rfl rfl (fun i hi => ?ht) wordI word_one ?hr
          case ht => exact there_new W1 _ _ rfl i hi
          case hr =>
            obtain ⟨hb5, ha5, hf5⟩ := word_made_drew (w := W1) (zs := #[.int .i64 0, .int .i64 0, .int .i64 0, .int .i64 0, .int .i64 0, .int .i64 0, .int .i64 0, .int .i64 0, .int .i64 0, .int .i64 0, .slice none 0 0, .int .i64 0, .slice none 0 0, .int .i64 0, .slice none 0 0, .slice none 0 0, .int .i64 0, .int .i64 0, .int .i64 0, .int .i64 0, .int .i64 0]) (ty := 46) (W := wd 0 (1 + j) S.e) rfl
            refine hK.out _ _ ⟨cell_keep hb5 k2, cell_keep hb5 d0, hb5⟩ (fun hHeld => ?_)
            clear hK K
            refine wpAnyH_done (by kernel_rfl) ?_ _
            change Exit.then _ _ _ (Act.put _ none undef) _
            rw [put_nil]
            go_wp2_with fail
            go_meet
            exact ⟨rfl, hb5, ha5, hf5⟩
        case rest =>
          obtain ⟨rfl, hbx, hwx, hfx⟩ := hcut
          obtain ⟨X1, hX1⟩ : ∃ X, X = wc := ⟨_, rfl⟩
          subst hX1
          have HFv : Hid ((∀ i ∈ foot x f, i ≠ W1.heap.size) ∧ d ≠ W1.heap.size ∧ (∀ i ∈ rowB F.a, i ≠ W1.heap.size) ∧ (0 < S.e2 → ∀ i ∈ rowB F.ya, i ≠ W1.heap.size) ∧ w.heap.size ≤ W1.heap.size ∧ qb ≠ W1.heap.size) := Lib.hid (by
            have h := HA1.out
            exact ⟨fun i hi e => by have := h.ch.lt i hi; omega, fun e => by have := h.da.lt; omega, fun i hi e => by have := h.alt i hi; omega, fun h0 i hi e => by have := h.ylt h0 i hi; omega, h.ch.below.size, fun e => by have := HOp.out.lt; omega⟩)
          have HA2 := Lib.hid (HA1.out.low hbx)
          have HO2 := Lib.hid (HOp.out.low hbx)
          have HWx := Lib.hid hwx
          have HFx := Lib.hid hfx
          clear hbx hwx hfx HA1 HOp k2 d0 m1 m2 n1 n2 n3 n4 hdl hql
          generalize W1.heap.size = vb at HFv HWx HFx ⊢
          -- an elder epoch
          have k3 := HO2.out.k3
          have v3 : X1.cell? ⟨vb, 3, none⟩ = some (.int .i64 S.e) := HWx.out.cs 3 _ rfl
          have w3 := HFx.out 3
          have hep := mayB_ep HI2.out.ok.may
          have n5 : IntKind.i64.wrap (S.e - 1) = S.e - 1 := IntWalk.i64_in _ (by omega)
          go_upto_if 75 with fail
          go_cut [] from 75 to 79 (fun wx => ∃ ep, Only [vb] X1 wx ∧ WAll wx vb (wd 0 (1 + j) ep) ∧ ∀ i, wx.frozen? ⟨vb, i, none⟩ = false)
          case first =>
            obtain ⟨ol, hol⟩ : ∃ ol, op.old = ol := ⟨_, rfl⟩
            rw [hol]
            cases ol with
            | true =>
              go_wp2_with fail
              go_meet
              exact ⟨S.e - 1, only_one 3 _, HWx.out.set3 (S.e - 1), fun i => by rw [World.frozen?_setCell]; exact HFx.out i⟩
            | false =>
              go_wp2_with fail
              go_meet
              exact ⟨S.e, Only.refl _ _, HWx.out, HFx.out⟩
          case rest =>
            obtain ⟨ep, ho, hwx, hfx⟩ := hcut
            obtain ⟨X2, hX2⟩ : ∃ X, X = wc := ⟨_, rfl⟩
            subst hX2
            have HA3 : Hid (AllW w X2 x d k t S f F) := Lib.hid (HA2.out.aside ho (fun i hi hm => HFv.out.1 i hi (by simpa using hm)) (fun hm => HFv.out.2.1 (by simpa using hm)) (fun i hi hm => HFv.out.2.2.1 i hi (by simpa using hm)) (fun h0 i hi hm => HFv.out.2.2.2.1 h0 i hi (by simpa using hm)) (fun i hi => by have := HFv.out.2.2.2.2.1; simp at hi; omega))
            have HO3 : Hid (OpW X2 qb op) := Lib.hid (HO2.out.keepO ho (fun hm => HFv.out.2.2.2.2.2 (by simpa using hm)))
            have HW3 := Lib.hid hwx
            have HF3 := Lib.hid hfx
            clear ho hwx hfx HA2 HO2 HWx HFx k3 v3 w3 n5
            have k0 := HO3.out.k0
            go_upto_block 2 with fail
            go_cut [6, 7, 8, 9, 10, 15, 16] from 82 to 155 (fun n6 n7 n8 _n9 n10 _n15 _n16 wx => ∃ (t' : Int) (x' d' : Nat) (S' : St) (f' : Ft) (F' : Dt), n6 = .pointer (some ⟨f'.g, 0, none⟩) ∧ n7 = .int .i64 t' ∧ n8 = .pointer (some ⟨x', 0, none⟩) ∧ n10 = .pointer (some ⟨d', 0, none⟩) ∧ AllW w wx x' d' (k + 1) t' S' f' F')
            case first =>
              have hkd : (op.kind = 0 ∨ op.kind = 1 ∨ op.kind = 2) ∨ op.kind = 3 ∨ ((op.kind == 0) = false ∧ (op.kind == 1) = false ∧ (op.kind == 2) = false ∧ (op.kind == 3) = false) := by
                by_cases a0 : op.kind = 0
                · exact Or.inl (Or.inl a0)
                · by_cases a1 : op.kind = 1
                  · exact Or.inl (Or.inr (Or.inl a1))
                  · by_cases a2 : op.kind = 2
                    · exact Or.inl (Or.inr (Or.inr a2))
                    · by_cases a3 : op.kind = 3
                      · exact Or.inr (Or.inl a3)
                      · exact Or.inr (Or.inr ⟨by simpa using a0, by simpa using a1, by simpa using a2, by simpa using a3⟩)
              have HKd := Lib.hid hkd
              clear hkd
              rcases HKd.out with hkd | hkd | ⟨c0, c1, c2, c3⟩
              case inl =>
                have HKe := Lib.hid hkd
                clear hkd
                go_upto_if 115 with fail
                go_cut [115] from 116 to 118 (fun v wx => v = .bool true ∧ X2 = wx)
                case first =>
                  rcases HKe.out with hkd | hkd | hkd
                  · have c0 : (op.kind == 0) = true := by simp [hkd]
                    clear hkd
                    go_wp2_with fail
                    go_meet
                    first | exact ⟨rfl, rfl⟩ | exact ⟨congrArg Value.bool c0, rfl⟩
                  · have c0 : (op.kind == 0) = false := by simp [hkd]
                    have c1 : (op.kind == 1) = true := by simp [hkd]
                    clear hkd
                    go_wp2_with fail
                    go_meet
                    first | exact ⟨rfl, rfl⟩ | exact ⟨congrArg Value.bool c1, rfl⟩
                  · have c0 : (op.kind == 0) = false := by simp [hkd]
                    have c1 : (op.kind == 1) = false := by simp [hkd]
                    have c2 : (op.kind == 2) = true := by simp [hkd]
                    clear hkd
                    go_wp2_with fail
                    go_meet
                    first | exact ⟨rfl, rfl⟩ | exact ⟨congrArg Value.bool c2, rfl⟩
                case rest =>
                  obtain ⟨rfl, hX⟩ := hcut
                  subst hX
                  have v0 : X2.cell? ⟨vb, 0, none⟩ = some (.int .i64 0) := HW3.out.cs 0 _ rfl
                  have w0 := HF3.out 0
                  have hqv : ¬ (qb = vb) := HFv.out.2.2.2.2.2
                  go_upto_if 122 with fail
                  have ho1 : Only [vb] X2 (X2.setCell ⟨vb, 0, none⟩ (.int .i64 1)) := only_one 0 _
                  have HA4 : Hid (AllW w (X2.setCell ⟨vb, 0, none⟩ (.int .i64 1)) x d k t S f F) := Lib.hid (HA3.out.aside ho1 (fun i hi hm => HFv.out.1 i hi (by simpa using hm)) (fun hm => HFv.out.2.1 (by simpa using hm)) (fun i hi hm => HFv.out.2.2.1 i hi (by simpa using hm)) (fun h0 i hi hm => HFv.out.2.2.2.1 h0 i hi (by simpa using hm)) (fun i hi => by have := HFv.out.2.2.2.2.1; simp at hi; omega))
                  have HO4 : Hid (OpW (X2.setCell ⟨vb, 0, none⟩ (.int .i64 1)) qb op) := Lib.hid (HO3.out.keepO ho1 (fun hm => hqv (by simpa using hm)))
                  have HW4 : Hid (WAll (X2.setCell ⟨vb, 0, none⟩ (.int .i64 1)) vb (wd 1 (1 + j) ep)) := Lib.hid (HW3.out.setk 1)
                  have HF4 : Hid (∀ i, (X2.setCell ⟨vb, 0, none⟩ (.int .i64 1)).frozen? ⟨vb, i, none⟩ = false) := Lib.hid (fun i => by rw [World.frozen?_setCell]; exact HF3.out i)
                  clear v0 w0 ho1 k0
                  generalize X2.setCell ⟨vb, 0, none⟩ (.int .i64 1) = X3 at HA4 HO4 HW4 HF4 ⊢
                  have k0 := HO4.out.k0
                  have v0 : X3.cell? ⟨vb, 0, none⟩ = some (.int .i64 1) := HW4.out.cs 0 _ rfl
                  have w0 := HF4.out 0
                  go_cut [] from 120 to 128 (fun wx => ∃ W, Only [vb] X3 wx ∧ WAll wx vb W)
                  case first =>
                    rcases HKe.out with hkd | hkd | hkd
                    · have c1 : (op.kind == 1) = false := by simp [hkd]
                      have c2 : (op.kind == 2) = false := by simp [hkd]
                      clear hkd
                      go_wp2_with fail
                      go_meet
                      exact ⟨_, Only.refl _ _, HW4.out⟩
                    · have c1 : (op.kind == 1) = true := by simp [hkd]
                      clear hkd
                      go_wp2_with fail
                      go_meet
                      exact ⟨_, only_one 0 _, HW4.out.setk 11⟩
                    · have c1 : (op.kind == 1) = false := by simp [hkd]
                      have c2 : (op.kind == 2) = true := by simp [hkd]
                      have HOw := Lib.hid (word_oneW op.w)
                      have HTh := Lib.hid (HW4.out.there HF4.out)
                      have HWo := Lib.hid HO4.out.word
                      clear hkd
                      go_wp2_with (first
                        | (refine wpList_load_mid rfl 46 _ rfl qb 4 rfl (wordC op.w).toList _ HWo.out Tryz.underlying46 rfl wordI ?_)
                        | (refine wpList_store_mid rfl 46 _ _ rfl vb 0 (wordC op.w) rfl rfl HTh.out wordI HOw.out ?_))
                      go_meet
                      exact ⟨op.w, only_setCells _ _ _ (Only.refl _ _), HW4.out.stored HF4.out⟩
                  case rest =>
                    obtain ⟨W, ho, hw⟩ := hcut
                    obtain ⟨X4, hX4⟩ : ∃ X, X = wc := ⟨_, rfl⟩
                    subst hX4
                    have HA5 : Hid (AllW w X4 x d k t S f F) := Lib.hid (HA4.out.aside ho (fun i hi hm => HFv.out.1 i hi (by simpa using hm)) (fun hm => HFv.out.2.1 (by simpa using hm)) (fun i hi hm => HFv.out.2.2.1 i hi (by simpa using hm)) (fun h0 i hi hm => HFv.out.2.2.2.1 h0 i hi (by simpa using hm)) (fun i hi => by have := HFv.out.2.2.2.2.1; simp at hi; omega))
                    have HAd := Lib.hid (HA5.out.low (Below.drew (Below.refl _ _)))
                    have HWd : Hid (WAll X4.drew vb W) := Lib.hid (WAll.low hw (Below.drew (Below.refl _ _)))
                    clear ho hw HA3 HO3 HW3 HF3 HA4 HO4 HW4 HF4 k0 v0 w0 hqv HA5
                    go_upto_region 36 with fail
                    refine wp_region_held_drew (S := fun U => U.rangeAt vb 0 (wordC W).toList) (by kernel_rfl) HWd.out.rng (fun hHeld => ?_)
                    refine wpAnyH_take (i := 0) (v := ?_) rfl (by kernel_rfl) (by kernel_rfl) (by kernel_rfl) (fun _ _ _ h => h) (Or.inl ⟨by rfl, ?_⟩) (by assumption) ?_
                    rotate_left
                    · intro w hSw
                      go_simp
                      all_goals with_reducible rfl
                    simp only [Act.put, List.setIfInBounds_toArray]
                    refine wpAnyH_take (i := 1) rfl (by kernel_rfl) (by kernel_rfl) (by kernel_rfl) (fun _ _ _ h => h) (yieldsIf_load_mid (by rfl) 46 _ rfl vb 0 rfl (wordC W).toList _ (fun _ h => h) Tryz.underlying46 rfl wordI) (by assumption) ?_
                    simp only [Act.put]
                    refine wpAnyH_take (i := 2) (v := ?_) rfl (by kernel_rfl) (by kernel_rfl) (by kernel_rfl) (fun _ _ _ h => h) (Or.inl ⟨by rfl, ?_⟩) (by assumption) ?_
                    rotate_left
                    · intro w hSw
                      go_simp
                      all_goals with_reducible rfl
                    simp only [Act.put]
                    refine wpAnyH_take (i := 4) (v := ?_) rfl (by kernel_rfl) (by kernel_rfl) (by kernel_rfl) (fun _ _ _ h => h) (Or.inl ⟨by rfl, ?_⟩) (by assumption) ?_
                    rotate_left
                    · intro w hSw
                      go_simp
                      all_goals with_reducible rfl
                    simp only [Act.put]
                    refine wpAnyH_take (i := 5) rfl (by kernel_rfl) (by kernel_rfl) (by kernel_rfl) (fun _ _ _ h => h) (yieldsIf_load_mid (by rfl) 46 _ rfl vb 0 rfl (wordC W).toList _ (fun _ h => h) Tryz.underlying46 rfl wordI) (by assumption) ?_
                    simp only [Act.put]
                    refine wpAnyH_take (i := 6) (v := ?_) rfl (by kernel_rfl) (by kernel_rfl) (by kernel_rfl) (fun _ _ _ h => h) (Or.inl ⟨by rfl, ?_⟩) (by assumption) ?_
                    rotate_left
                    · intro w hSw
                      go_simp
                      all_goals with_reducible rfl
                    simp only [Act.put]
                    refine wpAnyH_ready (rs := [3]) (by kernel_rfl) (by simp) ?_
                    refine AllReadyH.cons rfl (fun K hK => ?_) AllReadyH.nil
                    go_simp
                    go_at_call 18
                    refine (both1 HL.out HAd.out hk60 W).mono ?_
                    rintro e' w6 ⟨v6, f6, rfl, hg6, ho6, hm6⟩
                    have HG6 := Lib.hid hg6
                    have HM6 := Lib.hid hm6
                    have HW6 : Hid (WAll w6 vb W) := Lib.hid (HWd.out.keepO ho6 (fun hm => HFv.out.1 vb (own_foot hm) rfl))
                    clear hg6 ho6 hm6
                    refine hK.out _ _ (HW6.out.rng) (fun hHeld => ?_)
                    clear hK K
                    try simp only [Act.put, List.setIfInBounds_toArray, List.set_cons_zero, List.set_cons_succ]
                    refine wpAnyH_ready (rs := [7]) (by kernel_rfl) (by simp) ?_
                    refine AllReadyH.cons rfl (fun K hK => ?_) AllReadyH.nil
                    go_simp
                    go_at_call 19
                    refine (both2 HM6.out hk60).mono ?_
                    rintro e' w7 ⟨v7, F7, rfl, ho7, hm7⟩
                    have HM7 := Lib.hid hm7
                    have HW7 : Hid (WAll w7 vb W) := Lib.hid (HW6.out.keepO ho7 (fun hm => by simp at hm; exact HFv.out.2.1 hm.symm))
                    clear ho7 hm7
                    refine hK.out _ _ (HW7.out.rng) (fun hHeld => ?_)
                    clear hK K
                    try simp only [Act.put, List.setIfInBounds_toArray, List.set_cons_zero, List.set_cons_succ]
                    refine wpAnyH_ready (rs := [8]) (by kernel_rfl) (by simp) ?_
                    refine AllReadyH.cons rfl (fun K hK => ?_) AllReadyH.nil
                    go_simp
                    go_at_call 17
                    refine (both3 HM7.out).mono ?_
                    rintro e' w8 ⟨rfl, ha8, hb8⟩
                    have HA8 := Lib.hid ha8
                    clear ha8
                    refine hK.out _ _ ((HW7.out.low hb8).rng) (fun hHeld => ?_)
                    clear hK K
                    try simp only [Act.put, List.setIfInBounds_toArray, List.set_cons_zero, List.set_cons_succ]
                    refine wpAnyH_take (i := 9) (v := ?_) rfl (by kernel_rfl) (by kernel_rfl) (by kernel_rfl) (fun _ _ _ h => h) (Or.inl ⟨by rfl, ?_⟩) (by assumption) ?_
                    rotate_left
                    · intro w hSw
                      go_simp
                      all_goals with_reducible rfl
                    refine wpAnyH_done (by kernel_rfl) ?_ _
                    change Exit.then _ _ _ (Act.put _ (some 138) (.bool false)) _
                    go_wp2_with fail
                    go_meet
                    exact ⟨t, x, d, _, f6, F7, by rw [HG6.out], rfl, rfl, rfl, HA8.out⟩
              case inr.inl =>
                have c0 : (op.kind == 0) = false := by simp [hkd]
                have c1 : (op.kind == 1) = false := by simp [hkd]
                have c2 : (op.kind == 2) = false := by simp [hkd]
                have c3 : (op.kind == 3) = true := by simp [hkd]
                have k1 := HO3.out.k1
                have hT0 := HI2.out.t0
                have hT1 := HI2.out.t1
                obtain ⟨d4, j4, m1, m2, m3, m4, m5, m6, m7, m8⟩ := four op.n
                have n1 : IntKind.i64.wrap (d4 + 4) = d4 + 4 := IntWalk.i64_in _ (by omega)
                have n2 : IntKind.i64.wrap (t + j4) = t + j4 := IntWalk.i64_in _ (by omega)
                have n3 : IntKind.i64.wrap d4 = d4 := IntWalk.i64_in _ (by omega)
                have n4 : IntKind.i64.wrap j4 = j4 := IntWalk.i64_in _ (by omega)
                have HTk := Lib.hid (tick1 HL.out HA3.out hk60 (now := t + j4) (by omega))
                have HNw : Hid (t ≤ t + j4 ∧ t + j4 ≤ t + 3) := Lib.hid (by omega)
                clear hkd
                go_wp2_with (first
                  | (go_at_call 20; refine HTk.out.mono ?_; rintro e' w6 ⟨f6, rfl, hg6, hm6⟩; have HM6 := Lib.hid hm6; have HG6 := Lib.hid hg6; clear hm6 hg6)
                  | (go_at_call 21; refine (tick2 HM6.out hk60 HNw.out).mono ?_; rintro e' w7 ⟨rfl, F7, hn7⟩; have HN7 := Lib.hid hn7; clear hn7))
                go_meet
                exact ⟨_, x, d, _, f6, F7, by rw [HG6.out], rfl, rfl, rfl, HN7.out⟩
              case inr.inr =>
                have k1 := HO3.out.k1
                have hT0 := HI2.out.t0
                have hT1 := HI2.out.t1
                have n2 : IntKind.i64.wrap (t + 6) = t + 6 := IntWalk.i64_in _ (by omega)
                have HT1 := Lib.hid (tear1 HA3.out hk60 op.n HOn.out)
                go_upto_region 25 with (first
                  | (go_at_call 22; refine HT1.out.mono ?_; rintro e' w4 ⟨g4, b4, rfl, ht4, hg4, hb4, hs4, ha4⟩; have HT2 := Lib.hid (tear2 HL.out ha4 HA3.out hk60 ht4 hg4 hb4 hs4); clear ht4 hg4 hb4 hs4 ha4)
                  | (go_at_call 15; refine HT2.out.mono ?_; rintro e' w5 ⟨x5, f5, rfl, hfg5, hm5⟩; have HFg5 := Lib.hid hfg5; have HM5 := Lib.hid hm5; clear hfg5 hm5))
                have hb5 := below_alloc (Below.refl w5.heap.size w5) (.cells #[.int .i64 1] 3)
                have HM6 := Lib.hid (HM5.out.low hb5)
                have HZ6 := Lib.hid (ints_litW w5 [1] 3)
                go_wp2_with fail
                refine (dnew_yes (e := 1) (zs := [1]) (c := 1) (by decide) HZ6.out (by decide) t).mono ?_
                rintro e' w6 ⟨d2, g2, rfl, hg2, hda, hd2, hb6⟩
                have HDa := Lib.hid hda
                have HG2 := Lib.hid hg2
                have HD2 := Lib.hid hd2
                have HB6 := Lib.hid hb6
                have hdd : ¬ (d = d2) := fun e => absurd (Nat.lt_of_lt_of_le (Nat.lt_of_lt_of_le HM5.out.da.lt hb5.size) (e ▸ hd2)) (Nat.lt_irrefl _)
                have z0 := (HM6.out.low hb6).da.d0
                have z1 := (HM6.out.low hb6).da.d1
                have z2 := (HM6.out.low hb6).da.d2
                have y0 := hda.d0
                have y1 := hda.d1
                have y2 := hda.d2
                have y7 := hda.d7
                have f0 := hda.fz 0
                have f1 := hda.fz 1
                have f2 := hda.fz 2
                have f7 := hda.fz 7
                clear hda hg2 hd2 hb6 hb5
                go_wp2_with fail
                go_meet
                exact ⟨t, x5, d2, _, f5, _, by rw [HFg5.out], rfl, rfl, rfl, HM6.out.fin HB6.out HD2.out HDa.out HG2.out⟩
            case rest =>
              obtain ⟨t', x', d', S', f', F', rfl, rfl, rfl, rfl, hn⟩ := hcut
              obtain ⟨X5, hX5⟩ : ∃ X, X = wc := ⟨_, rfl⟩
              subst hX5
              have HN := Lib.hid hn
              have hl5 : S'.zs.length ≤ 5 := (mayB_ok hn.ok.may).2.2.1
              obtain ⟨ch, hch⟩ : ∃ ch, decide (0 < S'.e2) = ch := ⟨_, rfl⟩
              obtain ⟨lo, hlo⟩ : ∃ lo, S'.lost = lo := ⟨_, rfl⟩
              have HCh := Lib.hid hch
              have HLo2 : Hid ((S'.lost && !decide (0 < S'.e2)) = lo) := Lib.hid (by
                rcases hn.ok.nx with h | h
                · rw [hlo, h.1]; simp
                · rw [← hlo, h.2.2.2]; rfl)
              have HS : Hid (EndP w X5 x' d' S' f' F' ch lo X5.drew) := Lib.hid (EndP.of (hn.ch.low (Below.drew (Below.refl _ _))) (hn.da.low (Below.drew (Below.refl _ _))) (Below.drew (Below.refl _ _)) hch hlo)
              have pC : (ch != ch) = false := by simp
              have pL : (lo != lo) = false := by simp
              have pU : (S'.un != S'.un) = false := by simp
              clear hn hch hlo HA3 HO3 HW3 HF3 HFv k0
              go_upto_region 43 with fail
              go_region_held3 (fun U => U.cell? ⟨d', 0, none⟩ = some (.int .i64 S'.e) ∧ U.cell? ⟨d', 1, none⟩ = some (.slice F'.a S'.zs.length F'.c) ∧ U.cell? ⟨d', 2, none⟩ = some (.int .i64 S'.nw) ∧ U.cell? ⟨d', 6, none⟩ = some (.bool ch) ∧ U.cell? ⟨d', 7, none⟩ = some (.int .i64 S'.un) ∧ U.cell? ⟨d', 15, none⟩ = some (.bool lo) ∧ CH w U x' S' f' ∧ DAt U d' S' F' ∧ Below X5.heap.size X5 U)
                (first | exact HS.out | exact EndP.keep (‹_ ∧ _ ∧ _ ∧ _ ∧ _ ∧ _ ∧ CH _ _ _ _ _ ∧ DAt _ _ _ _ ∧ Below _ _ _›) hb | exact ‹_ ∧ _ ∧ _ ∧ _ ∧ _ ∧ _ ∧ CH _ _ _ _ _ ∧ DAt _ _ _ _ ∧ Below _ _ _›)
                (first
                  | (go_at_call 24; have s := (‹_ ∧ _ ∧ _ ∧ _ ∧ _ ∧ _ ∧ CH _ _ _ _ _ ∧ DAt _ _ _ _ ∧ Below _ _ _›).2.2.2.2.2.2.1; refine (chroster_is s rfl rfl rfl rfl hl5).mono ?_; rintro e' w2 ⟨ra, rc, rfl, hown, hb⟩; have HZa := Lib.hid (own_ints hown); clear s hown)
                  | (go_at_call 23; have s := (‹_ ∧ _ ∧ _ ∧ _ ∧ _ ∧ _ ∧ CH _ _ _ _ _ ∧ DAt _ _ _ _ ∧ Below _ _ _›).2.2.2.2.2.2.2.1; refine (eqRoster_any S'.e S'.e S'.nw S'.nw ra F'.a rc F'.c S'.zs S'.zs _ (by omega) HZa.out s.rz).mono ?_; rw [eqB_refl]; rintro e' w3 ⟨rfl, hb⟩; clear s)
                  | (go_at_call 25; have s := (‹_ ∧ _ ∧ _ ∧ _ ∧ _ ∧ _ ∧ CH _ _ _ _ _ ∧ DAt _ _ _ _ ∧ Below _ _ _›).2.2.2.2.2.2.1; refine (changing_is s HCh.out).mono ?_; rintro e' w4 ⟨rfl, rfl⟩; clear s)
                  | (go_at_call 26; have s := (‹_ ∧ _ ∧ _ ∧ _ ∧ _ ∧ _ ∧ CH _ _ _ _ _ ∧ DAt _ _ _ _ ∧ Below _ _ _›).2.2.2.2.2.2.1; refine (until_ch s).mono ?_; rintro e' w4 ⟨rfl, rfl⟩; clear s)
                  | (go_at_call 27; have s := (‹_ ∧ _ ∧ _ ∧ _ ∧ _ ∧ _ ∧ CH _ _ _ _ _ ∧ DAt _ _ _ _ ∧ Below _ _ _›).2.2.2.2.2.2.1; refine (lost_is s HLo2.out).mono ?_; rintro e' w4 ⟨rfl, rfl⟩; clear s))
              all_goals
                have HE : Hid (EndP w X5 x' d' S' f' F' ch lo _) := Lib.hid (‹_ ∧ _ ∧ _ ∧ _ ∧ _ ∧ _ ∧ CH _ _ _ _ _ ∧ DAt _ _ _ _ ∧ Below _ _ _›)
                go_wp2_with fail
                go_roundw
                case rel => exact ⟨k + 1, t', x', d', S', f', F', rfl, rfl, rfl, rfl, by go_num, by omega, by omega, HN.out.low HE.out.2.2.2.2.2.2.2.2⟩
                case measure => simp [intOf]; omega
      · by_cases h1 : k < L.length
        · have p1 : decide ((k : Int) < (L.length : Int)) = true := decide_eq_true (by omega)
          have p2 : decide ((k : Int) < 60) = false := decide_eq_false (by omega)
          clear hlt
          go_wp2_with fail
          go_ret
          exact ⟨rfl, HI2.out.ch.below⟩
        · have p1 : decide ((k : Int) < (L.length : Int)) = false := decide_eq_false (by omega)
          clear hlt
          go_wp2_with fail
          go_ret
          exact ⟨rfl, HI2.out.ch.below⟩
end Go.Proofs.YthiphdcbboapkaaGreatDoor

/- An operation of both chests. -/
import Derived.Test.YtjblbjamceloaaaGreatDoorVk
import Derived.Test.YtjblbjamceloaaaGreatDoorVi
import Derived.Test.YtjblbjamceloaaaGreatDoorVl
import Derived.Deep.RegionHeld3
import Derived.Deep.DeepCutAuto
namespace Go.Proofs.YtjblbjamceloaaaGreatDoor
open Go.RowKit

set_option maxRecDepth 100000
theorem ChS.apart {w0 w w' : World} {g b : Nat} {r : Int} {L : List Rl} {S : List Nat} (h : ChS w0 w g b r L) (k : Only S w w') (hg : g ∉ S) (hb : b ∉ S) (hS : ∀ i ∈ S, w0.heap.size ≤ i) : ChS w0 w' g b r L :=
  ⟨h.1.keep k hg hb, Only.under h.2.1 k hS, h.2.2⟩
/-- The program's chest and the document's, of the same rolls. -/
structure Both (w0 w : World) (g b d : Nat) (v : Value) (z r : Int) (L : List Rl) : Prop where
  ch : ChS w0 w g b r L
  dc : DocAt w d v z L
  dl : w0.heap.size ≤ d
  vl : ∀ q ∈ ownB v, w0.heap.size ≤ q
  ok : OkL r L
  ri : Rising L
  sm : r + sumL L = z
  ndg : d ≠ g
  ndb : d ≠ b
  nvg : g ∉ ownB v
  nvb : b ∉ ownB v
  nm : ∀ x ∈ L, x.1.length ≤ 12
theorem Both.aside {w0 w w' : World} {g b d : Nat} {v : Value} {z r : Int} {L : List Rl} {S : List Nat} (h : Both w0 w g b d v z r L) (k : Only S w w') (hg : g ∉ S) (hb : b ∉ S) (hd : d ∉ S) (hv : ∀ q ∈ ownB v, q ∉ S) (hS : ∀ i ∈ S, w0.heap.size ≤ i) : Both w0 w' g b d v z r L :=
  ⟨h.ch.apart k hg hb hS, h.dc.keep k hd hv, h.dl, h.vl, h.ok, h.ri, h.sm, h.ndg, h.ndb, h.nvg, h.nvb, h.nm⟩
theorem Both.low {w0 w w' : World} {g b d : Nat} {v : Value} {z r : Int} {L : List Rl} (h : Both w0 w g b d v z r L) (k : Below w.heap.size w w') : Both w0 w' g b d v z r L := h.aside (S := []) (Only.of_below k) (by simp) (by simp) (by simp) (by simp) (by simp)
/-- The program's chest was turned: the document's stands. -/
theorem Both.half {w0 w w' : World} {g b d : Nat} {v : Value} {z r : Int} {L : List Rl} (h : Both w0 w g b d v z r L) (k : Only [g, b] w w') : DocAt w' d v z L := h.dc.keep k (by simp [h.ndg, h.ndb]) (fun q hq hm => by
  simp at hm
  rcases hm with rfl | rfl
  · exact h.nvg hq
  · exact h.nvb hq)
/-- Then the document's was turned. -/
theorem Both.whole {w0 w w1 w2 : World} {g b d : Nat} {v v' : Value} {z r r' : Int} {L L' : List Rl} (h : Both w0 w g b d v z r L) (hc : ChS w0 w1 g b r' L') (_k : Only [g, b] w w1) (hd : DocAt w2 d v' z L') (k2 : Only (d :: ownB v) w1 w2) (hq : ∀ q ∈ ownB v', q ∈ ownB v ∨ w1.heap.size ≤ q) (ok : OkL r' L') (ri : Rising L') (sm : r' + sumL L' = z) (nm : ∀ x ∈ L', x.1.length ≤ 12) : Both w0 w2 g b d v' z r' L' := by
  have hg := hc.1.ltg
  have hb := hc.1.ltb
  have h0 := hc.2.1.size
  refine ⟨hc.apart k2 (by simp [h.nvg]; exact fun e => h.ndg e.symm) (by simp [h.nvb]; exact fun e => h.ndb e.symm) (fun i hi => by
    rcases List.mem_cons.1 hi with rfl | hi
    · exact h.dl
    · exact h.vl i hi), hd, h.dl, fun q hq2 => ?_, ok, ri, sm, h.ndg, h.ndb, fun hm => ?_, fun hm => ?_, nm⟩
  · rcases hq q hq2 with h1 | h1
    · exact h.vl q h1
    · omega
  · rcases hq _ hm with h1 | h1
    · exact h.nvg h1
    · omega
  · rcases hq _ hm with h1 | h1
    · exact h.nvb h1
    · omega
theorem names_put {n : Nm} {c : Scr} {L : List Rl} (hs : Rising L) (h : ∀ x ∈ L, x.1.length ≤ 12) (hn : n.length ≤ 12) : ∀ x ∈ putL n c L, x.1.length ≤ 12 := fun x hx => by
  obtain ⟨m, d⟩ := x
  rcases (mem_putL hs).1 hx with ⟨rfl, -⟩ | ⟨-, h2⟩
  · exact hn
  · exact h _ h2
theorem names_write {r : Int} {n : Nm} {s : ByteArray} {L : List Rl} (hs : Rising L) (h : ∀ x ∈ L, x.1.length ≤ 12) (hn : n.length ≤ 12) : ∀ x ∈ (writeS r L n s).2.2, x.1.length ≤ 12 := by
  unfold writeS
  split
  · exact h
  · split
    · exact h
    · exact names_put hs h hn
theorem names_press {n : Nm} {L : List Rl} (hs : Rising L) (h : ∀ x ∈ L, x.1.length ≤ 12) (hn : n.length ≤ 12) : ∀ x ∈ (pressS L n).2, x.1.length ≤ 12 := by
  unfold pressS
  split
  · exact h
  · exact names_put hs h hn
theorem names_cut {r : Int} {n : Nm} {k : Int} {L : List Rl} (hs : Rising L) (h : ∀ x ∈ L, x.1.length ≤ 12) (hn : n.length ≤ 12) : ∀ x ∈ (cutSp r L n k).2.2, x.1.length ≤ 12 := by
  unfold cutSp
  split
  · exact h
  · split
    · exact h
    · exact names_put hs h hn
theorem names_call {r : Int} {n m : Nm} {L : List Rl} (hs : Rising L) (h : ∀ x ∈ L, x.1.length ≤ 12) (hm : m.length ≤ 12) : ∀ x ∈ (callS r L n m).2.2, x.1.length ≤ 12 := by
  unfold callS
  split
  · exact h
  · split
    · exact h
    · split
      · exact h
      · exact names_put (delL_rising hs) (fun x hx => h x (mem_delL.1 hx).1) hm
theorem names_tear {k : Int} {L : List Rl} (h : ∀ x ∈ L, x.1.length ≤ 12) : ∀ x ∈ tearL k L, x.1.length ≤ 12 := fun x hx => by
  obtain ⟨m, d⟩ := x
  obtain ⟨c, h1, -⟩ := mem_tearL.1 hx
  exact h (m, c) h1
/-- An operation's cells. -/
structure OpR (w : World) (q : Nat) (kd on : Int) (nm to_ s : ByteArray) : Prop where
  c0 : w.cell? ⟨q, 0, none⟩ = some (.int .i64 kd)
  c1 : w.cell? ⟨q, 1, none⟩ = some (.int .i64 on)
  c2 : w.cell? ⟨q, 2, none⟩ = some (.string nm)
  c3 : w.cell? ⟨q, 3, none⟩ = some (.string to_)
  c4 : w.cell? ⟨q, 4, none⟩ = some (.string s)
theorem OpR.keep {w w' : World} {q : Nat} {kd on : Int} {nm to_ s : ByteArray} {S : List Nat} (h : OpR w q kd on nm to_ s) (k : Only S w w') (hq : q ∉ S) : OpR w' q kd on nm to_ s := ⟨k.cellK hq h.c0, k.cellK hq h.c1, k.cellK hq h.c2, k.cellK hq h.c3, k.cellK hq h.c4⟩
theorem OpR.low {w w' : World} {q : Nat} {kd on : Int} {nm to_ s : ByteArray} (h : OpR w q kd on nm to_ s) (k : Below w.heap.size w w') : OpR w' q kd on nm to_ s := h.keep (S := []) (Only.of_below k) (by simp)
theorem opr_new (w : World) (kd on : Int) (nm to_ s : ByteArray) (ty : TypeId) : OpR (w.alloc (.cells #[.int .i64 kd, .int .i64 on, .string nm, .string to_, .string s] ty)) w.heap.size kd on nm to_ s ∧ ∀ i, (w.alloc (.cells #[.int .i64 kd, .int .i64 on, .string nm, .string to_, .string s] ty)).frozen? ⟨w.heap.size, i, none⟩ = false := ⟨⟨by simp, by simp, by simp, by simp, by simp⟩, fun i => by simp [go_sem]⟩
theorem opr_set {w : World} {q : Nat} {kd on : Int} {nm to_ s nm' to' s' : ByteArray} (h : OpR w q kd on nm to_ s) : OpR (((w.setCell ⟨q, 2, none⟩ (.string nm')).setCell ⟨q, 3, none⟩ (.string to')).setCell ⟨q, 4, none⟩ (.string s')) q kd on nm' to' s' := by
  have e3 : (w.setCell ⟨q, 2, none⟩ (.string nm')).cell? ⟨q, 3, none⟩ = some (.string to_) := by rw [World.cell?_setCell_other _ _ _ _ (by simp)]; exact h.c3
  have e4 : ((w.setCell ⟨q, 2, none⟩ (.string nm')).setCell ⟨q, 3, none⟩ (.string to')).cell? ⟨q, 4, none⟩ = some (.string s) := by rw [World.cell?_setCell_other _ _ _ _ (by simp), World.cell?_setCell_other _ _ _ _ (by simp)]; exact h.c4
  refine ⟨?_, ?_, ?_, ?_, World.cell?_setCell_same _ _ _ e4⟩
  · rw [World.cell?_setCell_other _ _ _ _ (by simp), World.cell?_setCell_other _ _ _ _ (by simp), World.cell?_setCell_other _ _ _ _ (by simp)]; exact h.c0
  · rw [World.cell?_setCell_other _ _ _ _ (by simp), World.cell?_setCell_other _ _ _ _ (by simp), World.cell?_setCell_other _ _ _ _ (by simp)]; exact h.c1
  · rw [World.cell?_setCell_other _ _ _ _ (by simp), World.cell?_setCell_other _ _ _ _ (by simp)]; exact World.cell?_setCell_same _ _ _ h.c2
  · rw [World.cell?_setCell_other _ _ _ _ (by simp)]; exact World.cell?_setCell_same _ _ _ e3
set_option maxHeartbeats 12800000 in
theorem do_any {w0 w : World} {g b d : Nat} {v : Value} {z r : Int} {L : List Rl} (B : Both w0 w g b d v z r L) (hL : L.length < 700000) (kd on : Int) (hon : -9223372036854775808 ≤ on ∧ on ≤ 9223372036854775807) (nm to_ s : ByteArray) (h1 : nm.size ≤ 9223372036854775807) (h2 : to_.size ≤ 9223372036854775807) (h3 : s.size ≤ 9223372036854775807) :
    Calls Tryz.prog 24 #[.pointer (some ⟨g, 0, none⟩), .pointer (some ⟨d, 0, none⟩), .agg #[.int .i64 kd, .int .i64 on, .string nm, .string to_, .string s]] w fun e w' => ∃ g' b' d' v' r' L', e = .returned (.tuple #[.pointer (some ⟨g', 0, none⟩), .pointer (some ⟨d', 0, none⟩), .bool true]) ∧ Both w0 w' g' b' d' v' z r' L' ∧ L'.length ≤ L.length + 1 := by
  obtain ⟨A, hA⟩ : ∃ A, cutS nm 12 = A := ⟨_, rfl⟩
  obtain ⟨T, hT⟩ : ∃ T, cutS to_ 12 = T := ⟨_, rfl⟩
  obtain ⟨S, hS⟩ : ∃ S, cutS s 60 = S := ⟨_, rfl⟩
  have HA : Hid (∀ W, Calls Tryz.prog 11 #[.string nm, .int .i64 12] W fun e w' => e = .returned (.string A) ∧ W = w') := Lib.hid (fun W => by rw [← hA]; exact cut_any nm 12 W h1 (by decide))
  have HT : Hid (∀ W, Calls Tryz.prog 11 #[.string to_, .int .i64 12] W fun e w' => e = .returned (.string T) ∧ W = w') := Lib.hid (fun W => by rw [← hT]; exact cut_any to_ 12 W h2 (by decide))
  have HS : Hid (∀ W, Calls Tryz.prog 11 #[.string s, .int .i64 60] W fun e w' => e = .returned (.string S) ∧ W = w') := Lib.hid (fun W => by rw [← hS]; exact cut_any s 60 W h3 (by decide))
  have hAs : A.size ≤ 12 := by rw [← hA, cutS_size]; omega
  have hTs : T.size ≤ 12 := by rw [← hT, cutS_size]; omega
  have hSs : S.size ≤ 60 := by rw [← hS, cutS_size]; omega
  have hAl : A.data.toList.length ≤ 12 := by rw [← size_list]; exact hAs
  have hTl : T.data.toList.length ≤ 12 := by rw [← size_list]; exact hTs
  clear hA hT hS h1 h2 h3
  have HB := Lib.hid B
  clear B
  go_enter Tryz.func24, Tryz.ntmps24
  go_wp2_with fail
  have HO := Lib.hid (opr_new w kd on nm to_ s 55)
  have HB1 := Lib.hid (HB.out.low (below_alloc (Below.refl _ _) (.cells #[.int .i64 kd, .int .i64 on, .string nm, .string to_, .string s] 55)))
  have HQ : Hid (w.heap.size ≠ g ∧ w.heap.size ≠ b ∧ w.heap.size ≠ d ∧ (∀ q ∈ ownB v, q ≠ w.heap.size) ∧ w0.heap.size ≤ w.heap.size) := Lib.hid (by
    have e1 := HB.out.ch.1.ltg
    have e2 := HB.out.ch.1.ltb
    have e3 := HB.out.dc.lt
    have e4 := HB.out.dc.rw.lt
    exact ⟨by omega, by omega, by omega, fun q hq => by have := e4 q hq; omega, HB.out.ch.2.1.size⟩)
  generalize w.alloc (.cells #[.int .i64 kd, .int .i64 on, .string nm, .string to_, .string s] 55) = w1 at HO HB1 ⊢
  generalize w.heap.size = ob at HO HQ ⊢
  obtain ⟨y0, y1, y2, y3, y4⟩ := HO.out.1
  have z2 := HO.out.2 2
  have z3 := HO.out.2 3
  have z4 := HO.out.2 4
  clear HB
  go_cut [5] (fun u5 wx => u5 = .pointer (some ⟨ob, 0, none⟩) ∧ OpR wx ob kd on A T S ∧ Both w0 wx g b d v z r L)
  case first =>
    have HW3 : Hid (OpR (((w1.setCell ⟨ob, 2, none⟩ (.string A)).setCell ⟨ob, 3, none⟩ (.string T)).setCell ⟨ob, 4, none⟩ (.string S)) ob kd on A T S ∧ Both w0 (((w1.setCell ⟨ob, 2, none⟩ (.string A)).setCell ⟨ob, 3, none⟩ (.string T)).setCell ⟨ob, 4, none⟩ (.string S)) g b d v z r L) := Lib.hid ⟨opr_set HO.out.1, HB1.out.aside (S := [ob]) ((((Only.refl _ _).setCell (Or.inl (by simp)) _).setCell (Or.inl (by simp)) _).setCell (Or.inl (by simp)) _) (by simpa using HQ.out.1.symm) (by simpa using HQ.out.2.1.symm) (by simpa using HQ.out.2.2.1.symm) (fun q hq => by simpa using HQ.out.2.2.2.1 q hq) (by simpa using HQ.out.2.2.2.2)⟩
    go_wp2_with fail
    go_region_with (go_at_call 11; (first | with_reducible refine (HA.out _).mono ?_ | with_reducible refine (HT.out _).mono ?_ | with_reducible refine (HS.out _).mono ?_); rintro e' w' ⟨rfl, rfl⟩)
    all_goals
      go_wp2_with fail
      go_meet
      exact ⟨rfl, HW3.out.1.low (below_drewN (Below.refl _ _) 1), HW3.out.2.low (below_drewN (Below.refl _ _) 1)⟩
  case rest =>
    obtain ⟨rfl, hop, hbo⟩ := hcut
    have HOp := Lib.hid hop
    have HB := Lib.hid hbo
    have HBd := Lib.hid (hbo.low (below_drewN (Below.refl wc.heap.size wc) 1))
    have HOd := Lib.hid (hop.low (below_drewN (Below.refl wc.heap.size wc) 1))
    have HN1 : Hid (ob ∉ [g, b]) := Lib.hid (by simp [HQ.out.1, HQ.out.2.1])
    have HN2 : Hid (ob ∉ d :: ownB v) := Lib.hid (by
      intro h
      rcases List.mem_cons.1 h with h | h
      · exact HQ.out.2.2.1 h
      · exact HQ.out.2.2.2.1 _ h rfl)
    clear hop hbo y0 y1 y2 y3 y4 z2 z3 z4 HB1 HO HA HT HS
    obtain ⟨y0, y1, y2, y3, y4⟩ := HOp.out
    by_cases hk : kd = 0
    · have f0 : (kd == 0) = true := by rw [beq_iff_eq]; exact hk
      clear hk
      obtain ⟨⟨er, r', L'⟩, he⟩ : ∃ q, writeS r L A.data.toList S = q := ⟨_, rfl⟩
      have hok := writeS_ok HB.out.ok HB.out.ri A.data.toList S
      rw [he] at hok
      have hnm := names_write (r := r) (n := A.data.toList) (s := S) HB.out.ri HB.out.nm hAl
      rw [he] at hnm
      have HW1 := Lib.hid (fun W (h : ChS w0 W g b r L) => write_S h (by omega) HB.out.ok A S (by omega) he)
      have HW2 := Lib.hid (fun W (h : DocAt W d v z L) => rwrite_any h (by omega) HB.out.ri HB.out.ok HB.out.sm A S (by omega) (by omega) he)
      have hee : (er == er) = true := by simp
      have HOk := Lib.hid hok
      have HNm := Lib.hid hnm
      clear hok he hnm
      go_wp2_with fail
      go_region_held3 (fun W => W.cell? ⟨ob, 0, none⟩ = some (.int .i64 kd) ∧ W.cell? ⟨ob, 1, none⟩ = some (.int .i64 on) ∧ W.cell? ⟨ob, 2, none⟩ = some (.string A) ∧ W.cell? ⟨ob, 3, none⟩ = some (.string T) ∧ W.cell? ⟨ob, 4, none⟩ = some (.string S))
        (first | exact ⟨y0, y1, y2, y3, y4⟩ | exact ⟨HP2.out.c0, HP2.out.c1, HP2.out.c2, HP2.out.c3, HP2.out.c4⟩ | exact ⟨HP1.out.c0, HP1.out.c1, HP1.out.c2, HP1.out.c3, HP1.out.c4⟩)
        (first
          | (go_at_call 20; refine (HW1.out _ HBd.out.ch).mono ?_; rintro e' w1 ⟨rfl, hc1, ho1⟩; have HC1 := Lib.hid hc1; have HO1 := Lib.hid ho1; have HD1 := Lib.hid (HBd.out.half ho1); have HP1 := Lib.hid (HOd.out.keep ho1 HN1.out); clear hc1 ho1)
          | (go_at_call 46; refine (HW2.out _ HD1.out).mono ?_; rintro e' w2 ⟨rfl, v2, hd2, ho2, hq2⟩; have HD2 := Lib.hid hd2; have HO2 := Lib.hid ho2; have HQ2 := Lib.hid hq2; have HP2 := Lib.hid (HP1.out.keep ho2 HN2.out); clear hd2 ho2 hq2))
      all_goals
        go_wp2_with fail
        go_ret3
        exact ⟨g, b, d, v2, r', L', rfl, HBd.out.whole HC1.out HO1.out HD2.out HO2.out HQ2.out HOk.out.1 HOk.out.2.1 (HOk.out.2.2.2.trans HB.out.sm) HNm.out, HOk.out.2.2.1⟩
    have f0 : (kd == 0) = false := by rw [beq_eq_false_iff_ne]; exact hk
    clear hk
    by_cases hk : kd = 1
    · have f1 : (kd == 1) = true := by rw [beq_iff_eq]; exact hk
      clear hk
      obtain ⟨⟨er, L'⟩, he⟩ : ∃ q, pressS L A.data.toList = q := ⟨_, rfl⟩
      have hok := pressS_ok HB.out.ok HB.out.ri A.data.toList
      rw [he] at hok
      have hnm := names_press (n := A.data.toList) HB.out.ri HB.out.nm hAl
      rw [he] at hnm
      have hsl : sumL L ≤ 1048576 := by have := HB.out.ok.1; have := HB.out.ok.2.1; omega
      have HW1 := Lib.hid (fun W (h : ChS w0 W g b r L) => press_S h (by omega) HB.out.ok A (by omega) he)
      have HW2 := Lib.hid (fun W (h : DocAt W d v z L) => rpress_any h (by omega) HB.out.ri hsl A he)
      have hee : (er == er) = true := by simp
      have HOk := Lib.hid hok
      have HNm := Lib.hid hnm
      clear hok he hnm
      go_wp2_with fail
      go_region_held3 (fun W => W.cell? ⟨ob, 0, none⟩ = some (.int .i64 kd) ∧ W.cell? ⟨ob, 1, none⟩ = some (.int .i64 on) ∧ W.cell? ⟨ob, 2, none⟩ = some (.string A) ∧ W.cell? ⟨ob, 3, none⟩ = some (.string T) ∧ W.cell? ⟨ob, 4, none⟩ = some (.string S))
        (first | exact ⟨y0, y1, y2, y3, y4⟩ | exact ⟨HP2.out.c0, HP2.out.c1, HP2.out.c2, HP2.out.c3, HP2.out.c4⟩ | exact ⟨HP1.out.c0, HP1.out.c1, HP1.out.c2, HP1.out.c3, HP1.out.c4⟩)
        (first
          | (go_at_call 35; refine (HW1.out _ HBd.out.ch).mono ?_; rintro e' w1 ⟨rfl, hc1, ho1⟩; have HC1 := Lib.hid hc1; have HO1 := Lib.hid ho1; have HD1 := Lib.hid (HBd.out.half ho1); have HP1 := Lib.hid (HOd.out.keep ho1 HN1.out); clear hc1 ho1)
          | (go_at_call 47; refine (HW2.out _ HD1.out).mono ?_; rintro e' w2 ⟨rfl, v2, hd2, ho2, hq2⟩; have HD2 := Lib.hid hd2; have HO2 := Lib.hid ho2; have HQ2 := Lib.hid hq2; have HP2 := Lib.hid (HP1.out.keep ho2 HN2.out); clear hd2 ho2 hq2))
      all_goals
        go_wp2_with fail
        go_ret3
        exact ⟨g, b, d, v2, r, L', rfl, HBd.out.whole HC1.out HO1.out HD2.out HO2.out HQ2.out HOk.out.1 HOk.out.2.1 (by rw [HOk.out.2.2.2]; exact HB.out.sm) HNm.out, HOk.out.2.2.1⟩
    have f1 : (kd == 1) = false := by rw [beq_eq_false_iff_ne]; exact hk
    clear hk
    by_cases hk : kd = 2
    · have f2 : (kd == 2) = true := by rw [beq_iff_eq]; exact hk
      clear hk
      obtain ⟨⟨er, r', L'⟩, he⟩ : ∃ q, cutSp r L A.data.toList on = q := ⟨_, rfl⟩
      have hok := cutSp_ok HB.out.ok HB.out.ri A.data.toList on
      rw [he] at hok
      have hnm := names_cut (r := r) (n := A.data.toList) (k := on) HB.out.ri HB.out.nm hAl
      rw [he] at hnm
      have HW1 := Lib.hid (fun W (h : ChS w0 W g b r L) => rcut_S h (by omega) HB.out.ok A on (by omega) he)
      have HW2 := Lib.hid (fun W (h : DocAt W d v z L) => rcut_doc h (by omega) HB.out.ri HB.out.ok A on hon he)
      have hee : (er == er) = true := by simp
      have HOk := Lib.hid hok
      have HNm := Lib.hid hnm
      clear hok he hnm
      go_wp2_with fail
      go_region_held3 (fun W => W.cell? ⟨ob, 0, none⟩ = some (.int .i64 kd) ∧ W.cell? ⟨ob, 1, none⟩ = some (.int .i64 on) ∧ W.cell? ⟨ob, 2, none⟩ = some (.string A) ∧ W.cell? ⟨ob, 3, none⟩ = some (.string T) ∧ W.cell? ⟨ob, 4, none⟩ = some (.string S))
        (first | exact ⟨y0, y1, y2, y3, y4⟩ | exact ⟨HP2.out.c0, HP2.out.c1, HP2.out.c2, HP2.out.c3, HP2.out.c4⟩ | exact ⟨HP1.out.c0, HP1.out.c1, HP1.out.c2, HP1.out.c3, HP1.out.c4⟩)
        (first
          | (go_at_call 33; refine (HW1.out _ HBd.out.ch).mono ?_; rintro e' w1 ⟨rfl, hc1, ho1⟩; have HC1 := Lib.hid hc1; have HO1 := Lib.hid ho1; have HD1 := Lib.hid (HBd.out.half ho1); have HP1 := Lib.hid (HOd.out.keep ho1 HN1.out); clear hc1 ho1)
          | (go_at_call 48; refine (HW2.out _ HD1.out).mono ?_; rintro e' w2 ⟨rfl, v2, hd2, ho2, hq2⟩; have HD2 := Lib.hid hd2; have HO2 := Lib.hid ho2; have HQ2 := Lib.hid hq2; have HP2 := Lib.hid (HP1.out.keep ho2 HN2.out); clear hd2 ho2 hq2))
      all_goals
        go_wp2_with fail
        go_ret3
        exact ⟨g, b, d, v2, r', L', rfl, HBd.out.whole HC1.out HO1.out HD2.out HO2.out HQ2.out HOk.out.1 HOk.out.2.1 (HOk.out.2.2.2.trans HB.out.sm) HNm.out, HOk.out.2.2.1⟩
    have f2 : (kd == 2) = false := by rw [beq_eq_false_iff_ne]; exact hk
    clear hk
    by_cases hk : kd = 3
    · have f3 : (kd == 3) = true := by rw [beq_iff_eq]; exact hk
      clear hk
      obtain ⟨⟨er, r', L'⟩, he⟩ : ∃ q, callS r L A.data.toList T.data.toList = q := ⟨_, rfl⟩
      have hok := callS_ok HB.out.ok HB.out.ri A.data.toList T.data.toList
      rw [he] at hok
      have hnm := names_call (r := r) (n := A.data.toList) (m := T.data.toList) HB.out.ri HB.out.nm hTl
      rw [he] at hnm
      have HW1 := Lib.hid (fun W (h : ChS w0 W g b r L) => rcall_S h (by omega) HB.out.ok A T (by omega) (by omega) he)
      have HW2 := Lib.hid (fun W (h : DocAt W d v z L) => rcalled_any h (by omega) HB.out.ri A T (by omega) he)
      have hee : (er == er) = true := by simp
      have HOk := Lib.hid hok
      have HNm := Lib.hid hnm
      clear hok he hnm
      go_wp2_with fail
      go_region_held3 (fun W => W.cell? ⟨ob, 0, none⟩ = some (.int .i64 kd) ∧ W.cell? ⟨ob, 1, none⟩ = some (.int .i64 on) ∧ W.cell? ⟨ob, 2, none⟩ = some (.string A) ∧ W.cell? ⟨ob, 3, none⟩ = some (.string T) ∧ W.cell? ⟨ob, 4, none⟩ = some (.string S))
        (first | exact ⟨y0, y1, y2, y3, y4⟩ | exact ⟨HP2.out.c0, HP2.out.c1, HP2.out.c2, HP2.out.c3, HP2.out.c4⟩ | exact ⟨HP1.out.c0, HP1.out.c1, HP1.out.c2, HP1.out.c3, HP1.out.c4⟩)
        (first
          | (go_at_call 31; refine (HW1.out _ HBd.out.ch).mono ?_; rintro e' w1 ⟨rfl, hc1, ho1⟩; have HC1 := Lib.hid hc1; have HO1 := Lib.hid ho1; have HD1 := Lib.hid (HBd.out.half ho1); have HP1 := Lib.hid (HOd.out.keep ho1 HN1.out); clear hc1 ho1)
          | (go_at_call 49; refine (HW2.out _ HD1.out).mono ?_; rintro e' w2 ⟨rfl, v2, hd2, ho2, hq2⟩; have HD2 := Lib.hid hd2; have HO2 := Lib.hid ho2; have HQ2 := Lib.hid hq2; have HP2 := Lib.hid (HP1.out.keep ho2 HN2.out); clear hd2 ho2 hq2))
      all_goals
        go_wp2_with fail
        go_ret3
        exact ⟨g, b, d, v2, r', L', rfl, HBd.out.whole HC1.out HO1.out HD2.out HO2.out HQ2.out HOk.out.1 HOk.out.2.1 (HOk.out.2.2.2.trans HB.out.sm) HNm.out, HOk.out.2.2.1⟩
    have f3 : (kd == 3) = false := by rw [beq_eq_false_iff_ne]; exact hk
    clear hk
    have HOk := Lib.hid (tearS_ok HB.out.ok HB.out.ri on)
    have HW1 := Lib.hid (fun W (h : ChS w0 W g b r L) => tear_S h (by omega) HB.out.ok on hon rfl rfl)
    have HW2 := Lib.hid (fun W (h : DocAt W d v z L) => rtear_any h (by omega) HB.out.ok on hon)
    go_wp2_with fail
    go_region_held3 (fun W => W.cell? ⟨ob, 0, none⟩ = some (.int .i64 kd) ∧ W.cell? ⟨ob, 1, none⟩ = some (.int .i64 on) ∧ W.cell? ⟨ob, 2, none⟩ = some (.string A) ∧ W.cell? ⟨ob, 3, none⟩ = some (.string T) ∧ W.cell? ⟨ob, 4, none⟩ = some (.string S))
      (first | exact ⟨y0, y1, y2, y3, y4⟩ | exact ⟨HP2.out.c0, HP2.out.c1, HP2.out.c2, HP2.out.c3, HP2.out.c4⟩ | exact ⟨HP1.out.c0, HP1.out.c1, HP1.out.c2, HP1.out.c3, HP1.out.c4⟩)
      (first
        | (go_at_call 15; refine (HW1.out _ HBd.out.ch).mono ?_; rintro e' w1 ⟨g1, b1, rfl, hc1, hb1, hg1, hgb1⟩; have HC1 := Lib.hid hc1; have HB1 := Lib.hid hb1; have HD1 := Lib.hid (HBd.out.dc.low hb1); have HP1 := Lib.hid (HOd.out.low hb1); clear hc1 hb1 hg1 hgb1)
        | (go_at_call 26; refine (HW2.out _ HD1.out).mono ?_; rintro e' w2 ⟨d2, v2, rfl, hd2, hb2, hdl2, hvl2⟩; have HD2 := Lib.hid hd2; have HB2 := Lib.hid hb2; have HL2 := Lib.hid hdl2; have HV2 := Lib.hid hvl2; have HP2 := Lib.hid (HP1.out.low hb2); clear hd2 hb2 hdl2 hvl2))
    all_goals
      go_wp2_with fail
      go_ret3
      have e1 := HC1.out.1.ltg
      have e2 := HC1.out.1.ltb
      have e3 := HL2.out
      have e4 := HC1.out.2.1.size
      exact ⟨g1, b1, d2, v2, _, _, rfl, ⟨HC1.out.low HB2.out, HD2.out, by omega, fun q hq => by have := HV2.out q hq; omega, HOk.out.1, HOk.out.2.1, HOk.out.2.2.2.trans HB.out.sm, by omega, by omega, fun h => by have := HV2.out _ h; omega, fun h => by have := HV2.out _ h; omega, names_tear HB.out.nm⟩, by have := HOk.out.2.2.1; omega⟩
end Go.Proofs.YtjblbjamceloaaaGreatDoor

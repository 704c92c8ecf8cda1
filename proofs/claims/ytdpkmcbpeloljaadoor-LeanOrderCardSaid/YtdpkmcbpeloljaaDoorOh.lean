/- Plain laws: who is picked hangs on who is there alone; the rosters of LeanDrop and LeanOrder. The rosters that LeanDrop and LeanOrder gather: boxes; the document's DropNode where it goes. -/
import Derived.Test.YtdpkmcbpeloljaaDoorOg
import Derived.Test.YtdpkmcbpeloljaaDoorRoI
namespace Go.Proofs.YtdpkmcbpeloljaaDoor
open Go.RowKit

/-- One goes ahead of another. -/
def beats (l : List UInt8) (x b : Int) : Prop := wgt b l < wgt x l ∨ (wgt x l = wgt b l ∧ x < b)
theorem beats_trans {l : List UInt8} {x y z : Int} (h : beats l x y) (k : beats l y z) : beats l x z := by unfold beats at *; omega
theorem beats_total (l : List UInt8) (x y : Int) : x = y ∨ beats l x y ∨ beats l y x := by unfold beats; omega
theorem beats_asym {l : List UInt8} {x y : Int} (h : beats l x y) (k : beats l y x) : False := by unfold beats at *; omega
theorem better_iff (l : List UInt8) (nw b z : Int) : better l nw b z = true ↔ z ≠ nw ∧ (b = 0 ∨ beats l z b) := by
  unfold better beats
  simp only [Bool.and_eq_true, Bool.not_eq_true', beq_eq_false_iff_ne, Bool.or_eq_true, beq_iff_eq, decide_eq_true_eq, ne_eq]
  constructor
  · rintro ⟨h1, (h2 | h2) | h2⟩
    · exact ⟨h1, Or.inl h2⟩
    · exact ⟨h1, Or.inr (Or.inl h2)⟩
    · exact ⟨h1, Or.inr (Or.inr h2)⟩
  · rintro ⟨h1, h2 | h2 | h2⟩
    · exact ⟨h1, Or.inl (Or.inl h2)⟩
    · exact ⟨h1, Or.inl (Or.inr h2)⟩
    · exact ⟨h1, Or.inr h2⟩
theorem pick_top (l : List UInt8) (nw : Int) (zs : List Int) (h0 : ∀ z ∈ zs, z ≠ 0) (b : Int) :
    (b ≠ 0 → zs.foldl (pickStep l nw) b = b ∨ beats l (zs.foldl (pickStep l nw) b) b) ∧ ∀ z ∈ zs, z ≠ nw → zs.foldl (pickStep l nw) b = z ∨ beats l (zs.foldl (pickStep l nw) b) z := by
  induction zs generalizing b with
  | nil => exact ⟨fun _ => Or.inl rfl, fun z hz => absurd hz (by simp)⟩
  | cons z zs ih =>
    rw [List.foldl_cons]
    have hz0 : z ≠ 0 := h0 z List.mem_cons_self
    obtain ⟨i1, i2⟩ := ih (fun y hy => h0 y (List.mem_cons_of_mem _ hy)) (pickStep l nw b z)
    generalize hr : zs.foldl (pickStep l nw) (pickStep l nw b z) = r at i1 i2 ⊢
    by_cases hb : better l nw b z = true
    · have hs : pickStep l nw b z = z := if_pos hb
      rw [hs] at i1
      have h1 := i1 hz0
      have h2 := (better_iff l nw b z).1 hb
      refine ⟨fun h => ?_, fun y hy hn => ?_⟩
      · rcases h2.2 with h3 | h3
        · exact absurd h3 h
        · rcases h1 with h1 | h1
          · rw [h1]; exact Or.inr h3
          · exact Or.inr (beats_trans h1 h3)
      · rcases List.mem_cons.1 hy with rfl | hy
        · exact h1
        · exact i2 y hy hn
    · have hs : pickStep l nw b z = b := if_neg hb
      rw [hs] at i1
      refine ⟨i1, fun y hy hn => ?_⟩
      rcases List.mem_cons.1 hy with rfl | hy
      · have h3 : ¬ (y ≠ nw ∧ (b = 0 ∨ beats l y b)) := fun h => hb ((better_iff l nw b y).2 h)
        have hb0 : b ≠ 0 := fun e => h3 ⟨hn, Or.inl e⟩
        have hnb : ¬ beats l y b := fun e => h3 ⟨hn, Or.inr e⟩
        have hyb : b = y ∨ beats l b y := by
          rcases beats_total l b y with h | h | h
          · exact Or.inl h
          · exact Or.inr h
          · exact absurd h hnb
        rcases i1 hb0 with h1 | h1
        · rw [h1]; exact hyb
        · rcases hyb with e | h
          · rw [← e]; exact Or.inr h1
          · exact Or.inr (beats_trans h1 h)
      · exact i2 y hy hn
/-- The one that is picked is told by: it is there, and it is ahead of all. -/
theorem pick_eq (l : List UInt8) (nw : Int) (zs : List Int) (h0 : ∀ z ∈ zs, z ≠ 0) (p : Int) (hp : p ∈ zs) (hn : p ≠ nw) (ht : ∀ z ∈ zs, z ≠ nw → p = z ∨ beats l p z) : pick l nw zs = p := by
  have h1 := pick_in l nw zs (pick_ne l nw zs h0 p hp hn)
  rcases ht _ h1.1 h1.2 with h | h
  · exact h.symm
  · rcases (pick_top l nw zs h0 0).2 p hp hn with h2 | h2
    · exact h2
    · exact absurd h2 (fun h2 => beats_asym h h2)
theorem pick_same (l : List UInt8) (nw : Int) (xs ys : List Int) (h0 : ∀ z ∈ xs, z ≠ 0) (h : ∀ z, z ∈ ys ↔ z ∈ xs) : pick l nw ys = pick l nw xs := by
  by_cases hx : ∃ x, x ∈ xs ∧ x ≠ nw
  · obtain ⟨x, h1, h2⟩ := hx
    have h3 := pick_in l nw xs (pick_ne l nw xs h0 x h1 h2)
    exact pick_eq l nw ys (fun z hz => h0 z ((h z).1 hz)) _ ((h _).2 h3.1) h3.2 (fun z hz hn => (pick_top l nw xs h0 0).2 z ((h z).1 hz) hn)
  · have e1 : ∀ zs : List Int, (∀ z ∈ zs, z = nw) → pick l nw zs = 0 := fun zs hz => by
      rcases pick_or l nw zs 0 with h4 | h4
      · exact h4
      · exact absurd (hz _ h4.1) h4.2
    have hall : ∀ z ∈ xs, z = nw := fun z hz => Classical.byContradiction fun hn => hx ⟨z, hz, hn⟩
    rw [e1 xs hall, e1 ys (fun z hz => hall z ((h z).1 hz))]
/-- Without one that is not picked the same one is picked. -/
theorem pick_drop (l : List UInt8) (zs ys : List Int) (n : Int) (h0 : ∀ z ∈ zs, z ≠ 0) (h : ∀ z, z ∈ ys ↔ z ∈ zs ∧ z ≠ n) (h1 : ∃ x, x ∈ zs ∧ x ≠ n) : pick l 0 ys ≠ n ∧ (pick l 0 zs = pick l 0 ys ∨ pick l 0 zs = n) := by
  obtain ⟨x, hx, hxn⟩ := h1
  have hy0 : ∀ z ∈ ys, z ≠ 0 := fun z hz => h0 z ((h z).1 hz).1
  have hq := pick_in l 0 ys (pick_ne l 0 ys hy0 x ((h x).2 ⟨hx, hxn⟩) (h0 x hx))
  refine ⟨((h _).1 hq.1).2, ?_⟩
  have hp := pick_in l 0 zs (pick_ne l 0 zs h0 x hx (h0 x hx))
  by_cases e : pick l 0 zs = n
  · exact Or.inr e
  · exact Or.inl (pick_eq l 0 ys hy0 _ ((h _).2 ⟨hp.1, e⟩) hp.2 (fun z hz hn => (pick_top l 0 zs h0 0).2 z ((h z).1 hz).1 hn)).symm
/-- The roster that is gathered. -/
def gstep (ys : List Int) (v : Int) : List Int := if 1 + v.tmod 5 % 5 ∈ ys then ys else ys ++ [1 + v.tmod 5 % 5]
def gath (l : List Int) : List Int := l.foldl gstep []
theorem gath_take (l : List Int) (k : Nat) (h : k < l.length) : gath (l.take (k + 1)) = gstep (gath (l.take k)) (nthI l k) := by
  rw [take_snocI l k h]; unfold gath; rw [List.foldl_append]; rfl
theorem gath_may : ∀ (l ys : List Int), mayL ys = true → mayL (l.foldl gstep ys) = true
  | [], _, h => h
  | v :: l, ys, h => by
    rw [List.foldl_cons]
    refine gath_may l _ ?_
    unfold gstep
    have h2 := mayL_iff.1 h
    split
    · exact h
    · rename_i hn
      refine mayL_iff.2 ⟨fun n hm => ?_, ?_⟩
      · rcases List.mem_append.1 hm with hm | hm
        · exact h2.1 n hm
        · rw [List.mem_singleton.1 hm]; omega
      · rw [List.nodup_append]
        refine ⟨h2.2, by simp, fun a ha b hb => ?_⟩
        rw [List.mem_singleton.1 hb]
        intro e; exact hn (e ▸ ha)
theorem gath_mayL (l : List Int) : mayL (gath l) = true := gath_may l [] (by decide)
theorem gath_len (l : List Int) : (gath l).length ≤ l.length := by
  have : ∀ (l ys : List Int), (l.foldl gstep ys).length ≤ ys.length + l.length := by
    intro l
    induction l with
    | nil => intro ys; simp
    | cons v l ih =>
      intro ys
      rw [List.foldl_cons]
      have h1 := ih (gstep ys v)
      have h2 : (gstep ys v).length ≤ ys.length + 1 := by
        unfold gstep; split
        · omega
        · simp
      simp only [List.length_cons]; omega
  have h := this l []
  simpa [gath] using h
end Go.Proofs.YtdpkmcbpeloljaaDoor
namespace Go.Proofs.YtdpkmcbpeloljaaDoor
open Go.RowKit

/-- A box of three cells that can be written. -/
def Bx (B : Nat) (u0 u1 u2 : Value) (W : World) : Prop :=
  W.cell? ⟨B, 0, none⟩ = some u0 ∧ W.cell? ⟨B, 1, none⟩ = some u1 ∧ W.cell? ⟨B, 2, none⟩ = some u2 ∧ W.frozen? ⟨B, 0, none⟩ = false ∧ W.frozen? ⟨B, 1, none⟩ = false ∧ W.frozen? ⟨B, 2, none⟩ = false
theorem Bx.low {B D : Nat} {u0 u1 u2 : Value} {W W' : World} (h : Bx B u0 u1 u2 W) (hb : Below D W W') (hB : B < D) : Bx B u0 u1 u2 W' := by
  obtain ⟨x0, x1, x2, f0, f1, f2⟩ := h
  exact ⟨(hb.cell hB).trans x0, (hb.cell hB).trans x1, (hb.cell hB).trans x2, (hb.frozen hB).trans f0, (hb.frozen hB).trans f1, (hb.frozen hB).trans f2⟩
theorem Bx.keep {B : Nat} {u0 u1 u2 : Value} {W W' : World} (h : Bx B u0 u1 u2 W) (hb : Below W.heap.size W W') : Bx B u0 u1 u2 W' := h.low hb (cell_old h.1)
theorem Bx.set1 {B : Nat} {u0 u1 u2 : Value} {W : World} (h : Bx B u0 u1 u2 W) (v : Value) : Bx B u0 v u2 (W.setCell ⟨B, 1, none⟩ v) := by
  obtain ⟨x0, x1, x2, f0, f1, f2⟩ := h
  refine ⟨?_, World.cell?_setCell_same _ _ _ x1, ?_, by simp [f0], by simp [f1], by simp [f2]⟩
  · rw [World.cell?_setCell_other _ _ _ _ (by simp)]; exact x0
  · rw [World.cell?_setCell_other _ _ _ _ (by simp)]; exact x2
theorem Bx.far {B C : Nat} {u0 u1 u2 : Value} {W : World} (h : Bx B u0 u1 u2 W) (hC : C ≠ B) (i : Nat) (v : Value) : Bx B u0 u1 u2 (W.setCell ⟨C, i, none⟩ v) := by
  obtain ⟨x0, x1, x2, f0, f1, f2⟩ := h
  have hC' : B ≠ C := fun e => hC e.symm
  refine ⟨?_, ?_, ?_, by simp [f0], by simp [f1], by simp [f2]⟩
  · rw [World.cell?_setCell_other _ _ _ _ (by simp [hC, hC'])]; exact x0
  · rw [World.cell?_setCell_other _ _ _ _ (by simp [hC, hC'])]; exact x1
  · rw [World.cell?_setCell_other _ _ _ _ (by simp [hC, hC'])]; exact x2
theorem Bx.new (W : World) (u0 u1 u2 : Value) (t : TypeId) : Bx W.heap.size u0 u1 u2 (W.alloc (.cells #[u0, u1, u2] t)) := by
  obtain ⟨y0, y1, y2, y3⟩ := new3 W u0 u1 u2 t
  exact ⟨y0, y1, y2, y3 0, y3 1, y3 2⟩
/-- A box with a roster of the call's own. -/
def GaR (B D : Nat) (w : World) (e : Int) (ys : List Int) (W : World) : Prop :=
  ∃ a c, Bx B (.int .i64 e) (.slice a ys.length c) (.int .i64 0) W ∧ OwnI W D (.slice a ys.length c) ys ∧ Below w.heap.size w W ∧ B < D ∧ w.heap.size ≤ B ∧ D ≤ W.heap.size
theorem GaR.keep {B D : Nat} {w W W' : World} {e : Int} {ys : List Int} (h : GaR B D w e ys W) (hb : Below W.heap.size W W') : GaR B D w e ys W' := by
  obtain ⟨a, c, h1, h2, h3, h4, h5, h6⟩ := h
  exact ⟨a, c, h1.keep hb, ownsRow_below h2 hb, below_on h3 hb, h4, h5, Nat.le_trans h6 hb.size⟩
theorem mem_erase {zs : List Int} (h : mayL zs = true) {k : Nat} (hk : k < zs.length) (z : Int) : z ∈ zs.eraseIdx k ↔ z ∈ zs ∧ z ≠ nthI zs k := by
  rw [List.mem_eraseIdx_iff_getElem]
  constructor
  · rintro ⟨i, hi, hik, rfl⟩
    refine ⟨List.getElem_mem hi, fun e => hik ?_⟩
    refine nthI_inj h hi hk ?_
    rw [← e]; unfold nthI; rw [List.getD_eq_getElem?_getD, List.getElem?_eq_getElem hi]; rfl
  · rintro ⟨hz, hn⟩
    obtain ⟨i, hi, e⟩ := List.getElem_of_mem hz
    refine ⟨i, hi, fun e2 => hn ?_, e⟩
    subst e2
    rw [← e]; unfold nthI; rw [List.getD_eq_getElem?_getD, List.getElem?_eq_getElem hi]; rfl
theorem mayL_erase {zs : List Int} (h : mayL zs = true) (k : Nat) : mayL (zs.eraseIdx k) = true := by
  have h2 := mayL_iff.1 h
  exact mayL_iff.2 ⟨fun n hn => h2.1 n (List.mem_of_mem_eraseIdx hn), List.Pairwise.sublist (List.eraseIdx_sublist zs k) h2.2⟩
theorem mayB_of {e : Int} {zs : List Int} (h : mayL zs = true) (h1 : 1 ≤ zs.length) (h5 : zs.length ≤ 5) (he : 1 ≤ e) (he2 : e ≤ 1099511627776) : mayB e zs 0 = true := by
  unfold mayB epB lenB newB
  simp only [Bool.and_eq_true, decide_eq_true_eq]
  exact ⟨⟨⟨⟨he, he2⟩, h1, h5⟩, h⟩, Or.inl trivial⟩
theorem dropNode_ok (a : Option Addr) (c : Nat) (zs : List Int) (k : Nat) (w : World) (hz : IntsAt w a zs) (hcap : zs.length ≤ c) (hk : k < zs.length) (h : mayL zs = true) (h2 : 2 ≤ zs.length) (h5 : zs.length ≤ 5) :
    Calls Tryd.prog 10 #[rosV 1 a zs c 0, .int .i64 (nthI zs k)] w (AddR w 2 0 (zs.eraseIdx k)) := by
  have hd : newD 0 (nthI zs k) = 0 := by unfold newD; split <;> rfl
  have hlen : (zs.eraseIdx k).length = zs.length - 1 := List.length_eraseIdx_of_lt hk
  refine dropNode_x 1 0 (nthI zs k) k a c zs w hz (by omega) (by omega) hcap hk (Lib.hid (idx_nth h hk)) (mayB_of h (by omega) h5 (by omega) (by omega)) _ (fun e' w' hR => ?_)
  rw [hd] at hR
  exact hR.1 (mayB_of (mayL_erase h k) (by omega) (by omega) (by omega) (by omega))
theorem spot_h (e nw x ix : Int) (a : Option Addr) (c : Nat) (zs : List Int) (w : World) (hl : zs.length ≤ 9223372036854775807) (hz : IntsAt w a zs) (h : idx zs x = ix) :
    Calls Tryd.prog 9 #[.agg #[.int .i64 e, .slice a zs.length c, .int .i64 nw], .int .i64 x] w fun e w' => e = .returned (.int .i64 ix) ∧ Below w.heap.size w w' := by
  rw [← h]; exact spot_any e nw x a c zs w hl hz
theorem gstep_yes {ys : List Int} {v m n : Int} (hm : v.tmod 5 = m) (hn : 1 + m % 5 = n) (h : n ∈ ys) : gstep ys v = ys := by
  unfold gstep; rw [hm, hn, if_pos h]
theorem gstep_no {ys : List Int} {v m n : Int} (hm : v.tmod 5 = m) (hn : 1 + m % 5 = n) (h : n ∉ ys) : gstep ys v = ys ++ [n] := by
  unfold gstep; rw [hm, hn, if_neg h]
end Go.Proofs.YtdpkmcbpeloljaaDoor

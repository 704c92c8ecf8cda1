/- RosterWay: the walk. RosterAll: the walk. Plain words on chains: how long they may be, one more and one less. Plain words on chains: one that goes, one that comes, in turns. -/
import Derived.Test.YthiphdcbboapkaaGreatDoorR2
namespace Go.Proofs.YthiphdcbboapkaaGreatDoor
open Go.RowKit

theorem tail_at (e nw : Int) (a : Option Addr) (c : Nat) (zs : List Int) (w : World) (hl : zs.length ≤ 9223372036854775807) (hz : IntsAt w a zs) (h : Hid (atI zs (zs.length - 1) = nthI zs (zs.length - 1))) :
    Calls Tryz.prog 58 #[rosV e a zs c nw] w fun e w' => e = .returned (.int .i64 (nthI zs (zs.length - 1))) ∧ Below w.heap.size w w' := by
  have := tail_any e nw a c zs w hl hz
  rw [h.out] at this
  exact this
end Go.Proofs.YthiphdcbboapkaaGreatDoor
namespace Go.Proofs.YthiphdcbboapkaaGreatDoor
open Go.RowKit

/-- What Add and AddNode give; what Drop and DropNode give: epoch, nodes, New, whether. -/
def addF (e : Int) (zs : List Int) (nw n : Int) : Int × List Int × Int × Bool :=
  if mayB e zs nw = true ∧ nw = 0 ∧ mayB (e + 1) (zs ++ [n]) n = true then (e + 1, zs ++ [n], n, true) else (0, [], 0, false)
def dropF (e : Int) (zs : List Int) (nw n : Int) : Int × List Int × Int × Bool :=
  if mayB e zs nw = true ∧ 0 ≤ idx zs n ∧ mayB (e + 1) (zs.eraseIdx (idx zs n).toNat) (newD nw n) = true then (e + 1, zs.eraseIdx (idx zs n).toNat, newD nw n, true) else (0, [], 0, false)
def ResF (w : World) (r : Int × List Int × Int × Bool) (e' : Ending) (w' : World) : Prop :=
  ∃ a c, e' = .returned (.tuple #[rosV r.1 a r.2.1 c r.2.2.1, .bool r.2.2.2]) ∧ OwnI w' w.heap.size (.slice a r.2.1.length c) r.2.1 ∧ Below w.heap.size w w'
theorem resF_yes {w : World} {e n : Int} {zs : List Int} {e' : Ending} {w' : World} (h : AddR w e n zs e' w') : ResF w (e, zs, n, true) e' w' := by
  obtain ⟨v, h1, h2, h3⟩ := h
  obtain ⟨a, c, rfl, _⟩ := ownI_ros h2
  exact ⟨a, c, h1, h2, h3⟩
theorem resF_no {w : World} {e' : Ending} {w' : World} (h : e' = .returned (.tuple #[ros0, .bool false]) ∧ Below w.heap.size w w') : ResF w (0, [], 0, false) e' w' :=
  ⟨none, 0, h.1, World.ownsRow_nil _ _ _ _, h.2⟩
theorem mayB_ep {e : Int} {zs : List Int} {nw : Int} (h : mayB e zs nw = true) : 1 ≤ e ∧ e ≤ 1099511627776 := by
  unfold mayB epB at h
  simp only [Bool.and_eq_true, decide_eq_true_eq] at h
  exact h.1.1.1
theorem add_F (e nw n : Int) (a : Option Addr) (c : Nat) (zs : List Int) (w : World) (hz : IntsAt w a zs) (hl : zs.length ≤ 7) :
    Calls Tryz.prog 43 #[rosV e a zs c nw, .int .i64 n] w (ResF w (addF e zs nw n)) := by
  unfold addF
  by_cases h1 : mayB e zs nw = true
  · by_cases h2 : nw = 0
    · subst h2
      by_cases h3 : mayB (e + 1) (zs ++ [n]) n = true
      · rw [if_pos ⟨h1, rfl, h3⟩]
        exact (add_yes e n a c zs w hz h1 (mayB_ep h1) (mayB_mayL h1).2.2 h3).mono fun _ _ h => resF_yes h
      · rw [if_neg (fun h => h3 h.2.2)]
        exact (add_no2 e n a c zs w hz h1 (mayB_ep h1) (mayB_mayL h1).2.2 (by simpa using h3)).mono fun _ _ h => resF_no h
    · rw [if_neg (fun h => h2 h.2.1)]
      exact (add9_no e nw n a c zs w (by omega) hz (Or.inr h2)).mono fun _ _ h => resF_no h
  · rw [if_neg (fun h => h1 h.1)]
    exact (add9_no e nw n a c zs w (by omega) hz (Or.inl (by simpa using h1))).mono fun _ _ h => resF_no h
theorem addNode_F (e nw n : Int) (a : Option Addr) (c : Nat) (zs : List Int) (w : World) (hz : IntsAt w a zs) (hl : zs.length ≤ 7) (he : -9223372036854775808 ≤ e ∧ e < 9223372036854775807) :
    Calls Tryz.prog 45 #[rosV e a zs c nw, .int .i64 n] w (ResF w (addF e zs nw n)) := by
  refine addNode_x e nw n a c zs w hz he (by omega) _ (fun e' w' h => ?_)
  unfold addF
  by_cases hc : mayB e zs nw = true ∧ nw = 0 ∧ mayB (e + 1) (zs ++ [n]) n = true
  · rw [if_pos hc]; exact resF_yes (h.1 hc)
  · rw [if_neg hc]; exact resF_no (h.2 hc)
theorem drop_F (e nw n : Int) (a : Option Addr) (c : Nat) (zs : List Int) (w : World) (hz : IntsAt w a zs) (hl : zs.length ≤ 7) :
    Calls Tryz.prog 42 #[rosV e a zs c nw, .int .i64 n] w (ResF w (dropF e zs nw n)) := by
  have hb := idx_bd zs n
  unfold dropF
  by_cases h1 : mayB e zs nw = true
  · by_cases h2 : 0 ≤ idx zs n
    · obtain ⟨k, hk⟩ : ∃ k : Nat, idx zs n = k := ⟨(idx zs n).toNat, by omega⟩
      have hkl : k < zs.length := by omega
      rw [hk]
      simp only [Int.toNat_natCast]
      by_cases h3 : mayB (e + 1) (zs.eraseIdx k) (newD nw n) = true
      · rw [if_pos ⟨h1, by omega, h3⟩]
        exact (drop_yes e nw n k a c zs w hz h1 (mayB_ep h1) (mayB_mayL h1).2.2 hkl hk h3).mono fun _ _ h => resF_yes h
      · rw [if_neg (fun h => h3 h.2.2)]
        exact (drop_no2 e nw n k a c zs w hz h1 (mayB_ep h1) (mayB_mayL h1).2.2 hkl hk (by simpa using h3)).mono fun _ _ h => resF_no h
    · rw [if_neg (fun h => h2 h.2.1)]
      exact (drop_no e nw n a c zs w (by omega) hz (Or.inr (by omega))).mono fun _ _ h => resF_no h
  · rw [if_neg (fun h => h1 h.1)]
    exact (drop_no e nw n a c zs w (by omega) hz (Or.inl (by simpa using h1))).mono fun _ _ h => resF_no h
theorem dropNode_F (e nw n : Int) (a : Option Addr) (c : Nat) (zs : List Int) (w : World) (hz : IntsAt w a zs) (hl : zs.length ≤ 7) (hcap : zs.length ≤ c) (he : -9223372036854775808 ≤ e ∧ e < 9223372036854775807) :
    Calls Tryz.prog 64 #[rosV e a zs c nw, .int .i64 n] w (ResF w (dropF e zs nw n)) := by
  have hb := idx_bd zs n
  unfold dropF
  by_cases h1 : mayB e zs nw = true
  · by_cases h2 : 0 ≤ idx zs n
    · obtain ⟨k, hk⟩ : ∃ k : Nat, idx zs n = k := ⟨(idx zs n).toNat, by omega⟩
      have hkl : k < zs.length := by omega
      rw [hk]
      simp only [Int.toNat_natCast]
      refine dropNode_x e nw n k a c zs w hz he (by omega) hcap hkl hk h1 _ (fun e' w' h => ?_)
      by_cases h3 : mayB (e + 1) (zs.eraseIdx k) (newD nw n) = true
      · rw [if_pos ⟨h1, by omega, h3⟩]; exact resF_yes (h.1 h3)
      · rw [if_neg (fun h => h3 h.2.2)]; exact resF_no (h.2 (by simpa using h3))
    · rw [if_neg (fun h => h2 h.2.1)]
      exact (dropNode_no e nw n a c zs w hz (by omega) (Or.inr (by omega))).mono fun _ _ h => resF_no h
  · rw [if_neg (fun h => h1 h.1)]
    exact (dropNode_no e nw n a c zs w hz (by omega) (Or.inl (by simpa using h1))).mono fun _ _ h => resF_no h
theorem addF_len {e nw n : Int} {zs : List Int} (hl : zs.length ≤ 7) : (addF e zs nw n).2.1.length ≤ 8 := by
  unfold addF; split <;> simp; omega
theorem dropF_len {e nw n : Int} {zs : List Int} (hl : zs.length ≤ 7) : (dropF e zs nw n).2.1.length ≤ 8 := by
  unfold dropF
  split
  · simp only [List.length_eraseIdx]; split <;> omega
  · simp
/-- A roster in a block. -/
def CellR (B : Nat) (e : Int) (a : Option Addr) (zs : List Int) (c : Nat) (nw : Int) (W : World) : Prop :=
  W.cell? ⟨B, 0, none⟩ = some (.int .i64 e) ∧ W.cell? ⟨B, 1, none⟩ = some (.slice a zs.length c) ∧ W.cell? ⟨B, 2, none⟩ = some (.int .i64 nw) ∧ IntsAt W a zs
theorem CellR.keep {B : Nat} {e : Int} {a : Option Addr} {zs : List Int} {c : Nat} {nw : Int} {W W' : World} (h : CellR B e a zs c nw W) (hb : Below W.heap.size W W') : CellR B e a zs c nw W' :=
  ⟨cell_keep hb h.1, cell_keep hb h.2.1, cell_keep hb h.2.2.1, h.2.2.2.keep hb⟩
theorem CellR.new {e : Int} {a : Option Addr} {zs : List Int} {c : Nat} {nw : Int} {W : World} (h : IntsAt W a zs) (t : TypeId) : CellR W.heap.size e a zs c nw (W.alloc (.cells #[.int .i64 e, .slice a zs.length c, .int .i64 nw] t)) :=
  ⟨World.cell?_alloc_new W _ t 0, World.cell?_alloc_new W _ t 1, World.cell?_alloc_new W _ t 2, h.alloc _⟩
theorem eqB_self (e nw : Int) (zs : List Int) : eqB e e nw nw zs zs = true := by simp [eqB]
theorem side_next (zs : List Int) (n : Int) : sideI zs n 1 = nextI zs n := by
  unfold sideI nextI
  by_cases h : 0 ≤ idx zs n
  · rw [if_neg (by omega), if_pos h]
  · rw [if_pos (by omega), if_neg h]
theorem side_ahead (zs : List Int) (n : Int) : sideI zs n (-1) = atI zs (idx zs n - 1) := by
  unfold sideI
  by_cases h : idx zs n < 0
  · rw [if_pos h, atI_out (Or.inl (by omega))]
  · rw [if_neg h]; rfl

end Go.Proofs.YthiphdcbboapkaaGreatDoor
namespace Go.Proofs.YthiphdcbboapkaaGreatDoor
open Go.RowKit

theorem nodup_le : ∀ (k : Nat) (l : List Int), l.Nodup → (∀ x ∈ l, 1 ≤ x ∧ x ≤ (k : Int)) → l.length ≤ k
  | 0, l, _, h => by
    cases l with
    | nil => simp
    | cons x t => have := h x (by simp); omega
  | k + 1, l, hn, h => by
    by_cases hm : ((k + 1 : Nat) : Int) ∈ l
    · have h1 := nodup_le k (l.erase ((k + 1 : Nat) : Int)) (hn.erase _) (fun x hx => by
        have hx' := (List.Nodup.mem_erase_iff hn).1 hx
        have := h x hx'.2
        have := hx'.1
        omega)
      rw [List.length_erase_of_mem hm] at h1
      have := List.length_pos_of_mem hm
      omega
    · have := nodup_le k l hn (fun x hx => by
        have := h x hx
        have hne : x ≠ ((k + 1 : Nat) : Int) := fun e => hm (e ▸ hx)
        omega)
      omega
theorem mem_nth {zs : List Int} {x : Int} (h : x ∈ zs) : ∃ k, k < zs.length ∧ nthI zs k = x := by
  obtain ⟨k, hk, e⟩ := List.getElem_of_mem h
  refine ⟨k, hk, ?_⟩
  unfold nthI
  rw [List.getD_eq_getElem?_getD, List.getElem?_eq_getElem hk, e]; rfl
theorem nth_mem {zs : List Int} {k : Nat} (hk : k < zs.length) : nthI zs k ∈ zs := by
  unfold nthI
  rw [List.getD_eq_getElem?_getD, List.getElem?_eq_getElem hk]
  exact List.getElem_mem hk
theorem idx_no {zs : List Int} {x : Int} (h : x ∉ zs) : idx zs x = -1 := idx_miss fun _ hi e => h (e ▸ nth_mem hi)
theorem idx_in {zs : List Int} {x : Int} (h : x ∈ zs) : 0 ≤ idx zs x := by
  refine Classical.byContradiction fun hn => ?_
  obtain ⟨k, hk, e⟩ := mem_nth h
  -- the least such place
  have : ∀ m : Nat, ∀ j : Nat, j < m → j < zs.length → nthI zs j ≠ x := by
    intro m
    induction m with
    | zero => intro j hj; omega
    | succ m ih =>
      intro j hj hl e2
      by_cases hjm : j < m
      · exact ih j hjm hl e2
      · obtain rfl : j = m := by omega
        have := idx_hit hl e2 (fun i hi => ih i hi (by omega))
        omega
  exact this zs.length k hk hk e
theorem idx_yes {zs : List Int} {x : Int} : 0 ≤ idx zs x ↔ x ∈ zs :=
  ⟨fun h => Classical.byContradiction fun hn => by rw [idx_no hn] at h; omega, idx_in⟩
theorem mayL_iff {zs : List Int} : mayL zs = true ↔ (∀ n ∈ zs, 1 ≤ n ∧ n ≤ 5) ∧ zs.Nodup := by unfold mayL; simp
theorem mayL_add {zs : List Int} {n : Int} : mayL (zs ++ [n]) = true ↔ mayL zs = true ∧ 1 ≤ n ∧ n ≤ 5 ∧ n ∉ zs := by
  rw [mayL_iff, mayL_iff, List.nodup_append]
  constructor
  · rintro ⟨h, h1, _, h3⟩
    exact ⟨⟨fun x hx => h x (by simp [hx]), h1⟩, (h n (by simp)).1, (h n (by simp)).2, fun hn => h3 n hn n (by simp) rfl⟩
  · rintro ⟨⟨h, h1⟩, h2, h3, h4⟩
    refine ⟨fun x hx => ?_, h1, by simp, fun a ha b hb => ?_⟩
    · rcases List.mem_append.1 hx with hx | hx
      · exact h x hx
      · rw [List.mem_singleton.1 hx]; exact ⟨h2, h3⟩
    · rw [List.mem_singleton.1 hb]; exact fun e => h4 (e ▸ ha)
theorem mayL_len {zs : List Int} (h : mayL zs = true) : zs.length ≤ 5 := nodup_le 5 zs (mayL_iff.1 h).2 fun x hx => (mayL_iff.1 h).1 x hx
theorem mayB_iff {e : Int} {zs : List Int} {nw : Int} : mayB e zs nw = true ↔ (1 ≤ e ∧ e ≤ 1099511627776) ∧ 1 ≤ zs.length ∧ mayL zs = true ∧ newB zs nw = true := by
  unfold mayB epB lenB
  simp only [Bool.and_eq_true, decide_eq_true_eq]
  constructor
  · rintro ⟨⟨⟨h1, h2⟩, h3⟩, h4⟩; exact ⟨h1, h2.1, h3, h4⟩
  · rintro ⟨h1, h2, h3, h4⟩; exact ⟨⟨⟨h1, h2, mayL_len h3⟩, h3⟩, h4⟩
theorem newB_last {zs : List Int} {n : Int} (h : 1 ≤ zs.length) : newB (zs ++ [n]) n = true := by
  refine newB_yes (Or.inr ⟨by simp; omega, ?_⟩)
  unfold nthI
  simp
/-- One is added: when? -/
theorem mayB_add {e : Int} {zs : List Int} {n : Int} (h : mayB e zs 0 = true) (he : e < 1099511627776) : mayB (e + 1) (zs ++ [n]) n = true ↔ 1 ≤ n ∧ n ≤ 5 ∧ n ∉ zs := by
  have h' := mayB_iff.1 h
  rw [mayB_iff, mayL_add]
  constructor
  · rintro ⟨_, _, ⟨_, h1⟩, _⟩; exact h1
  · intro h1; exact ⟨by omega, by simp, ⟨h'.2.2.1, h1⟩, newB_last h'.2.1⟩
theorem addF_no {e nw n : Int} {zs : List Int} (h : mayB e zs nw = true) (he : e < 1099511627776) (hn : nw ≠ 0 ∨ 0 ≤ idx zs n ∨ n < 1 ∨ 5 < n) : addF e zs nw n = (0, [], 0, false) := by
  unfold addF
  rw [if_neg]
  rintro ⟨_, rfl, h2⟩
  have := (mayB_add h he).1 h2
  rcases hn with hn | hn | hn | hn
  · exact hn rfl
  · exact this.2.2 (idx_yes.1 hn)
  · omega
  · omega
theorem addF_yes {e n : Int} {zs : List Int} (h : mayB e zs 0 = true) (he : e < 1099511627776) (h1 : idx zs n < 0) (h2 : 1 ≤ n) (h3 : n ≤ 5) : addF e zs 0 n = (e + 1, zs ++ [n], n, true) := by
  unfold addF
  rw [if_pos]
  exact ⟨h, rfl, (mayB_add h he).2 ⟨h2, h3, fun hm => by have := idx_in hm; omega⟩⟩
theorem nthI_app_lt {zs : List Int} {n : Int} {k : Nat} (h : k < zs.length) : nthI (zs ++ [n]) k = nthI zs k := by
  unfold nthI; rw [List.getD_eq_getElem?_getD, List.getD_eq_getElem?_getD, List.getElem?_append_left h]
theorem nthI_app_eq {zs : List Int} {n : Int} : nthI (zs ++ [n]) zs.length = n := by
  unfold nthI; simp
theorem idx_app {zs : List Int} {n : Int} (h : idx zs n < 0) : idx (zs ++ [n]) n = zs.length := by
  refine idx_hit (by simp) nthI_app_eq fun i hi e => ?_
  rw [nthI_app_lt hi] at e
  have := idx_in (e ▸ nth_mem hi : n ∈ zs)
  omega
theorem dropF_back {e n : Int} {zs : List Int} (h : mayB e zs 0 = true) (he : e < 1099511627775) (h1 : idx zs n < 0) (h2 : 1 ≤ n) (h3 : n ≤ 5) :
    dropF (e + 1) (zs ++ [n]) n n = (e + 2, zs, 0, true) := by
  have h' := mayB_iff.1 h
  have hd : newD n n = 0 := by unfold newD; simp
  have hx : (zs ++ [n]).eraseIdx (idx (zs ++ [n]) n).toNat = zs := by
    rw [idx_app h1, Int.toNat_natCast, List.eraseIdx_append_of_length_le (Nat.le_refl _)]; simp
  unfold dropF
  rw [hx, hd, if_pos]
  · rw [show e + 1 + 1 = e + 2 from by omega]
  · refine ⟨(mayB_add h (by omega)).2 ⟨h2, h3, fun hm => by have := idx_in hm; omega⟩, by rw [idx_app h1]; omega, mayB_iff.2 ⟨by omega, h'.2.1, h'.2.2.1, h'.2.2.2⟩⟩

end Go.Proofs.YthiphdcbboapkaaGreatDoor
namespace Go.Proofs.YthiphdcbboapkaaGreatDoor
open Go.RowKit

theorem newB_iff {zs : List Int} {nw : Int} : newB zs nw = true ↔ nw = 0 ∨ 1 < zs.length ∧ nw = nthI zs (zs.length - 1) := by
  unfold newB
  rw [decide_eq_true_eq]
  by_cases h : 1 < zs.length
  · rw [show ((zs.length : Int) - 1) = ((zs.length - 1 : Nat) : Int) from by omega, atI_in (by omega)]
  · simp [h]
theorem mayL_erase {zs : List Int} (h : mayL zs = true) (k : Nat) : mayL (zs.eraseIdx k) = true := by
  rw [mayL_iff] at h ⊢
  refine ⟨fun n hn => h.1 n (List.mem_of_mem_eraseIdx hn), h.2.sublist (List.eraseIdx_sublist zs k)⟩
theorem nthI_erase_last {zs : List Int} {k : Nat} (hk : k + 1 < zs.length) : nthI (zs.eraseIdx k) (zs.length - 1 - 1) = nthI zs (zs.length - 1) := by
  unfold nthI
  rw [List.getD_eq_getElem?_getD, List.getD_eq_getElem?_getD, List.getElem?_eraseIdx]
  rw [if_neg (by omega), show zs.length - 1 - 1 + 1 = zs.length - 1 from by omega]
/-- What the law asks of Drop's answer. -/
def goesB (zs : List Int) (nw n : Int) : Bool := decide (0 ≤ idx zs n ∧ (n = nw ∨ 2 < zs.length ∨ zs.length = 2 ∧ nw = 0))
theorem drop_turn {e nw n : Int} {zs : List Int} (h : mayB e zs nw = true) (he : e < 1099511627776) (hn : 1 ≤ n) :
    (dropF e zs nw n).2.2.2 = goesB zs nw n ∧ (goesB zs nw n = true → (dropF e zs nw n).1 = e + 1 ∧ mayB (e + 1) (dropF e zs nw n).2.1 (dropF e zs nw n).2.2.1 = true) := by
  have h' := mayB_iff.1 h
  have hb := idx_bd zs n
  unfold dropF
  by_cases hi : 0 ≤ idx zs n
  · obtain ⟨k, hk⟩ : ∃ k : Nat, idx zs n = k := ⟨(idx zs n).toNat, by omega⟩
    have hkl : k < zs.length := by omega
    have hnk : nthI zs k = n := by
      have hm := idx_yes.1 hi
      obtain ⟨j, hj, ej⟩ := mem_nth hm
      have : ∀ m : Nat, m ≤ zs.length → (∀ i, i < m → nthI zs i ≠ n) ∨ ∃ i, i < m ∧ nthI zs i = n ∧ ∀ q, q < i → nthI zs q ≠ n := by
        intro m
        induction m with
        | zero => intro _; left; intro i hi; omega
        | succ m ih =>
          intro hm
          rcases ih (by omega) with h1 | ⟨i, h1, h2, h3⟩
          · by_cases hx : nthI zs m = n
            · right; exact ⟨m, by omega, hx, h1⟩
            · left; intro i hi; by_cases e : i = m
              · subst e; exact hx
              · exact h1 i (by omega)
          · right; exact ⟨i, by omega, h2, h3⟩
      rcases this zs.length (Nat.le_refl _) with h1 | ⟨i, h1, h2, h3⟩
      · exact absurd ej (h1 j hj)
      · have := idx_hit h1 h2 h3
        have : i = k := by omega
        subst this; exact h2
    have hlen : (zs.eraseIdx k).length = zs.length - 1 := by rw [List.length_eraseIdx, if_pos hkl]
    have hmay : mayB (e + 1) (zs.eraseIdx k) (newD nw n) = true ↔ (n = nw ∨ 2 < zs.length ∨ zs.length = 2 ∧ nw = 0) := by
      rw [mayB_iff, newB_iff, hlen]
      have hL := mayL_erase h'.2.2.1 k
      have hN := newB_iff.1 h'.2.2.2
      unfold newD
      by_cases hnw : nw = n
      · subst hnw
        rw [if_pos rfl]
        constructor
        · intro _; exact Or.inl rfl
        · intro _; exact ⟨by omega, by rcases hN with hN | hN <;> omega, hL, Or.inl rfl⟩
      · rw [if_neg hnw]
        constructor
        · rintro ⟨_, h2, _, h4 | h4⟩
          · right; omega
          · right; left; omega
        · intro h1
          rcases h1 with h1 | h1 | h1
          · exact absurd h1.symm hnw
          · refine ⟨by omega, by omega, hL, ?_⟩
            rcases hN with hN | hN
            · exact Or.inl hN
            · right
              refine ⟨by omega, ?_⟩
              have hne : k ≠ zs.length - 1 := fun ek => hnw (by rw [hN.2, ← ek]; exact hnk)
              rw [nthI_erase_last (by omega)]
              exact hN.2
          · exact ⟨by omega, by omega, hL, Or.inl h1.2⟩
    rw [hk, Int.toNat_natCast]
    unfold goesB
    rw [hk]
    by_cases hc : (n = nw ∨ 2 < zs.length ∨ zs.length = 2 ∧ nw = 0)
    · rw [if_pos ⟨h, by omega, hmay.2 hc⟩]
      exact ⟨by rw [decide_eq_true ⟨by omega, hc⟩], fun _ => ⟨rfl, hmay.2 hc⟩⟩
    · rw [if_neg (fun q => hc (hmay.1 q.2.2))]
      exact ⟨by rw [decide_eq_false (fun q => hc q.2)], fun q => absurd (of_decide_eq_true q).2 hc⟩
  · rw [if_neg (fun q => hi q.2.1)]
    unfold goesB
    exact ⟨by rw [decide_eq_false (fun q => hi q.1)], fun q => absurd (of_decide_eq_true q).1 hi⟩
/-- What the law asks of Add's answer. -/
def comesB (zs : List Int) (nw n : Int) : Bool := decide (idx zs n < 0 ∧ nw = 0)
theorem add_turn {e nw n : Int} {zs : List Int} (h : mayB e zs nw = true) (he : e < 1099511627776) (hn : 1 ≤ n) (hn5 : n ≤ 5) :
    (addF e zs nw n).2.2.2 = comesB zs nw n ∧ (comesB zs nw n = true → (addF e zs nw n).1 = e + 1 ∧ mayB (e + 1) (addF e zs nw n).2.1 (addF e zs nw n).2.2.1 = true) := by
  unfold comesB
  by_cases h1 : idx zs n < 0 ∧ nw = 0
  · obtain ⟨h1, rfl⟩ := h1
    rw [addF_yes h he h1 hn hn5]
    exact ⟨by rw [decide_eq_true ⟨h1, rfl⟩], fun _ => ⟨rfl, (mayB_add h he).2 ⟨hn, hn5, fun hm => by have := idx_in hm; omega⟩⟩⟩
  · rw [addF_no h he (by omega), decide_eq_false h1]
    exact ⟨rfl, fun q => by cases q⟩
/-- One that has learnt. -/
theorem learn_turn {e nw : Int} {zs : List Int} (h : mayB e zs nw = true) : mayB e zs 0 = true := by
  have h' := mayB_iff.1 h
  exact mayB_iff.2 ⟨h'.1, h'.2.1, h'.2.2.1, newB_iff.2 (Or.inl rfl)⟩

end Go.Proofs.YthiphdcbboapkaaGreatDoor

/- Values of package pouch in memory: as trees. Walk of pouch.count, May. Walks of pouch.May, Eq. -/
import Derived.Test.YthbbfdlacclccaaDoorM5
import Derived.BigQuiet
import Derived.Deep.QuietTactic
namespace Go.Proofs.YthbbfdlacclccaaDoor
open Go.RowKit

/-- A value: a tree. -/
inductive PV where
  | mk (k n : Int) (s : ByteArray) (l : List PV)
/-- The four cells of a value in memory. -/
def CellP (w : World) (b o : Nat) (v : Value) : Prop := ∃ c0 c1 c2 c3, v = .agg #[c0, c1, c2, c3] ∧ w.cell? ⟨b, o, none⟩ = some c0 ∧ w.cell? ⟨b, o + 1, none⟩ = some c1 ∧ w.cell? ⟨b, o + 2, none⟩ = some c2 ∧ w.cell? ⟨b, o + 3, none⟩ = some c3
theorem CellP.below {w w' : World} {b o : Nat} {v : Value} {B : Nat} (h : CellP w b o v) (hb : Below B w w') (hB : b < B) : CellP w' b o v := by
  obtain ⟨c0, c1, c2, c3, rfl, h0, h1, h2, h3⟩ := h
  refine ⟨c0, c1, c2, c3, rfl, ?_, ?_, ?_, ?_⟩
  · rw [hb.cell (p := ⟨b, o, none⟩) hB]; exact h0
  · rw [hb.cell (p := ⟨b, o + 1, none⟩) hB]; exact h1
  · rw [hb.cell (p := ⟨b, o + 2, none⟩) hB]; exact h2
  · rw [hb.cell (p := ⟨b, o + 3, none⟩) hB]; exact h3
def RowP (w : World) (a : Option Addr) (len : Nat) (vs : Nat → Value) : Prop := len = 0 ∨ ∃ b off, a = some ⟨b, off, none⟩ ∧ b < w.heap.size ∧ ∀ j, j < len → CellP w b (off + j * 4) (vs j)
theorem RowP.below {w w' : World} {a : Option Addr} {len : Nat} {vs : Nat → Value} {B : Nat} (h : RowP w a len vs) (hb : Below B w w') (hB : w.heap.size ≤ B) : RowP w' a len vs := by
  rcases h with h | ⟨b, off, rfl, hs, hc⟩
  · exact Or.inl h
  · exact Or.inr ⟨b, off, rfl, Nat.lt_of_lt_of_le hs hb.size, fun j hj => (hc j hj).below hb (by omega)⟩
/-- A value that reads as a tree. -/
inductive PAt (w : World) : PV → Value → Prop where
  | mk (k n : Int) (s : ByteArray) (l : List PV) (a : Option Addr) (c : Nat) (vs : Nat → Value) (hk : -9223372036854775808 ≤ k ∧ k ≤ 9223372036854775807) (hn : -9223372036854775808 ≤ n ∧ n ≤ 9223372036854775807)
    (hs : s.size ≤ 9223372036854775807) (hl : l.length ≤ 9223372036854775807) (hr : RowP w a l.length vs) (hv : ∀ j x, l[j]? = some x → PAt w x (vs j)) :
    PAt w (.mk k n s l) (.agg #[.int .i64 k, .int .i64 n, .string s, .slice a l.length c])
theorem PAt.keep {w : World} {x : PV} {v : Value} (h : PAt w x v) : ∀ {w' : World}, Below w.heap.size w w' → PAt w' x v := by
  induction h with
  | mk k n s l a c vs hk hn hs hl hr hv ih =>
    intro w' hb
    exact .mk k n s l a c vs hk hn hs hl (hr.below hb (Nat.le_refl _)) fun j x hx => ih j x hx hb
theorem CellP.of {w : World} {b o : Nat} {v x0 x1 x2 x3 : Value} (h : CellP w b o v) (hv : v = .agg #[x0, x1, x2, x3]) : w.cell? ⟨b, o, none⟩ = some x0 ∧ w.cell? ⟨b, o + 1, none⟩ = some x1 ∧ w.cell? ⟨b, o + 2, none⟩ = some x2 ∧ w.cell? ⟨b, o + 3, none⟩ = some x3 := by
  obtain ⟨c0, c1, c2, c3, e, h0, h1, h2, h3⟩ := h
  rw [e] at hv
  simp only [Value.agg.injEq, Array.mk.injEq, List.cons.injEq, and_true] at hv
  obtain ⟨rfl, rfl, rfl, rfl⟩ := hv
  exact ⟨h0, h1, h2, h3⟩
theorem PAt.form {w : World} {x : PV} {v : Value} (h : PAt w x v) : ∃ (k n : Int) (s : ByteArray) (a : Option Addr) (m c : Nat), v = .agg #[.int .i64 k, .int .i64 n, .string s, .slice a m c] := by
  cases h; exact ⟨_, _, _, _, _, _, rfl⟩
theorem PAt.four {w : World} {x : PV} {v : Value} (h : PAt w x v) : ∃ c0 c1 c2 c3, v = .agg #[c0, c1, c2, c3] := by
  cases h; exact ⟨_, _, _, _, rfl⟩
/-! how many values a value has -/
mutual
def pcount : PV → Nat → Nat
  | .mk k n s l, d => if 6 < d then 6001 else if (k = 1 ∧ s.size = 0 ∧ l.length = 0) ∨ (k = 2 ∧ n = 0 ∧ l.length = 0) then 1 else if k ≠ 3 ∨ n ≠ 0 ∨ s.size ≠ 0 then 6001 else pcountL l (d + 1) 1
def pcountL : List PV → Nat → Nat → Nat
  | [], _, a => a
  | x :: t, d, a => if 6000 < a + pcount x d then 6001 else pcountL t d (a + pcount x d)
end
theorem pcountL_le : ∀ (l : List PV) (d a : Nat), a ≤ 6001 → pcountL l d a ≤ 6001
  | [], d, a, h => by unfold pcountL; exact h
  | x :: t, d, a, h => by
    unfold pcountL
    split
    · exact Nat.le_refl _
    · exact pcountL_le t d _ (by omega)
theorem pcount_le (x : PV) (d : Nat) : pcount x d ≤ 6001 := by
  cases x with
  | mk k n s l =>
    unfold pcount
    split
    · exact Nat.le_refl _
    · split
      · omega
      · split
        · exact Nat.le_refl _
        · exact pcountL_le _ _ _ (by omega)
theorem drop_cons {α : Type} {l : List α} {k : Nat} (h : k < l.length) : l.drop k = l[k] :: l.drop (k + 1) := by
  rw [List.drop_eq_getElem_cons h]
end Go.Proofs.YthbbfdlacclccaaDoor
namespace Go.Proofs.YthbbfdlacclccaaDoor
open Go.RowKit

theorem str_empty (s : ByteArray) : s.toList.isEmpty = true ↔ s.size = 0 := by
  rw [List.isEmpty_iff, ← List.length_eq_zero_iff, Lib.toList_data, Array.length_toList]
  rfl
/-- Which way pouch.count goes. -/
def way1 (k : Int) (bs bl : Bool) : Bool := (k == 1) && bs && bl
def way2 (k : Int) (bn bl : Bool) : Bool := (k == 2) && bn && bl
def way3 (k : Int) (bn bs : Bool) : Bool := (k != 3) || !bn || !bs
theorem pcount_way {k n : Int} {s : ByteArray} {l : List PV} {d : Nat} {bn bs bl : Bool} (hn : bn = true ↔ n = 0) (hs : bs = true ↔ s.size = 0) (hl : bl = true ↔ l.length = 0) (h6 : ¬ 6 < d) :
    pcount (.mk k n s l) d = if way1 k bs bl = true then 1 else if way2 k bn bl = true then 1 else if way3 k bn bs = true then 6001 else pcountL l (d + 1) 1 := by
  have e1 : way1 k bs bl = true ↔ k = 1 ∧ s.size = 0 ∧ l.length = 0 := by
    unfold way1; simp only [Bool.and_eq_true, beq_iff_eq, hs, hl, and_assoc]
  have e2 : way2 k bn bl = true ↔ k = 2 ∧ n = 0 ∧ l.length = 0 := by
    unfold way2; simp only [Bool.and_eq_true, beq_iff_eq, hn, hl, and_assoc]
  have e3 : way3 k bn bs = true ↔ k ≠ 3 ∨ n ≠ 0 ∨ s.size ≠ 0 := by
    unfold way3
    simp only [Bool.or_eq_true, bne_iff_ne, ne_eq, Bool.not_eq_true', ← Bool.not_eq_true, hn, hs, or_assoc]
  unfold pcount
  rw [if_neg h6]
  by_cases h1 : way1 k bs bl = true
  · rw [if_pos h1, if_pos (Or.inl (e1.1 h1))]
  · rw [if_neg h1]
    by_cases h2 : way2 k bn bl = true
    · rw [if_pos h2, if_pos (Or.inr (e2.1 h2))]
    · rw [if_neg h2, if_neg (fun h => h.elim (fun h => h1 (e1.2 h)) (fun h => h2 (e2.2 h)))]
      by_cases h3 : way3 k bn bs = true
      · rw [if_pos h3, if_pos (e3.1 h3)]
      · rw [if_neg h3, if_neg (fun h => h3 (e3.2 h))]
set_option maxRecDepth 100000 in
set_option maxHeartbeats 3200000 in
theorem count_any {w : World} {x : PV} {v : Value} (h : PAt w x v) : ∀ (d : Nat) (W : World), Below w.heap.size w W → d ≤ 100 →
    Calls Tryd.prog 27 #[v, .int .i64 d] W fun e w' => e = .returned (.int .i64 (pcount x d)) ∧ Below W.heap.size W w' := by
  induction h with
  | mk k n s l a c vs hk hn hs hl hr hv ih =>
    intro d W hb hd
    have hrW := hr.below hb (Nat.le_refl _)
    have HR := Lib.hid hrW
    clear hr hrW
    have HI := Lib.hid ih
    have HV := Lib.hid hv
    clear ih hv
    obtain ⟨bn, hbn⟩ : ∃ b, (n == 0) = b := ⟨_, rfl⟩
    obtain ⟨bs, hbs⟩ : ∃ b, s.toList.isEmpty = b := ⟨_, rfl⟩
    obtain ⟨bl, hbl⟩ : ∃ b, ((l.length : Int) == 0) = b := ⟨_, rfl⟩
    have n0 : bn = true ↔ n = 0 := by rw [← hbn]; simp
    have s0 : bs = true ↔ s.size = 0 := by rw [← hbs]; exact str_empty s
    have l0 : bl = true ↔ l.length = 0 := by rw [← hbl]; simp
    have N0 := Lib.hid n0
    have S0 := Lib.hid s0
    have L0 := Lib.hid l0
    have HBW : Hid (∀ nq, Below W.heap.size W ((W.alloc (.cells #[.int .i64 k, .int .i64 n, .string s, .slice a l.length c] 27)).drewN nq)) := Lib.hid fun nq => below_drewN (below_alloc (Below.refl _ _) _) nq
    clear n0 s0 l0
    by_cases h6 : 6 < d
    · have h6' : decide ((6 : Int) < (d : Int)) = true := decide_eq_true (by omega)
      have HP := Lib.hid (show pcount (.mk k n s l) d = 6001 by unfold pcount; rw [if_pos h6])
      go_enter Tryd.func27, Tryd.ntmps27
      go_wp2_with fail
      go_quiet (fail)
      go_wp2_with fail
      go_ret
      exact ⟨ret_int (by rw [HP.out]; rfl), HBW.out _⟩
    have h6' : decide ((6 : Int) < (d : Int)) = false := decide_eq_false (by omega)
    have HQ := Lib.hid (pcount_way (k := k) (l := l) (d := d) N0.out S0.out L0.out h6)
    go_enter Tryd.func27, Tryd.ntmps27
    go_wp2_with fail
    go_quiet (fail)
    go_upto_region 4 with fail
    have x0 : ((W.alloc (.cells #[.int .i64 k, .int .i64 n, .string s, .slice a l.length c] 27)).drewN nq).cell? ⟨W.heap.size, 0, none⟩ = some (.int .i64 k) := by simp [go_sem]
    have x3 : ((W.alloc (.cells #[.int .i64 k, .int .i64 n, .string s, .slice a l.length c] 27)).drewN nq).cell? ⟨W.heap.size, 3, none⟩ = some (.slice a l.length c) := by simp [go_sem]
    have HB1 := Lib.hid (HBW.out nq)
    clear HBW
    generalize ((W.alloc (.cells #[.int .i64 k, .int .i64 n, .string s, .slice a l.length c] 27)).drewN nq) = V at x0 x3 HB1 ⊢
    have X3 := Lib.hid x3
    clear x3 hbn hbs hbl
    go_cut [24] (fun v wx => v = .bool (way1 k bs bl) ∧ wx = V)
    case first =>
      by_cases h1 : k = 1
      · subst h1
        cases bs <;> (go_wp2_with fail; go_meet; exact ⟨rfl, rfl⟩)
      · have h1' : (k == 1) = false := by simpa using h1
        have HW := Lib.hid (show way1 k bs bl = false by unfold way1; rw [h1']; rfl)
        clear h1
        go_wp2_with fail
        go_meet
        exact ⟨by rw [HW.out], rfl⟩
    case rest =>
      obtain ⟨rfl, rfl⟩ := hcut
      obtain ⟨p1, hp1⟩ : ∃ b, way1 k bs bl = b := ⟨_, rfl⟩
      rw [hp1] at HQ ⊢
      clear hp1
      cases p1
      · go_upto_region 5 with fail
        go_cut [24] (fun v wx => v = .bool (way2 k bn bl) ∧ wx = wc)
        case first =>
          by_cases h1 : k = 2
          · subst h1
            cases bn <;> (go_wp2_with fail; go_meet; exact ⟨rfl, rfl⟩)
          · have h1' : (k == 2) = false := by simpa using h1
            have HW := Lib.hid (show way2 k bn bl = false by unfold way2; rw [h1']; rfl)
            clear h1
            go_wp2_with fail
            go_meet
            exact ⟨by rw [HW.out], rfl⟩
        case rest =>
          obtain ⟨rfl, rfl⟩ := hcut
          obtain ⟨p2, hp2⟩ : ∃ b, way2 k bn bl = b := ⟨_, rfl⟩
          rw [hp2] at HQ ⊢
          clear hp2
          cases p2
          · go_upto_region 7 with fail
            go_cut [43] (fun v wx => v = .bool (way3 k bn bs) ∧ wx = wc)
            case first =>
              by_cases h1 : k = 3
              · subst h1
                cases bn <;> (go_wp2_with fail; go_meet; exact ⟨rfl, rfl⟩)
              · have h1' : (k != 3) = true := by simpa using h1
                have HW := Lib.hid (show way3 k bn bs = true by unfold way3; rw [h1']; rfl)
                clear h1
                go_wp2_with fail
                go_meet
                exact ⟨by rw [HW.out], rfl⟩
            case rest =>
              obtain ⟨rfl, rfl⟩ := hcut
              obtain ⟨p3, hp3⟩ : ∃ b, way3 k bn bs = b := ⟨_, rfl⟩
              rw [hp3] at HQ ⊢
              clear hp3
              cases p3
              · have x3 := X3.out
                have HQ2 := Lib.hid (show pcount (.mk k n s l) d = pcountL l (d + 1) 1 from HQ.out)
                clear HQ
                go_wp2_with fail
                clear x0 x3
                go_loopw [8, 58] (fun nv i wr => ∃ j acc : Nat, j ≤ l.length ∧ i = .int .i64 j ∧ nv = .int .i64 acc ∧ acc ≤ 6000 ∧ pcountL (l.drop j) (d + 1) acc = pcountL l (d + 1) 1 ∧ Below W.heap.size W wr) (fun _ i _ => l.length - (intOf i).toNat)
                case atStart => exact ⟨0, 1, Nat.zero_le _, rfl, rfl, by omega, rfl, HB1.out⟩
                case round =>
                  obtain ⟨j, acc, hj, rfl, rfl, hacc, hL, hB⟩ := hrel
                  have HL := Lib.hid hL
                  have HB := Lib.hid hB
                  clear HB1 X3 hL hB
                  by_cases hlt : j < l.length
                  · rcases HR.out with h | ⟨b, off, rfl, hbs, hc⟩
                    · omega
                    obtain ⟨k', n', s', a', m', c', hvj⟩ := (HV.out j l[j] (List.getElem?_eq_getElem hlt)).form
                    obtain ⟨y0, y1, y2, y3⟩ := ((hc j hlt).below HB.out hbs).of hvj
                    have HX := Lib.hid (HI.out j l[j] (List.getElem?_eq_getElem hlt) (d + 1))
                    rw [hvj] at HX
                    have HD := Lib.hid (show pcountL (l.drop j) (d + 1) acc = if 6000 < acc + pcount l[j] (d + 1) then 6001 else pcountL (l.drop (j + 1)) (d + 1) (acc + pcount l[j] (d + 1)) by rw [drop_cons hlt]; conv => lhs; unfold pcountL)
                    have hle := pcount_le l[j] (d + 1)
                    obtain ⟨q, hq⟩ : ∃ q, pcount l[j] (d + 1) = q := ⟨_, rfl⟩
                    rw [hq] at HX HD hle
                    clear hq hc hvj
                    have hlow : Below w.heap.size w wr := hb.trans (HB.out.mono hb.size)
                    have HLo := Lib.hid hlow
                    clear hlow
                    go_upto_region 14 with (go_at_call 27; refine (HX.out _ (HLo.out.alloc HLo.out.size _) (by omega)).mono ?_; rintro e' w' ⟨rfl, hb2⟩; have HB2 := Lib.hid (HB.out.trans (((Below.refl _ _).alloc HB.out.size _).trans (hb2.mono (by have := HB.out.size; simp; omega)))); clear hb2)
                    by_cases hbig : 6000 < acc + q
                    · have hbig' : decide ((6000 : Int) < (acc : Int) + (q : Int)) = true := decide_eq_true (by omega)
                      have HE := Lib.hid (show pcount (.mk k n s l) d = 6001 by rw [HQ2.out, ← HL.out, HD.out, if_pos hbig])
                      go_wp2_with fail
                      go_ret
                      exact ⟨ret_int (by rw [HE.out]; rfl), HB2.out⟩
                    · have hbig' : decide ((6000 : Int) < (acc : Int) + (q : Int)) = false := decide_eq_false (by omega)
                      have HE := Lib.hid (show pcountL (l.drop (j + 1)) (d + 1) (acc + q) = pcountL l (d + 1) 1 by rw [← HL.out, HD.out, if_neg hbig])
                      go_wp2_with fail
                      go_roundw
                      case rel => exact ⟨j + 1, acc + q, by omega, by go_num, by go_num, by omega, HE.out, HB2.out⟩
                      case measure => simp [intOf]; omega
                  · obtain rfl : j = l.length := by omega
                    have HE := Lib.hid (show pcount (.mk k n s l) d = acc by rw [HQ2.out, ← HL.out, List.drop_length]; rfl)
                    go_wp2_with fail
                    go_ret
                    exact ⟨ret_int (by rw [HE.out]), HB.out⟩
              · go_wp2_with fail
                go_ret
                exact ⟨ret_int (by rw [HQ.out]; rfl), HB1.out⟩
          · go_wp2_with fail
            go_ret
            exact ⟨ret_int (by rw [HQ.out]; rfl), HB1.out⟩
      · go_wp2_with fail
        go_ret
        exact ⟨ret_int (by rw [HQ.out]; rfl), HB1.out⟩
end Go.Proofs.YthbbfdlacclccaaDoor
namespace Go.Proofs.YthbbfdlacclccaaDoor
open Go.RowKit

def pmay (x : PV) : Bool := decide (pcount x 1 ≤ 6000)
set_option maxRecDepth 100000 in
set_option maxHeartbeats 800000 in
theorem may_pv {w : World} {x : PV} {v : Value} (h : PAt w x v) : Calls Tryd.prog 18 #[v] w fun e w' => e = .returned (.bool (pmay x)) ∧ Below w.heap.size w w' := by
  obtain ⟨k, n, s, a, m, c, rfl⟩ := h.form
  obtain ⟨q, hq⟩ : ∃ q, pcount x 1 = q := ⟨_, rfl⟩
  have HC := Lib.hid (count_any h 1)
  rw [hq] at HC
  have HP := Lib.hid (show pmay x = decide ((q : Int) ≤ 6000) by unfold pmay; rw [hq]; congr 1; rw [eq_iff_iff]; omega)
  have HB : Hid (Below w.heap.size w (w.alloc (.cells #[.int .i64 k, .int .i64 n, .string s, .slice a m c] 27))) := Lib.hid (below_alloc (Below.refl _ _) _)
  clear h hq
  go_enter Tryd.func18, Tryd.ntmps18
  go_wp2_with (go_at_call 27; refine (HC.out _ HB.out (by omega)).mono ?_; rintro e' w' ⟨rfl, hb2⟩; have HB2 := Lib.hid (below_on HB.out hb2); clear hb2)
  go_ret
  exact ⟨ret_bool HP.out.symm, HB2.out⟩
mutual
def peq : PV → PV → Bool
  | .mk k n s l, .mk k' n' s' l' => (k == k') && (n == n') && (s.toList == s'.toList) && peqL l l'
def peqL : List PV → List PV → Bool
  | [], [] => true
  | x :: t, y :: u => peq x y && peqL t u
  | [], _ :: _ => false
  | _ :: _, [] => false
end
mutual
theorem peq_iff : ∀ (x y : PV), peq x y = true ↔ x = y
  | .mk k n s l, .mk k' n' s' l' => by
    unfold peq
    simp only [Bool.and_eq_true, beq_iff_eq, PV.mk.injEq, peqL_iff l l', and_assoc]
    have : s.toList = s'.toList ↔ s = s' := by
      constructor
      · intro h; rw [Lib.toList_data, Lib.toList_data] at h; exact ByteArray.ext (Array.toList_inj.1 h)
      · rintro rfl; rfl
    rw [this]
theorem peqL_iff : ∀ (l l' : List PV), peqL l l' = true ↔ l = l'
  | [], [] => by simp [peqL]
  | x :: t, y :: u => by
    unfold peqL
    simp only [Bool.and_eq_true, List.cons.injEq, peq_iff x y, peqL_iff t u]
  | [], _ :: _ => by simp [peqL]
  | _ :: _, [] => by simp [peqL]
end
theorem peqL_len {l l' : List PV} (h : l.length ≠ l'.length) : peqL l l' = false := by
  rw [← Bool.not_eq_true, peqL_iff]; rintro rfl; exact h rfl
theorem peqL_step {l l' : List PV} {j : Nat} (h : j < l.length) (h' : j < l'.length) : peqL (l.drop j) (l'.drop j) = (peq l[j] l'[j] && peqL (l.drop (j + 1)) (l'.drop (j + 1))) := by
  rw [drop_cons h, drop_cons h']
  conv => lhs; unfold peqL
set_option maxRecDepth 100000 in
set_option maxHeartbeats 1600000 in
theorem equalFunc_pv {W : World} (l l' : List PV) (a a' : Option Addr) (c c' : Nat) (vs vs' : Nat → Value) (hl : l.length ≤ 9223372036854775807) (hr : RowP W a l.length vs) (hr' : RowP W a' l'.length vs')
    (hf : ∀ j, j < l.length → ∃ (k n : Int) (s : ByteArray) (a : Option Addr) (m c : Nat), vs j = .agg #[.int .i64 k, .int .i64 n, .string s, .slice a m c]) (hf' : ∀ j, j < l'.length → ∃ (k n : Int) (s : ByteArray) (a : Option Addr) (m c : Nat), vs' j = .agg #[.int .i64 k, .int .i64 n, .string s, .slice a m c])
    (hE : ∀ j (h : j < l.length) (h' : j < l'.length), ∀ W', Below W.heap.size W W' → Calls Tryd.prog 13 #[vs j, vs' j] W' fun e w' => e = .returned (.bool (peq l[j] l'[j])) ∧ Below W'.heap.size W' w') :
    Calls Tryd.prog 23 #[.slice a l.length c, .slice a' l'.length c', .func (.func 13) #[] #[]] W fun e w' => e = .returned (.bool (peqL l l')) ∧ Below W.heap.size W w' := by
  by_cases hlen : l.length = l'.length
  · have hne : ((l.length : Int) != (l'.length : Int)) = false := by simp; omega
    have HLen := Lib.hid hlen
    have HR := Lib.hid hr
    have HR' := Lib.hid hr'
    have HF := Lib.hid hf
    have HF' := Lib.hid hf'
    have HE := Lib.hid hE
    clear hlen hr hr' hf hf' hE
    go_enter Tryd.func23, Tryd.ntmps23
    go_wp2_with fail
    go_loopw [17] (fun i wr => ∃ j : Nat, j ≤ l.length ∧ i = .int .i64 j ∧ peqL (l.drop j) (l'.drop j) = peqL l l' ∧ Below W.heap.size W wr) (fun i _ => l.length - (intOf i).toNat)
    case atStart => exact ⟨0, Nat.zero_le _, rfl, rfl, Below.refl _ _⟩
    case round =>
      obtain ⟨j, hj, rfl, hP, hB⟩ := hrel
      have HP := Lib.hid hP
      have HB := Lib.hid hB
      clear hP hB
      by_cases hlt : j < l.length
      · have hlt' : j < l'.length := by have := HLen.out; omega
        have hi' : (j : Int) < (l'.length : Int) := by omega
        rcases HR.out with h | ⟨b, off, rfl, hbs, hc⟩
        · omega
        rcases HR'.out with h | ⟨b', off', rfl, hbs', hc'⟩
        · omega
        obtain ⟨k1, n1, s1, a1, m1, c1, hv1⟩ := HF.out j hlt
        obtain ⟨k2, n2, s2, a2, m2, c2, hv2⟩ := HF'.out j hlt'
        obtain ⟨y0, y1, y2, y3⟩ := ((hc j hlt).below HB.out hbs).of hv1
        obtain ⟨z0, z1, z2, z3⟩ := ((hc' j hlt').below (below_alloc HB.out (.cells #[.int .i64 k1, .int .i64 n1, .string s1, .slice a1 m1 c1] 27)) hbs').of hv2
        have HX := Lib.hid (HE.out j hlt hlt')
        rw [hv1, hv2] at HX
        have hst := peqL_step hlt hlt'
        obtain ⟨q, hq⟩ : ∃ q, peq l[j] l'[j] = q := ⟨_, rfl⟩
        rw [hq] at HX hst
        have HS := Lib.hid hst
        clear hq hc hc' hv1 hv2 hst
        have B2 : Hid (Below W.heap.size W ((wr.alloc (.cells #[.int .i64 k1, .int .i64 n1, .string s1, .slice a1 m1 c1] 27)).alloc (.cells #[.int .i64 k2, .int .i64 n2, .string s2, .slice a2 m2 c2] 27))) := Lib.hid (below_alloc (below_alloc HB.out _) _)
        cases q
        · have HE0 := Lib.hid (show peqL l l' = false by rw [← HP.out, HS.out]; rfl)
          go_wp2_with (go_at_call 13; refine (HX.out _ B2.out).mono ?_; rintro e' w' ⟨rfl, hb2⟩; have HB3 := Lib.hid (below_on B2.out hb2); clear hb2)
          go_ret
          exact ⟨ret_bool HE0.out.symm, HB3.out⟩
        · have HE0 := Lib.hid (show peqL (l.drop (j + 1)) (l'.drop (j + 1)) = peqL l l' by rw [← HP.out, HS.out]; rfl)
          go_wp2_with (go_at_call 13; refine (HX.out _ B2.out).mono ?_; rintro e' w' ⟨rfl, hb2⟩; have HB3 := Lib.hid (below_on B2.out hb2); clear hb2)
          go_roundw
          case rel => exact ⟨j + 1, by omega, by go_num, HE0.out, HB3.out⟩
          case measure => simp [intOf]; omega
      · obtain rfl : j = l.length := by omega
        have HE0 := Lib.hid (show peqL l l' = true by rw [← HP.out, List.drop_length, HLen.out, List.drop_length]; rfl)
        go_wp2_with fail
        go_ret
        exact ⟨ret_bool HE0.out.symm, HB.out⟩
  · have hne : ((l.length : Int) != (l'.length : Int)) = true := by simp; omega
    have HE := Lib.hid (peqL_len hlen)
    clear hlen hr hr' hf hf' hE
    go_enter Tryd.func23, Tryd.ntmps23
    go_wp2_with fail
    go_ret
    exact ⟨ret_bool HE.out.symm, Below.refl _ _⟩
set_option maxRecDepth 100000 in
set_option maxHeartbeats 1600000 in
theorem eq_pv {w : World} {x : PV} {v : Value} (h : PAt w x v) : ∀ (y : PV) (u : Value) (W : World), PAt W y u → Below w.heap.size w W →
    Calls Tryd.prog 13 #[v, u] W fun e w' => e = .returned (.bool (peq x y)) ∧ Below W.heap.size W w' := by
  induction h with
  | mk k n s l a c vs hk hn hs hl hr hv ih =>
    intro y u W hy hb
    cases hy with
    | mk k' n' s' l' a' c' vs' hk' hn' hs' hl' hr' hv' =>
    obtain ⟨b1, hb1⟩ : ∃ b, (k == k') = b := ⟨_, rfl⟩
    obtain ⟨b2, hb2⟩ : ∃ b, (n == n') = b := ⟨_, rfl⟩
    obtain ⟨b3, hb3⟩ : ∃ b, (s.toList == s'.toList) = b := ⟨_, rfl⟩
    have HP := Lib.hid (show peq (.mk k n s l) (.mk k' n' s' l') = (b1 && b2 && b3 && peqL l l') by unfold peq; rw [hb1, hb2, hb3])
    have B2 : Hid (Below W.heap.size W ((W.alloc (.cells #[.int .i64 k, .int .i64 n, .string s, .slice a l.length c] 27)).alloc (.cells #[.int .i64 k', .int .i64 n', .string s', .slice a' l'.length c'] 27))) := Lib.hid (below_alloc (below_alloc (Below.refl _ _) _) _)
    have HR := Lib.hid ((hr.below hb (Nat.le_refl _)).below B2.out (Nat.le_refl _))
    have HR' := Lib.hid (hr'.below B2.out (Nat.le_refl _))
    have HF := Lib.hid (show ∀ j, j < l.length → ∃ (k n : Int) (s : ByteArray) (a : Option Addr) (m c : Nat), vs j = .agg #[.int .i64 k, .int .i64 n, .string s, .slice a m c] from fun j hj => (hv j l[j] (List.getElem?_eq_getElem hj)).form)
    have HF' := Lib.hid (show ∀ j, j < l'.length → ∃ (k n : Int) (s : ByteArray) (a : Option Addr) (m c : Nat), vs' j = .agg #[.int .i64 k, .int .i64 n, .string s, .slice a m c] from fun j hj => (hv' j l'[j] (List.getElem?_eq_getElem hj)).form)
    have HE := Lib.hid (show ∀ j (h : j < l.length) (h' : j < l'.length), ∀ W', Below (((W.alloc (.cells #[.int .i64 k, .int .i64 n, .string s, .slice a l.length c] 27)).alloc (.cells #[.int .i64 k', .int .i64 n', .string s', .slice a' l'.length c'] 27))).heap.size ((W.alloc (.cells #[.int .i64 k, .int .i64 n, .string s, .slice a l.length c] 27)).alloc (.cells #[.int .i64 k', .int .i64 n', .string s', .slice a' l'.length c'] 27)) W' → Calls Tryd.prog 13 #[vs j, vs' j] W' fun e w' => e = .returned (.bool (peq l[j] l'[j])) ∧ Below W'.heap.size W' w' from
      fun j h h' W' hW => ih j l[j] (List.getElem?_eq_getElem h) l'[j] (vs' j) W' ((hv' j l'[j] (List.getElem?_eq_getElem h')).keep (below_on B2.out hW)) (hb.trans ((below_on B2.out hW).mono hb.size)))
    clear hr hr' hv hv' ih hb
    cases b1
    · go_enter Tryd.func13, Tryd.ntmps13
      go_wp2_with fail
      go_ret
      exact ⟨ret_bool (by rw [HP.out]; rfl), B2.out⟩
    cases b2
    · go_enter Tryd.func13, Tryd.ntmps13
      go_wp2_with fail
      go_ret
      exact ⟨ret_bool (by rw [HP.out]; rfl), B2.out⟩
    cases b3
    · go_enter Tryd.func13, Tryd.ntmps13
      go_wp2_with fail
      go_ret
      exact ⟨ret_bool (by rw [HP.out]; rfl), B2.out⟩
    · go_enter Tryd.func13, Tryd.ntmps13
      go_wp2_with (go_at_call 23; refine (equalFunc_pv l l' _ _ _ _ _ _ hl HR.out HR'.out HF.out HF'.out HE.out).mono ?_; rintro e' w' ⟨rfl, hb2⟩; have HB3 := Lib.hid (below_on B2.out hb2); clear hb2)
      go_ret
      exact ⟨ret_bool (by rw [HP.out]; rfl), HB3.out⟩
end Go.Proofs.YthbbfdlacclccaaDoor

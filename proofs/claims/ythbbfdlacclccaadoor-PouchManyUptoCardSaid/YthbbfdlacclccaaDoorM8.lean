/- Walk of pouch.size. Walk of pouch.number. Values whose rows lie in known blocks; rows of values of the call's own. -/
import Derived.Test.YthbbfdlacclccaaDoorM7
import Derived.Lib.AtoiErrMem
import Derived.Lib.ParseIntBTie
namespace Go.Proofs.YthbbfdlacclccaaDoor
open Go.RowKit

/-- A length and its colon: the length, how many bytes, the error. -/
def sizeR : List UInt8 → Nat → Nat → Nat × Nat × Nat
  | [], _, _ => (0, 0, 2)
  | c :: t, i, n => if c.toNat = 58 ∧ 0 < i then (n, i + 1, 0) else if c.toNat < 48 ∨ 57 < c.toNat ∨ 7 ≤ i ∨ (0 < i ∧ n = 0) then (0, 0, 1) else sizeR t (i + 1) (10 * n + (c.toNat - 48))
def sizeP (l : List UInt8) : Nat × Nat × Nat := sizeR l 0 0
theorem sizeR_bd : ∀ (l : List UInt8) (i n : Nat), n < 10 ^ i → i ≤ 7 → (sizeR l i n).1 < 10000000 ∧ (sizeR l i n).2.1 ≤ 8 ∧ (sizeR l i n).2.2 ≤ 2
  | [], _, _, _, _ => by unfold sizeR; decide
  | c :: t, i, n, hn, hi => by
    unfold sizeR
    have h7 : 10 ^ i ≤ 10 ^ 7 := Nat.pow_le_pow_right (by decide) hi
    split
    · exact ⟨by simp only; omega, by simp only; omega, by simp only; omega⟩
    · split
      · decide
      · rename_i h1 h2
        refine sizeR_bd t _ _ ?_ (by omega)
        rw [Nat.pow_succ]; omega
set_option maxRecDepth 100000 in
set_option maxHeartbeats 1600000 in
theorem size_any (s : ByteArray) (w : World) (_hs : s.size ≤ 9223372036854775807) :
    Calls Tryd.prog 33 #[.string s] w fun e w' => e = .returned (.tuple #[.int .i64 (sizeP s.data.toList).1, .int .i64 (sizeP s.data.toList).2.1, .int .i64 (sizeP s.data.toList).2.2]) ∧ w = w' := by
  obtain ⟨r, hr'⟩ : ∃ r, sizeP s.data.toList = r := ⟨_, rfl⟩
  have HR := Lib.hid hr'
  rw [hr']
  clear hr'
  go_enter Tryd.func33, Tryd.ntmps33
  go_wp2_with fail
  go_loop [5, 10] (fun nv i => ∃ k n : Nat, k ≤ s.size ∧ k ≤ 7 ∧ n < 10 ^ k ∧ i = .int .i64 k ∧ nv = .int .i64 n ∧ sizeR (s.data.toList.drop k) k n = r) (fun _ i => s.size - (intOf i).toNat)
  case atStart => exact ⟨0, 0, Nat.zero_le _, by omega, by decide, rfl, rfl, HR.out⟩
  case round =>
    obtain ⟨k, n, hk, hk7, hn, rfl, rfl, hr⟩ := hrel
    have hn7 : n < 10000000 := by have h7 : 10 ^ k ≤ 10 ^ 7 := Nat.pow_le_pow_right (by decide) hk7; omega
    have HS := Lib.hid hr
    clear HR hr
    by_cases hlt : k < s.size
    · have hkl : k < s.data.toList.length := by simpa using hlt
      have HD := Lib.hid (drop_cons hkl)
      have q0 : (k : Int) < (s.size : Int) := by omega
      obtain ⟨c, hc⟩ : ∃ n, (s[k]).toNat = n := ⟨_, rfl⟩
      have HC := Lib.hid (show (s.data.toList[k]).toNat = c from hc)
      have hc256 : c < 256 := by rw [← hc]; exact (s[k]).toNat_lt
      rw [HD.out] at HS
      have HS2 : Hid ((if c = 58 ∧ 0 < k then (n, k + 1, 0) else if c < 48 ∨ 57 < c ∨ 7 ≤ k ∨ (0 < k ∧ n = 0) then (0, 0, 1) else sizeR (s.data.toList.drop (k + 1)) (k + 1) (10 * n + (c - 48))) = r) := Lib.hid (by
        have := HS.out
        unfold sizeR at this
        rw [HC.out] at this
        exact this)
      clear HS HD
      by_cases h1 : c = 58 ∧ 0 < k
      · have HF := Lib.hid (show r = (n, k + 1, 0) from (HS2.out.symm.trans (if_pos h1)))
        obtain ⟨h1a, h1b⟩ := h1
        have e1 : ((c : Int) == 58) = true := by simp; omega
        have e2 : decide ((0 : Int) < (k : Int)) = true := decide_eq_true (by omega)
        have e2n : decide (0 < k) = true := decide_eq_true (by omega)
        clear h1a
        go_wp2_with fail
        go_ret3
        rw [HF.out]
        exact ⟨by simp, rfl⟩
      by_cases h2 : c < 48 ∨ 57 < c ∨ 7 ≤ k ∨ (0 < k ∧ n = 0)
      · have HF := Lib.hid (show r = (0, 0, 1) from (HS2.out.symm.trans ((if_neg h1).trans (if_pos h2))))
        by_cases h58 : c = 58
        · have e1 : ((c : Int) == 58) = true := by simp; omega
          have e2 : decide ((0 : Int) < (k : Int)) = false := decide_eq_false (by omega)
          have e2n : decide (0 < k) = false := decide_eq_false (by omega)
          have e3 : decide ((c : Int) < 48) = false := decide_eq_false (by omega)
          have e3n : decide (c < 48) = false := decide_eq_false (by omega)
          have e4 : decide ((57 : Int) < (c : Int)) = true := decide_eq_true (by omega)
          have e4n : decide (57 < c) = true := decide_eq_true (by omega)
          clear h1 h2 h58
          go_wp2_with fail
          go_ret3
          rw [HF.out]
          exact ⟨rfl, rfl⟩
        have e1 : ((c : Int) == 58) = false := by simp; omega
        by_cases h48 : c < 48
        · have e3 : decide ((c : Int) < 48) = true := decide_eq_true (by omega)
          have e3n : decide (c < 48) = true := decide_eq_true (by omega)
          clear h1 h2 h58
          go_wp2_with fail
          go_ret3
          rw [HF.out]
          exact ⟨rfl, rfl⟩
        have e3 : decide ((c : Int) < 48) = false := decide_eq_false (by omega)
        have e3n : decide (c < 48) = false := decide_eq_false (by omega)
        by_cases h57 : 57 < c
        · have e4 : decide ((57 : Int) < (c : Int)) = true := decide_eq_true (by omega)
          have e4n : decide (57 < c) = true := decide_eq_true (by omega)
          clear h1 h2 h58 h48
          go_wp2_with fail
          go_ret3
          rw [HF.out]
          exact ⟨rfl, rfl⟩
        have e4 : decide ((57 : Int) < (c : Int)) = false := decide_eq_false (by omega)
        have e4n : decide (57 < c) = false := decide_eq_false (by omega)
        by_cases h7 : 7 ≤ k
        · have e5 : decide ((7 : Int) ≤ (k : Int)) = true := decide_eq_true (by omega)
          have e5n : decide (7 ≤ k) = true := decide_eq_true (by omega)
          clear h1 h2 h58 h48 h57
          go_wp2_with fail
          go_ret3
          rw [HF.out]
          exact ⟨rfl, rfl⟩
        have e5 : decide ((7 : Int) ≤ (k : Int)) = false := decide_eq_false (by omega)
        have e5n : decide (7 ≤ k) = false := decide_eq_false (by omega)
        have e6 : decide ((0 : Int) < (k : Int)) = true := decide_eq_true (by omega)
        have e6n : decide (0 < k) = true := decide_eq_true (by omega)
        have e7 : ((n : Int) == 0) = true := by simp; omega
        have e7n : (n == 0) = true := by simp; omega
        clear h1 h2 h58 h48 h57 h7
        go_wp2_with fail
        go_ret3
        rw [HF.out]
        exact ⟨rfl, rfl⟩
      · have HF := Lib.hid (show sizeR (s.data.toList.drop (k + 1)) (k + 1) (10 * n + (c - 48)) = r from ((if_neg h1).trans (if_neg h2)).symm.trans HS2.out)
        have e1 : ((c : Int) == 58) = false := by simp; omega
        have e3 : decide ((c : Int) < 48) = false := decide_eq_false (by omega)
        have e3n : decide (c < 48) = false := decide_eq_false (by omega)
        have e4 : decide ((57 : Int) < (c : Int)) = false := decide_eq_false (by omega)
        have e4n : decide (57 < c) = false := decide_eq_false (by omega)
        have e5 : decide ((7 : Int) ≤ (k : Int)) = false := decide_eq_false (by omega)
        have e5n : decide (7 ≤ k) = false := decide_eq_false (by omega)
        have hc48 : (48 : Int) ≤ (c : Int) := by omega
        have hc57 : (c : Int) ≤ 57 := by omega
        have hn10 : 10 * n + (c - 48) < 10 ^ (k + 1) := by rw [Nat.pow_succ]; omega
        have HN := Lib.hid hn10
        have HT := Lib.hid (show (10 : Int) * (n : Int) + ((c : Int) - 48) = ((10 * n + (c - 48) : Nat) : Int) by omega)
        have hk7' : k + 1 ≤ 7 := by omega
        clear hn10
        by_cases hk0 : k = 0
        · have e6 : decide ((0 : Int) < (k : Int)) = false := decide_eq_false (by omega)
          have e6n : decide (0 < k) = false := decide_eq_false (by omega)
          clear h1 h2 hk0
          go_wp2_with fail
          go_round
          case rel => exact ⟨k + 1, _, by omega, hk7', HN.out, by go_num, by rw [← HT.out], HF.out⟩
          case measure => simp [intOf]; omega
        · have e6 : decide ((0 : Int) < (k : Int)) = true := decide_eq_true (by omega)
          have e6n : decide (0 < k) = true := decide_eq_true (by omega)
          have e7 : ((n : Int) == 0) = false := by simp; omega
          have e7n : (n == 0) = false := by simp; omega
          clear h1 h2 hk0
          go_wp2_with fail
          go_round
          case rel => exact ⟨k + 1, _, by omega, hk7', HN.out, by go_num, by rw [← HT.out], HF.out⟩
          case measure => simp [intOf]; omega
    · have HF := Lib.hid (show r = (0, 0, 2) from by
        have := HS.out
        rw [List.drop_of_length_le (by simp; omega)] at this
        exact this.symm)
      go_wp2_with fail
      go_ret3
      rw [HF.out]
      exact ⟨rfl, rfl⟩
end Go.Proofs.YthbbfdlacclccaaDoor
namespace Go.Proofs.YthbbfdlacclccaaDoor
open Go.RowKit

/-- The library's listed variables stand as they were laid. -/
def Laid (w : World) : Prop := Tab w ∧ (∃ tp p, w.var? Tryd.prog "strconv.ErrSyntax" = some #[.iface tp p]) ∧ (∃ tp p, w.var? Tryd.prog "strconv.ErrRange" = some #[.iface tp p])
theorem var_keep {w w' : World} {name : String} {cs : Array Value} (h : w.var? Tryd.prog name = some cs) (hb : Below w.heap.size w w') : w'.var? Tryd.prog name = some cs := by
  unfold World.var? at *
  cases hg : Tryd.prog.globalNamed name with
  | none => rw [hg] at h; simp at h
  | some g =>
    rw [hg] at h
    simp only [Option.bind_some] at h ⊢
    by_cases hlt : g < w.heap.size
    · rw [hb.block g hlt]; exact h
    · rw [Array.getElem?_eq_none (by omega)] at h; simp at h
theorem Laid.keep {w w' : World} (h : Laid w) (hb : Below w.heap.size w w') : Laid w' := by
  obtain ⟨h1, ⟨t1, p1, h2⟩, ⟨t2, p2, h3⟩⟩ := h
  exact ⟨h1.keep hb, ⟨t1, p1, var_keep h2 hb⟩, ⟨t2, p2, var_keep h3 hb⟩⟩
theorem parse_ok (s : ByteArray) (v : Int) (w : World) (hs : s.size ≤ 140737488355328) (h : Lib.parseIntB 64 s.data.toList = .ok v) :
    Calls Tryd.prog 43 #[.string s, .int .i64 10, .int .i64 64] w fun e w' => e = .returned (.tuple #[.int .i64 v, .nilIface]) ∧ Below w.heap.size w w' := by
  refine (Tryd.strconv_ParseInt_10_at64_ok s (by omega) v h w).mono ?_
  rintro e w' ⟨rfl, rfl | ⟨t, rfl⟩⟩
  · exact ⟨rfl, Below.refl _ _⟩
  · exact ⟨rfl, Lib.bytesWorld_below _ _ _⟩
theorem parse_bad (s : ByteArray) (w : World) (hs : s.size ≤ 140737488355328) (L : Laid w) (h : ∀ v, Lib.parseIntB 64 s.data.toList ≠ .ok v) :
    Calls Tryd.prog 43 #[.string s, .int .i64 10, .int .i64 64] w fun e w' => ∃ (n : Int) (N : Nat), e = .returned (.tuple #[.int .i64 n, .iface 99 (.pointer (some ⟨N, 0, none⟩))]) ∧ Below w.heap.size w w' := by
  obtain ⟨_, ⟨t1, p1, h2⟩, ⟨t2, p2, h3⟩⟩ := L
  rcases hp : Lib.parseIntB 64 s.data.toList with v | _ | _
  · exact absurd hp (h v)
  · refine (Tryd.strconv_ParseInt_10_at64_syntax_var s (by omega) hp t1 p1 w h2).mono ?_
    rintro e w' ⟨N, rfl, _, _, hb⟩
    exact ⟨_, N, rfl, hb⟩
  · refine (Tryd.strconv_ParseInt_10_at64_range_var s (by omega) hp t2 p2 w h3).mono ?_
    rintro e w' ⟨N, rfl, _, _, hb⟩
    exact ⟨_, N, rfl, hb⟩
/-- The value nought. -/
def pz : PV := .mk 0 0 ⟨#[]⟩ []
def pzV : Value := .agg #[.int .i64 0, .int .i64 0, .string ⟨#[]⟩, .slice none 0 0]
theorem pz_at (w : World) : PAt w pz pzV := .mk 0 0 ⟨#[]⟩ [] none 0 (fun _ => undef) (by decide) (by decide) (by decide) (by decide) (Or.inl rfl) (fun j x h => by simp at h)
/-- A number as it is written. -/
def numP (l : List UInt8) : Option Int := match Lib.parseIntB 64 l with
  | .ok v => if Lib.itoa v = l then some v else none
  | _ => none
/-- A box of four cells that may be written. -/
def Box4 (B : Nat) (c0 c1 c2 c3 : Value) (W : World) : Prop := (W.cell? ⟨B, 0, none⟩ = some c0 ∧ W.cell? ⟨B, 1, none⟩ = some c1 ∧ W.cell? ⟨B, 2, none⟩ = some c2 ∧ W.cell? ⟨B, 3, none⟩ = some c3) ∧
  W.frozen? ⟨B, 0, none⟩ = false ∧ W.frozen? ⟨B, 1, none⟩ = false ∧ W.frozen? ⟨B, 2, none⟩ = false ∧ W.frozen? ⟨B, 3, none⟩ = false
theorem Box4.keep {B : Nat} {c0 c1 c2 c3 : Value} {W W' : World} (h : Box4 B c0 c1 c2 c3 W) (hb : Below W.heap.size W W') : Box4 B c0 c1 c2 c3 W' :=
  ⟨⟨cell_keep hb h.1.1, cell_keep hb h.1.2.1, cell_keep hb h.1.2.2.1, cell_keep hb h.1.2.2.2⟩, frozen_keep hb h.1.1 h.2.1, frozen_keep hb h.1.2.1 h.2.2.1, frozen_keep hb h.1.2.2.1 h.2.2.2.1, frozen_keep hb h.1.2.2.2 h.2.2.2.2⟩
theorem Box4.new (W : World) (c0 c1 c2 c3 : Value) (t : TypeId) : Box4 W.heap.size c0 c1 c2 c3 (W.alloc (.cells #[c0, c1, c2, c3] t)) := by
  refine ⟨⟨?_, ?_, ?_, ?_⟩, ?_, ?_, ?_, ?_⟩ <;> simp [go_sem]
/-- What four stores leave. -/
theorem set_four {W : World} {B : Nat} {c0 c1 c2 c3 : Value} (u0 u1 u2 u3 : Value) (h : Box4 B c0 c1 c2 c3 W) :
    (W.setCell ⟨B, 0, none⟩ u0).cell? ⟨B, 0, none⟩ = some u0 ∧ ((W.setCell ⟨B, 0, none⟩ u0).setCell ⟨B, 1, none⟩ u1).cell? ⟨B, 1, none⟩ = some u1 ∧
    (((W.setCell ⟨B, 0, none⟩ u0).setCell ⟨B, 1, none⟩ u1).setCell ⟨B, 2, none⟩ u2).cell? ⟨B, 2, none⟩ = some u2 ∧
    ((((W.setCell ⟨B, 0, none⟩ u0).setCell ⟨B, 1, none⟩ u1).setCell ⟨B, 2, none⟩ u2).setCell ⟨B, 3, none⟩ u3).cell? ⟨B, 3, none⟩ = some u3 := by
  obtain ⟨⟨h0, h1, h2, h3⟩, -⟩ := h
  refine ⟨World.cell?_setCell_same _ _ _ h0, World.cell?_setCell_same _ _ _ (u := c1) ?_, World.cell?_setCell_same _ _ _ (u := c2) ?_, World.cell?_setCell_same _ _ _ (u := c3) ?_⟩
  · rw [World.cell?_setCell_other _ _ _ _ (by simp)]; exact h1
  · rw [World.cell?_setCell_other _ _ _ _ (by simp), World.cell?_setCell_other _ _ _ _ (by simp)]; exact h2
  · rw [World.cell?_setCell_other _ _ _ _ (by simp), World.cell?_setCell_other _ _ _ _ (by simp), World.cell?_setCell_other _ _ _ _ (by simp)]; exact h3
theorem below_set4 {B b : Nat} {a w : World} (h : Below B a w) (hb : B ≤ b) (u v x y : Value) : Below B a ((((w.setCell ⟨b, 0, none⟩ u).setCell ⟨b, 1, none⟩ v).setCell ⟨b, 2, none⟩ x).setCell ⟨b, 3, none⟩ y) :=
  (((h.setCell (p := ⟨b, 0, none⟩) hb u).setCell (p := ⟨b, 1, none⟩) hb v).setCell (p := ⟨b, 2, none⟩) hb x).setCell (p := ⟨b, 3, none⟩) hb y
def numV : Option Int → Value
  | some v => .tuple #[.agg #[.int .i64 1, .int .i64 v, .string ⟨#[]⟩, .slice none 0 0], .int .i64 0]
  | none => .tuple #[pzV, .int .i64 1]
set_option maxRecDepth 100000 in
set_option maxHeartbeats 1600000 in
theorem number_any (s : ByteArray) (w : World) (hs : s.size ≤ 140737488355328) (L : Laid w) :
    Calls Tryd.prog 34 #[.string s] w fun e w' => e = .returned (numV (numP s.data.toList)) ∧ Below w.heap.size w w' := by
  have HX := Lib.hid (Box4.new w (.int .i64 0) (.int .i64 0) (.string ⟨#[]⟩) (.slice none 0 0) 27)
  have B1 : Hid (Below w.heap.size w (w.alloc (.cells #[.int .i64 0, .int .i64 0, .string ⟨#[]⟩, .slice none 0 0] 27))) := Lib.hid (below_alloc (Below.refl _ _) _)
  by_cases hg : ∃ v, Lib.parseIntB 64 s.data.toList = .ok v
  · obtain ⟨v, hv⟩ := hg
    have HV := Lib.hid hv
    have hv64 : -9223372036854775808 ≤ v ∧ v ≤ 9223372036854775807 := by
      have := Lib.parseIntB_bounds hv
      omega
    by_cases hi : Lib.itoa v = s.data.toList
    · have HF := Lib.hid (show numP s.data.toList = some v by unfold numP; rw [hv]; simp [hi])
      have he : (!(Lib.itoa v == s.toList)) = false := by rw [Lib.toList_data]; simp [hi]
      clear hv hi
      go_enter Tryd.func34, Tryd.ntmps34
      go_wp2_with (first | (go_at_call 43; refine (parse_ok s v _ hs HV.out).mono ?_; rintro e' w1 ⟨rfl, hb⟩; have B2 := Lib.hid (below_on B1.out hb); have HX2 := Lib.hid (HX.out.keep hb); clear hb) | (go_at_call 28; refine (formatInt_any v _ hv64.1 hv64.2 (L.1.keep B2.out)).mono ?_; rintro e' w2 ⟨rfl, hb⟩; have B3 := Lib.hid (below_on B2.out hb); have HX3 := Lib.hid (HX2.out.keep hb); obtain ⟨⟨x0, x1, x2, x3⟩, f0, f1, f2, f3⟩ := HX2.out.keep hb; clear hb))
      obtain ⟨y0, y1, y2, y3⟩ := set_four (.int .i64 1) (.int .i64 v) (.string ⟨#[]⟩) (.slice none 0 0) HX3.out
      refine bodyPost_ret (v := .tuple #[.agg #[.int .i64 1, .int .i64 v, .string ⟨#[]⟩, .slice none 0 0], .int .i64 0]) (by simp [results, Tryd.results34, go_sem, y0, y1, y2, y3]) rfl ⟨by rw [HF.out]; rfl, ?_⟩
      exact below_set4 B3.out (Nat.le_refl _) _ _ _ _
    · have HF := Lib.hid (show numP s.data.toList = none by unfold numP; rw [hv]; simp [hi])
      have he : (!(Lib.itoa v == s.toList)) = true := by rw [Lib.toList_data]; simp [hi]
      clear hv hi
      go_enter Tryd.func34, Tryd.ntmps34
      go_wp2_with (first | (go_at_call 43; refine (parse_ok s v _ hs HV.out).mono ?_; rintro e' w1 ⟨rfl, hb⟩; have B2 := Lib.hid (below_on B1.out hb); have HX2 := Lib.hid (HX.out.keep hb); clear hb) | (go_at_call 28; refine (formatInt_any v _ hv64.1 hv64.2 (L.1.keep B2.out)).mono ?_; rintro e' w2 ⟨rfl, hb⟩; have B3 := Lib.hid (below_on B2.out hb); have HX3 := Lib.hid (HX2.out.keep hb); obtain ⟨⟨x0, x1, x2, x3⟩, f0, f1, f2, f3⟩ := HX2.out.keep hb; clear hb))
      obtain ⟨y0, y1, y2, y3⟩ := set_four (.int .i64 0) (.int .i64 0) (.string ⟨#[]⟩) (.slice none 0 0) HX3.out
      refine bodyPost_ret (v := .tuple #[.agg #[.int .i64 0, .int .i64 0, .string ⟨#[]⟩, .slice none 0 0], .int .i64 1]) (by simp [results, Tryd.results34, go_sem, y0, y1, y2, y3]) rfl ⟨by rw [HF.out]; rfl, ?_⟩
      exact below_set4 B3.out (Nat.le_refl _) _ _ _ _
  · have HF := Lib.hid (show numP s.data.toList = none by
      unfold numP
      split
      · rename_i v hv; exact absurd ⟨v, hv⟩ hg
      · rfl)
    go_enter Tryd.func34, Tryd.ntmps34
    go_wp2_with (go_at_call 43; refine (parse_bad s _ hs (L.keep B1.out) (fun v hv => hg ⟨v, hv⟩)).mono ?_; rintro e' w1 ⟨n', N, rfl, hb⟩; have B2 := Lib.hid (below_on B1.out hb); have HX2 := Lib.hid (HX.out.keep hb); obtain ⟨⟨x0, x1, x2, x3⟩, f0, f1, f2, f3⟩ := HX.out.keep hb; clear hb)
    obtain ⟨y0, y1, y2, y3⟩ := set_four (.int .i64 0) (.int .i64 0) (.string ⟨#[]⟩) (.slice none 0 0) HX2.out
    refine bodyPost_ret (v := .tuple #[.agg #[.int .i64 0, .int .i64 0, .string ⟨#[]⟩, .slice none 0 0], .int .i64 1]) (by simp [results, Tryd.results34, go_sem, y0, y1, y2, y3]) rfl ⟨by rw [HF.out]; rfl, ?_⟩
    exact below_set4 B2.out (Nat.le_refl _) _ _ _ _
end Go.Proofs.YthbbfdlacclccaaDoor
namespace Go.Proofs.YthbbfdlacclccaaDoor
open Go.RowKit

def RowO (P : Nat → Prop) (w : World) (a : Option Addr) (len : Nat) (vs : Nat → Value) : Prop := len = 0 ∨ ∃ b off, a = some ⟨b, off, none⟩ ∧ b < w.heap.size ∧ P b ∧ ∀ j, j < len → CellP w b (off + j * 4) (vs j)
theorem RowO.row {P : Nat → Prop} {w : World} {a : Option Addr} {len : Nat} {vs : Nat → Value} (h : RowO P w a len vs) : RowP w a len vs := by
  rcases h with h | ⟨b, off, h1, h2, _, h3⟩
  · exact Or.inl h
  · exact Or.inr ⟨b, off, h1, h2, h3⟩
theorem CellP.same {w w' : World} {b o : Nat} {v : Value} (h : CellP w b o v) (he : ∀ i, w'.cell? ⟨b, i, none⟩ = w.cell? ⟨b, i, none⟩) : CellP w' b o v := by
  obtain ⟨c0, c1, c2, c3, rfl, h0, h1, h2, h3⟩ := h
  exact ⟨c0, c1, c2, c3, rfl, (he _).trans h0, (he _).trans h1, (he _).trans h2, (he _).trans h3⟩
/-- As PAt, of rows in blocks of a kind. -/
inductive PAtO (P : Nat → Prop) (w : World) : PV → Value → Prop where
  | mk (k n : Int) (s : ByteArray) (l : List PV) (a : Option Addr) (c : Nat) (vs : Nat → Value) (hk : -9223372036854775808 ≤ k ∧ k ≤ 9223372036854775807) (hn : -9223372036854775808 ≤ n ∧ n ≤ 9223372036854775807)
    (hs : s.size ≤ 9223372036854775807) (hl : l.length ≤ 9223372036854775807) (hr : RowO P w a l.length vs) (hv : ∀ j x, l[j]? = some x → PAtO P w x (vs j)) (hcp : l.length ≤ c) :
    PAtO P w (.mk k n s l) (.agg #[.int .i64 k, .int .i64 n, .string s, .slice a l.length c])
theorem PAtO.pat {P : Nat → Prop} {w : World} {x : PV} {v : Value} (h : PAtO P w x v) : PAt w x v := by
  induction h with
  | mk k n s l a c vs hk hn hs hl hr hv hcp ih => exact .mk k n s l a c vs hk hn hs hl hr.row ih
theorem PAtO.move {P Q : Nat → Prop} {w : World} {x : PV} {v : Value} (h : PAtO P w x v) : ∀ {w' : World}, w.heap.size ≤ w'.heap.size → (∀ b, b < w.heap.size → P b → Q b ∧ ∀ i, w'.cell? ⟨b, i, none⟩ = w.cell? ⟨b, i, none⟩) → PAtO Q w' x v := by
  induction h with
  | mk k n s l a c vs hk hn hs hl hr hv hcp ih =>
    intro w' hsz he
    refine .mk k n s l a c vs hk hn hs hl ?_ (fun j x hx => ih j x hx hsz he) hcp
    rcases hr with h | ⟨b, off, rfl, h2, h3, h4⟩
    · exact Or.inl h
    · have := he b h2 h3
      exact Or.inr ⟨b, off, rfl, by omega, this.1, fun j hj => (h4 j hj).same this.2⟩
theorem PAtO.keep {P : Nat → Prop} {w w' : World} {x : PV} {v : Value} (h : PAtO P w x v) (hb : Below w.heap.size w w') : PAtO P w' x v :=
  h.move hb.size fun b hb' hP => ⟨hP, fun i => hb.cell (p := ⟨b, i, none⟩) hb'⟩
theorem PAtO.imp {P Q : Nat → Prop} {w : World} {x : PV} {v : Value} (h : PAtO P w x v) (hi : ∀ b, b < w.heap.size → P b → Q b) : PAtO Q w x v := h.move (Nat.le_refl _) fun b hb hP => ⟨hi b hb hP, fun _ => rfl⟩
theorem pz_atO (P : Nat → Prop) (w : World) : PAtO P w pz pzV := .mk 0 0 ⟨#[]⟩ [] none 0 (fun _ => undef) (by decide) (by decide) (by decide) (by decide) (Or.inl rfl) (fun j x h => by simp at h) (Nat.le_refl _)
theorem PAtO.form {P : Nat → Prop} {w : World} {x : PV} {v : Value} (h : PAtO P w x v) : ∃ (k n : Int) (s : ByteArray) (a : Option Addr) (m c : Nat), v = .agg #[.int .i64 k, .int .i64 n, .string s, .slice a m c] := h.pat.form
/-! rows of values -/
def cells4 (vs : List Value) : List Value := vs.flatMap fun v => v.cells.toList
def Four (vs : List Value) : Prop := ∀ v ∈ vs, ∃ c0 c1 c2 c3, v = .agg #[c0, c1, c2, c3]
theorem cells4_cons (d0 d1 d2 d3 : Value) (t : List Value) : cells4 (.agg #[d0, d1, d2, d3] :: t) = d0 :: d1 :: d2 :: d3 :: cells4 t := by unfold cells4; simp [Value.cells]
theorem cells4_len {vs : List Value} (h : Four vs) : (cells4 vs).length = vs.length * 4 := by
  induction vs with
  | nil => rfl
  | cons v t ih =>
    obtain ⟨c0, c1, c2, c3, rfl⟩ := h v (by simp)
    have := ih fun u hu => h u (by simp [hu])
    rw [cells4_cons]
    simp only [List.length_cons, this]
    omega
theorem cells4_append (vs us : List Value) : cells4 (vs ++ us) = cells4 vs ++ cells4 us := by unfold cells4; rw [List.flatMap_append]
theorem cells4_at {vs : List Value} (h : Four vs) {j : Nat} {c0 c1 c2 c3 : Value} (hj : vs[j]? = some (.agg #[c0, c1, c2, c3])) :
    (cells4 vs)[j * 4]? = some c0 ∧ (cells4 vs)[j * 4 + 1]? = some c1 ∧ (cells4 vs)[j * 4 + 2]? = some c2 ∧ (cells4 vs)[j * 4 + 3]? = some c3 := by
  induction vs generalizing j with
  | nil => simp at hj
  | cons v t ih =>
    obtain ⟨d0, d1, d2, d3, rfl⟩ := h v (by simp)
    have e := cells4_cons d0 d1 d2 d3 t
    cases j with
    | zero =>
      simp only [List.getElem?_cons_zero, Option.some.injEq, Value.agg.injEq, Array.mk.injEq, List.cons.injEq, and_true] at hj
      obtain ⟨rfl, rfl, rfl, rfl⟩ := hj
      rw [e]; exact ⟨rfl, rfl, rfl, rfl⟩
    | succ j =>
      have := ih (fun u hu => h u (by simp [hu])) (j := j) (by simpa using hj)
      rw [e, show (j + 1) * 4 = j * 4 + 1 + 1 + 1 + 1 from by omega]
      exact this
def OwnV (w : World) (base : Nat) (v : Value) (vs : List Value) : Prop := w.ownsRow base 27 4 v vs.length (cells4 vs) ∧ Four vs
theorem OwnV.row {P : Nat → Prop} {w : World} {base : Nat} {v : Value} {vs : List Value} (h : OwnV w base v vs) (hP : ∀ g, v.ownBlock = some g → P g) : ∃ a c, v = .slice a vs.length c ∧ RowO P w a vs.length (fun j => vs.getD j undef) := by
  obtain ⟨a, c, h1, h2⟩ := ownsRow_row h.1
  refine ⟨a, c, h1, ?_⟩
  by_cases h0 : vs.length = 0
  · exact Or.inl h0
  · rcases h2 with h2 | ⟨b, off, rfl, hb, hc⟩
    · have := cells4_len h.2; rw [h2] at this; simp at this; omega
    · refine Or.inr ⟨b, off, rfl, hb, hP b ?_, fun j hj => ?_⟩
      · rw [h1]; rfl
      · obtain ⟨c0, c1, c2, c3, e⟩ := h.2 vs[j] (List.getElem_mem hj)
        have hj' : vs[j]? = some (.agg #[c0, c1, c2, c3]) := by rw [List.getElem?_eq_getElem hj, e]
        obtain ⟨k0, k1, k2, k3⟩ := cells4_at h.2 hj'
        refine ⟨c0, c1, c2, c3, by simp [List.getD, hj'], hc _ _ k0, ?_, ?_, ?_⟩
        · have := hc _ _ k1; simpa [Nat.add_assoc] using this
        · have := hc _ _ k2; simpa [Nat.add_assoc] using this
        · have := hc _ _ k3; simpa [Nat.add_assoc] using this
theorem Tryd.infoVal : (Tryd.prog.info? 27).map (fun i => (i.zero, i.size, i.bytes)) = some (some pzV, 4, 56) := by kernel_rfl
theorem tyVals : ElemTy Tryd.prog 25 27 pzV 4 56 := by
  obtain ⟨i0, hi, hz0, hz1, hz2⟩ := info_parts Tryd.infoVal
  exact ⟨Tryd.underlying25, ⟨i0, hi, hz0, hz1, hz2⟩, rfl, by decide⟩
end Go.Proofs.YthbbfdlacclccaaDoor

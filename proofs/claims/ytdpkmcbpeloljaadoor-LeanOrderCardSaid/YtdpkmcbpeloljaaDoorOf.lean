/- LeanOrder: the walk. -/
import Derived.Test.YtdpkmcbpeloljaaDoorOh
namespace Go.Proofs.YtdpkmcbpeloljaaDoor
open Go.RowKit

/-- The same roster, turned. -/
def rot (ys : List Int) (j0 k : Nat) : List Int := (List.range k).map fun i => nthI ys ((i + j0) % ys.length)
theorem rot_len (ys : List Int) (j0 k : Nat) : (rot ys j0 k).length = k := by simp [rot]
theorem rot_succ (ys : List Int) (j0 k : Nat) : rot ys j0 (k + 1) = rot ys j0 k ++ [nthI ys ((k + j0) % ys.length)] := by
  unfold rot; rw [List.range_succ, List.map_append]; rfl
theorem rot_mem {ys : List Int} {j0 : Nat} (h : j0 < ys.length) (z : Int) : z ∈ rot ys j0 ys.length ↔ z ∈ ys := by
  unfold rot
  rw [List.mem_map]
  constructor
  · rintro ⟨i, -, rfl⟩
    exact nth_mem (Nat.mod_lt _ (by omega))
  · intro hz
    obtain ⟨t, ht, rfl⟩ := mem_nth hz
    by_cases c : j0 ≤ t
    · exact ⟨t - j0, List.mem_range.2 (by omega), by rw [show t - j0 + j0 = t by omega, Nat.mod_eq_of_lt ht]⟩
    · exact ⟨t + ys.length - j0, List.mem_range.2 (by omega), by rw [show t + ys.length - j0 + j0 = t + ys.length by omega, Nat.add_mod_right, Nat.mod_eq_of_lt ht]⟩
/-- Numbers of a row below D that does not lie in block C. -/
def IL (D C : Nat) (w : World) (a : Option Addr) (zs : List Int) : Prop :=
  zs = [] ∨ ∃ b off, a = some ⟨b, off, none⟩ ∧ b < D ∧ b ≠ C ∧ ∀ j, j < zs.length → w.cell? ⟨b, off + j, none⟩ = some (.int .i64 (nthI zs j))
theorem IL.low {D C : Nat} {w w' : World} {a : Option Addr} {zs : List Int} (h : IL D C w a zs) (hb : Below D w w') : IL D C w' a zs := by
  rcases h with h | ⟨b, off, rfl, h1, h2, h3⟩
  · exact Or.inl h
  · exact Or.inr ⟨b, off, rfl, h1, h2, fun j hj => (hb.cell h1).trans (h3 j hj)⟩
theorem IL.set {D C : Nat} {w : World} {a : Option Addr} {zs : List Int} (h : IL D C w a zs) (i : Nat) (v : Value) : IL D C (w.setCell ⟨C, i, none⟩ v) a zs := by
  rcases h with h | ⟨b, off, rfl, h1, h2, h3⟩
  · exact Or.inl h
  · exact Or.inr ⟨b, off, rfl, h1, h2, fun j hj => by rw [World.cell?_setCell_other _ _ _ _ (by have h2' : C ≠ b := fun e => h2 e.symm; simp [h2, h2'])]; exact h3 j hj⟩
theorem IL.ints {D C : Nat} {w : World} {a : Option Addr} {zs : List Int} (h : IL D C w a zs) : IntsAt w a zs := by
  by_cases h0 : zs.length = 0
  · exact Or.inl (List.length_eq_zero_iff.1 h0)
  · rcases h with h | ⟨b, off, rfl, h1, h2, h3⟩
    · exact Or.inl h
    · exact Or.inr ⟨b, off, rfl, cell_old (h3 0 (by omega)), h3⟩
theorem own_blk' {W : World} {base : Nat} {a : Option Addr} {c : Nat} {zs : List Int} {n : Nat} (h : OwnI W base (.slice a n c) zs) (hl : zs.length ≠ 0) : ∀ b, a = some b → base ≤ b.block := by
  rintro b rfl
  obtain ⟨_, h2⟩ := h
  rcases h2 with ⟨_, h3⟩ | ⟨g, cap, cur, h3, h4, _⟩
  · omega
  · simp only [Value.slice.injEq, Option.some.injEq] at h3
    rw [h3.1]; exact h4
theorem own_IL {w : World} {D C : Nat} {a : Option Addr} {n c : Nat} {zs : List Int} (h : OwnI w D (.slice a n c) zs) (hC : C < D) : IL w.heap.size C w a zs := by
  rcases own_ints h with h1 | ⟨b, off, rfl, h1, h2⟩
  · exact Or.inl h1
  · by_cases h0 : zs = []
    · exact Or.inl h0
    · have := own_blk' h (by intro e; exact h0 (List.length_eq_zero_iff.1 e)) _ rfl
      exact Or.inr ⟨b, off, rfl, h1, by have h3 := this; simp at h3; omega, h2⟩
set_option maxRecDepth 100000 in
set_option maxHeartbeats 6400000 in
theorem leanOrder_walk (a0 : Option Addr) (c0 : Nat) (ls : List Int) (s : ByteArray) (n : Int) (w : World) (hz : IntsAt w a0 ls) (hl : ls.length ≤ 9223372036854775807) (hs : s.size ≤ 9223372036854775807) (L : Laid w) :
    Calls Tryd.prog 5 #[.slice a0 ls.length c0, .string s, .int .i64 n] w fun e' w' => e' = .returned (.bool true) ∧ Below w.heap.size w w' := by
  obtain ⟨A, hA⟩ : ∃ A, Hid (cutS s 40 = A) := ⟨_, Lib.hid rfl⟩
  have sA : A.size ≤ 9223372036854775807 := by rw [← hA.out, cutS_size]; omega
  have HL := Lib.hid L
  have HZ := Lib.hid hz
  have HB : Hid (Below w.heap.size w w) := Lib.hid (Below.refl _ _)
  clear L hz
  go_enter Tryd.func5, Tryd.ntmps5
  go_wp2_with (first | (go_at_call 7; refine (begun14_any _ HL.out).mono ?_; rintro e' w1 ⟨rfl, hb⟩; have HB := Lib.hid (below_on HB.out hb); clear hb) | (go_at_call 8; refine (cut_h s A 40 40 _ hA hs (by decide) rfl).mono ?_; rintro e' w' ⟨rfl, rfl⟩))
  have S : GaR w1.heap.size (w1.heap.size + 2) w 1 (gath (ls.take 0)) ((w1.alloc (.cells #[.int .i64 1, .slice none 0 0, .int .i64 0] 26)).alloc (.cells #[.int .i64 9, .slice none 0 0, .int .i64 0] 26)) :=
    ⟨none, 0, (Bx.new _ _ _ _ _).keep (below_alloc (Below.refl _ _) _), World.ownsRow_nil _ _ _ _, below_alloc (below_alloc HB.out _) _, by omega, HB.out.size, by simp⟩
  have SQ : Bx (w1.heap.size + 1) (.int .i64 9) (.slice none 0 0) (.int .i64 0) ((w1.alloc (.cells #[.int .i64 1, .slice none 0 0, .int .i64 0] 26)).alloc (.cells #[.int .i64 9, .slice none 0 0, .int .i64 0] 26)) := by
    have := Bx.new (w1.alloc (.cells #[.int .i64 1, .slice none 0 0, .int .i64 0] 26)) (.int .i64 9) (.slice none 0 0) (.int .i64 0) 26
    rwa [World.size_alloc] at this
  generalize (w1.alloc (.cells #[.int .i64 1, .slice none 0 0, .int .i64 0] 26)).alloc (.cells #[.int .i64 9, .slice none 0 0, .int .i64 0] 26) = V at S SQ ⊢
  generalize w1.heap.size = B at S SQ ⊢
  clear HB
  have HS := Lib.hid S
  have HQ := Lib.hid SQ
  clear S SQ
  go_loopw [10] (fun i wr => ∃ k : Nat, k ≤ ls.length ∧ k ≤ 6 ∧ i = .int .i64 k ∧ GaR B (B + 2) w 1 (gath (ls.take k)) wr ∧ Bx (B + 1) (.int .i64 9) (.slice none 0 0) (.int .i64 0) wr) (fun i _ => 6 - (intOf i).toNat)
  case atStart => exact ⟨0, Nat.zero_le _, by omega, rfl, HS.out, HQ.out⟩
  case round =>
    obtain ⟨k, hk, hk5, rfl, hI, hQ⟩ := hrel
    clear HS HQ
    have HQ := Lib.hid hQ
    clear hQ
    obtain ⟨wo, rfl⟩ : ∃ wo : World, wo = wr := ⟨_, rfl⟩
    obtain ⟨ys, hys⟩ : ∃ ys, gath (ls.take k) = ys := ⟨_, rfl⟩
    have hyl : ys.length ≤ 6 := by rw [← hys]; have := gath_len (ls.take k); simp at this; omega
    have HM : Hid (mayL ys = true) := Lib.hid (by rw [← hys]; exact gath_mayL _)
    rw [hys] at hI
    have HI := Lib.hid hI
    obtain ⟨a, c, hx, ho, hlow, hBD, hwB, hsz⟩ := hI
    have HX := Lib.hid hx
    have HO := Lib.hid ho
    have HW := Lib.hid hlow
    obtain ⟨x0, x1, x2, -⟩ := hx
    clear ho hlow hBD
    by_cases hlt : k < ls.length ∧ k < 6
    · obtain ⟨hlt1, hlt2⟩ := hlt
      obtain ⟨bn, on, rfl, -, hcn⟩ := (HZ.out.below HW.out (Nat.le_refl _)).form (by omega)
      have d0 := hcn k hlt1
      clear hcn
      have p1 : (k : Int) < (ls.length : Int) := by omega
      have p2 : (k : Int) < 6 := by omega
      have HT : Hid (gath (ls.take (k + 1)) = gstep ys (nthI ls k)) := Lib.hid (by rw [gath_take ls k hlt1, hys])
      obtain ⟨v, hv⟩ : ∃ v, nthI ls k = v := ⟨_, rfl⟩
      rw [hv] at d0 HT
      obtain ⟨m, hm⟩ : ∃ m, v.tmod 5 = m := ⟨_, rfl⟩
      have m1 : -5 < m := by rw [← hm]; have := Int.tmod_lt_of_pos (-v) (show (0:Int) < 5 by decide); rw [Int.neg_tmod] at this; omega
      have m2 : m < 5 := by rw [← hm]; exact Int.tmod_lt_of_pos _ (by decide)
      have hmH := Lib.hid hm
      clear hys
      go_upto_region 10 with fail
      obtain ⟨q, hq⟩ : ∃ q, 1 + m % 5 = q := ⟨_, rfl⟩
      have hqH := Lib.hid hq
      rw [hq]
      clear m1 m2 hm d0 hq hv
      obtain ⟨ix, hix⟩ : ∃ ix, idx ys q = ix := ⟨_, rfl⟩
      have hixH := Lib.hid hix
      by_cases hin : q ∈ ys
      · have e1 : decide (ix < 0) = false := decide_eq_false (by rw [← hix]; have := idx_in hin; omega)
        have HG : Hid (gath (ls.take (k + 1)) = ys) := Lib.hid (by rw [HT.out, gstep_yes hmH.out hqH.out hin])
        clear hix hin
        go_wp2_with (go_at_call 9; refine (spot_h _ _ _ ix _ _ _ _ (by omega) (own_ints HO.out) hixH.out).mono ?_; rintro e' w4 ⟨rfl, hb⟩; have HI4 := Lib.hid (HI.out.keep hb); have HQ4 := Lib.hid (HQ.out.keep hb); clear hb)
        go_roundw
        case rel => exact ⟨k + 1, by omega, by omega, by go_num, by rw [HG.out]; exact HI4.out, HQ4.out⟩
        case measure => simp [intOf]; omega
      · have e1 : decide (ix < 0) = true := decide_eq_true (by rw [← hix, idx_no hin]; decide)
        have HG : Hid (gath (ls.take (k + 1)) = ys ++ [q]) := Lib.hid (by rw [HT.out, gstep_no hmH.out hqH.out hin])
        clear hix hin x0 x1 x2
        obtain ⟨x0, x1, x2, -⟩ := HX.out
        go_upto_region 11 with (go_at_call 9; refine (spot_h _ _ _ ix _ _ _ _ (by omega) (own_ints HO.out) hixH.out).mono ?_; rintro e' w4 ⟨rfl, hb⟩; have HX4 := Lib.hid (HX.out.keep hb); have HQ4 := Lib.hid (HQ.out.keep hb); have HO4 := Lib.hid (ownsRow_below HO.out hb); have HW4 := Lib.hid (below_on HW.out hb); have hsz4 : B + 2 ≤ w4.heap.size := Nat.le_trans hsz hb.size; clear hb)
        clear x0 x1 x2
        obtain ⟨x0, x1, x2, -⟩ := HX4.out
        go_wp2_with (at_builtin; refine wpList_append_any rfl _ _ 22 rfl (B + 2) 3 _ 1 8 tyInts _ ys.length (ys.map (.int .i64)) rfl (ownsRow_below HO4.out (below_alloc (Below.refl _ _) _)) _ 1 1 [.int .i64 q] rfl rfl (RowAt.new _ _ _) (by simp [Value.oneCell']) (by unfold maxLen; omega) (by omega) ?c3 ?_; (case c3 => simp; omega); intro v' w' own' hb'; obtain ⟨a', c', rfl, -, -⟩ := own_cap (ownI_snoc rfl own'); have HO2 := Lib.hid (ownI_snoc rfl own'); have HX2 := Lib.hid ((HX4.out.keep (below_alloc (Below.refl _ _) _)).low hb' (by omega)); have HQ2 := Lib.hid ((HQ4.out.keep (below_alloc (Below.refl _ _) _)).low hb' (Nat.lt_succ_self _)); have HW2 := Lib.hid ((below_alloc HW4.out _).trans (hb'.mono (by omega))); obtain ⟨y0, y1, y2, g0, g1, g2⟩ := HX2.out; have hsz2 : B + 2 ≤ w'.heap.size := Nat.le_trans (by simp; omega) hb'.size; clear own' hb')
        go_roundw
        case rel => exact ⟨k + 1, by omega, by omega, by go_num, by rw [HG.out]; exact ⟨a', c', by rw [show (ys ++ [q]).length = ys.length + 1 by simp]; exact HX2.out.set1 _, ownsRow_setCell_below HO2.out (a := ⟨B, 1, none⟩) (show B < B + 2 by omega) _, HW2.out.setCell (p := ⟨B, 1, none⟩) hwB _, by omega, hwB, by simp; omega⟩, HQ2.out.far (by omega) _ _⟩
        case measure => simp [intOf]; omega
    · clear hys
      have p12 : ¬ ((k : Int) < (ls.length : Int) ∧ (k : Int) < 6) := by omega
      by_cases p1 : (k : Int) < (ls.length : Int)
      · have p2 : ¬ (k : Int) < 6 := by omega
        clear p12 hlt
        go_wp2_with fail
        by_cases hN : ys.length = 0
        · obtain rfl : ys = [] := List.length_eq_zero_iff.1 hN
          clear hN
          go_loopw [13] (fun i wr => i = .int .i64 0 ∧ wr = wo) (fun _ _ => 0)
          case atStart => exact ⟨rfl, rfl⟩
          case round =>
            obtain ⟨rfl, rfl⟩ := hrel
            go_upto_region 17 with fail
            go_quiet (fail)
            go_wp2_with fail
            go_ret
            exact ⟨rfl, below_drewN HW.out _⟩
        · obtain ⟨t, ht⟩ : ∃ t, n.tmod (ys.length : Int) = t := ⟨_, rfl⟩
          have t1 : -(ys.length : Int) < t := by rw [← ht]; have := Int.tmod_lt_of_pos (-n) (show (0:Int) < (ys.length : Int) by omega); rw [Int.neg_tmod] at this; omega
          have t2 : t < (ys.length : Int) := by rw [← ht]; exact Int.tmod_lt_of_pos _ (by omega)
          obtain ⟨j0, hj⟩ : ∃ j : Nat, (t + (ys.length : Int)).tmod (ys.length : Int) = (j : Int) := ⟨((t + (ys.length : Int)).tmod (ys.length : Int)).toNat, by have := Int.tmod_nonneg (ys.length : Int) (show 0 ≤ t + (ys.length : Int) by omega); omega⟩
          have hj0 : j0 < ys.length := by have := Int.tmod_lt_of_pos (t + (ys.length : Int)) (show (0:Int) < (ys.length : Int) by omega); omega
          have hj2 : (t + (ys.length : Int)) % (ys.length : Int) = (j0 : Int) := by rw [← Int.tmod_eq_emod_of_nonneg (by omega)]; exact hj
          have hj3 : t % (ys.length : Int) = (j0 : Int) := by rw [← hj2, Int.add_emod_right]
          have hz : ((ys.length : Int) == 0) = false := by rw [beq_eq_false_iff_ne]; omega
          have hz' : (ys.length == 0) = false := by rw [beq_eq_false_iff_ne]; omega
          have wr1 : IntKind.i64.wrap t = t := IntWalk.i64_in _ (by omega)
          have wr2 : IntKind.i64.wrap (t + (ys.length : Int)) = t + (ys.length : Int) := IntWalk.i64_in _ (by omega)
          have wr3 : IntKind.i64.wrap (j0 : Int) = (j0 : Int) := IntWalk.i64_in _ (by omega)
          have HIL := Lib.hid (own_IL HO.out (show B + 1 < B + 2 by omega))
          have HJ0 := Lib.hid hj0
          have hBo : B + 1 < wo.heap.size := cell_old HQ.out.1
          have hwB' : w.heap.size ≤ wo.heap.size := HW.out.size
          go_loopw [13] (fun i wr => ∃ (j : Nat) (a2 : Option Addr) (c2 : Nat), j ≤ ys.length ∧ i = .int .i64 j ∧ Bx B (.int .i64 1) (.slice a ys.length c) (.int .i64 0) wr ∧ Bx (B + 1) (.int .i64 9) (.slice a2 j c2) (.int .i64 0) wr ∧ OwnI wr wo.heap.size (.slice a2 j c2) (rot ys j0 j) ∧ IL wo.heap.size (B + 1) wr a ys ∧ Below w.heap.size w wr ∧ wo.heap.size ≤ wr.heap.size) (fun i _ => ys.length - (intOf i).toNat)
          case atStart => exact ⟨0, none, 0, Nat.zero_le _, rfl, HX.out, HQ.out, World.ownsRow_nil _ _ _ _, HIL.out, HW.out, Nat.le_refl _⟩
          case round =>
            obtain ⟨j, a2, c2, hjl, rfl, hx, hq, ho2, hil, hlow2, hsz2⟩ := hrel
            clear x0 x1 x2
            have HXr := Lib.hid hx
            have HQr := Lib.hid hq
            have HOr := Lib.hid ho2
            have HILr := Lib.hid hil
            have HWr := Lib.hid hlow2
            obtain ⟨x0, x1, x2, -⟩ := hx
            obtain ⟨y0, y1, y2, g0, g1, g2⟩ := hq
            clear ho2 hlow2
            by_cases hjt : j < ys.length
            · rcases hil with h | ⟨g, off, rfl, hg1, hg2, hcy⟩
              · exfalso; rw [h] at hjt; simp at hjt
              obtain ⟨x, hx⟩ : ∃ x, (j + j0) % ys.length = x := ⟨_, rfl⟩
              have hxl : x < ys.length := by rw [← hx]; exact Nat.mod_lt _ (by omega)
              have hxe : ((j : Int) + (j0 : Int)) % (ys.length : Int) = (x : Int) := by rw [← hx]; simp
              have hxt : ((j : Int) + (j0 : Int)).tmod (ys.length : Int) = (x : Int) := by rw [Int.tmod_eq_emod_of_nonneg (by omega)]; exact hxe
              have wr4 : IntKind.i64.wrap ((j : Int) + (j0 : Int)) = (j : Int) + (j0 : Int) := IntWalk.i64_in _ (by omega)
              have wr5 : IntKind.i64.wrap (x : Int) = (x : Int) := IntWalk.i64_in _ (by omega)
              have HT := Lib.hid (show rot ys j0 (j + 1) = rot ys j0 j ++ [nthI ys x] by rw [rot_succ, hx])
              have d0 := hcy x hxl
              obtain ⟨z, hzz⟩ : ∃ z, nthI ys x = z := ⟨_, rfl⟩
              rw [hzz] at d0 HT
              have hrl := Lib.hid (rot_len ys j0 j)
              have HOw := Lib.hid (ownI_at HOr.out hrl.out)
              clear hcy hx hzz
              have hsw : B + 1 < wr.heap.size := cell_old y1
              have HD0 : wo.heap.size ≤ wr.heap.size := hsz2
              go_upto_region 16 with fail
              go_region_law (
                 refine step_append_any (by rfl) _ _ 22 (by rfl) wo.heap.size 3 _ 1 8 tyInts (.slice a2 j c2) j ((rot ys j0 j).map (.int .i64)) (by first | rfl | simp [Act.eval, Act.put]) ?c1 (some ⟨wr.heap.size, 0, none⟩) 1 1 [.int .i64 z] (by first | rfl | simp [Act.eval, Act.put]) (by rfl) ?c2 (by simp [Value.oneCell']) (by unfold maxLen; omega) (by omega) ?c3 ?_
                 case c1 => exact ownsRow_below HOw.out (below_alloc (Below.refl _ _).drew _)
                 case c2 => exact RowAt.new wr.drew _ _
                 case c3 => simp; omega
                 intro v' w' own' hb'
                 obtain ⟨a', c', hv, -, -⟩ := own_cap (ownI_snoc hrl.out own')
                 rw [show (rot ys j0 j ++ [z]).length = j + 1 by rw [List.length_append, hrl.out]; rfl] at hv
                 subst hv
                 have HO2 := Lib.hid (ownI_snoc hrl.out own')
                 have HQ2 := Lib.hid ((HQr.out.keep (below_alloc (Below.refl _ _).drew (.cells #[.int .i64 z] 3))).low hb' (Nat.lt_of_lt_of_le hBo (Nat.le_refl _)))
                 have HX2 := Lib.hid ((HXr.out.keep (below_alloc (Below.refl _ _).drew (.cells #[.int .i64 z] 3))).low hb' (Nat.lt_of_succ_lt hBo))
                 have HW2 := Lib.hid ((below_alloc HWr.out.drew (.cells #[.int .i64 z] 3)).trans (hb'.mono (by omega)))
                 have HI2 := Lib.hid ((HILr.out.low ((below_alloc (Below.refl _ _).drew (.cells #[.int .i64 z] 3)).mono hsz2)).low hb')
                 have hsz3 : wo.heap.size ≤ w'.heap.size := Nat.le_trans (by simp; omega) hb'.size
                 obtain ⟨y0, y1, y2, g0, g1, g2⟩ := HQ2.out
                 clear own' hb')
              all_goals
                go_wp2_with fail
                go_roundw
                case rel => exact ⟨j + 1, a', c', by omega, by go_num, HX2.out.far (by omega) _ _, HQ2.out.set1 _, by rw [HT.out]; exact ownsRow_setCell_below HO2.out (a := ⟨B + 1, 1, none⟩) hBo _, HI2.out.set _ _, HW2.out.setCell (p := ⟨B + 1, 1, none⟩) (Nat.le_succ_of_le hwB) _, by simp; omega⟩
                case measure => simp [intOf]; omega
            · obtain rfl : j = ys.length := by omega
              clear hjt hjl
              have hy0 : ∀ z ∈ ys, z ≠ 0 := fun z hz' => by have := (mayL_iff.1 HM.out).1 z hz'; omega
              have hpe := pick_same A.data.toList 0 ys (rot ys j0 ys.length) hy0 (rot_mem HJ0.out)
              obtain ⟨P, hP⟩ : ∃ p, pick A.data.toList 0 ys = p := ⟨_, rfl⟩
              rw [hP] at hpe
              have HK1 : Hid (∀ w', Below wr.heap.size wr w' → Calls Tryd.prog 11 #[.agg #[.int .i64 1, .slice a ys.length c, .int .i64 0], .string A] w' fun e' w'' => e' = .returned (.int .i64 P) ∧ Below w'.heap.size w' w'') := Lib.hid (fun w' hw => by rw [← hP]; exact pick_any 1 _ c ys 0 A w' (by omega) (HILr.out.ints.keep hw) sA)
              have HK2 : Hid (∀ w', Below wr.heap.size wr w' → Calls Tryd.prog 11 #[.agg #[.int .i64 9, .slice a2 ys.length c2, .int .i64 0], .string A] w' fun e' w'' => e' = .returned (.int .i64 P) ∧ Below w'.heap.size w' w'') := Lib.hid (fun w' hw => by
                have h := pick_any 9 a2 c2 (rot ys j0 ys.length) 0 A w' (by rw [rot_len]; omega) ((own_ints HOr.out).keep hw) sA
                rw [rot_len, hpe] at h
                exact h)
              have e7 : ¬ (ys.length : Int) < (ys.length : Int) := Int.lt_irrefl _
              have ePP : (P == P) = true := beq_self_eq_true P
              clear hy0 hpe hP hil g0 g1 g2 t1 t2 hj0 hj hj2 hj3 ht wr1 wr2 wr3
              go_upto_region 17 with fail
              have HC := Lib.hid (Below.refl wr.heap.size wr).drew
              go_region_with (go_at_call 11; (first | ((with_reducible refine (HK1.out _ HC.out).mono ?_)) | ((with_reducible refine (HK2.out _ HC.out).mono ?_))); rintro e' w7 ⟨rfl, hb⟩; have HC := Lib.hid (below_on HC.out hb); obtain ⟨x0, x1, x2, -⟩ := HXr.out.keep HC.out; obtain ⟨y0, y1, y2, -⟩ := HQr.out.keep HC.out; clear hb)
              all_goals
                go_wp2_with fail
                go_ret
                exact ⟨rfl, below_on HWr.out HC.out⟩
      · clear p12 hlt
        go_wp2_with fail
        by_cases hN : ys.length = 0
        · obtain rfl : ys = [] := List.length_eq_zero_iff.1 hN
          clear hN
          go_loopw [13] (fun i wr => i = .int .i64 0 ∧ wr = wo) (fun _ _ => 0)
          case atStart => exact ⟨rfl, rfl⟩
          case round =>
            obtain ⟨rfl, rfl⟩ := hrel
            go_upto_region 17 with fail
            go_quiet (fail)
            go_wp2_with fail
            go_ret
            exact ⟨rfl, below_drewN HW.out _⟩
        · obtain ⟨t, ht⟩ : ∃ t, n.tmod (ys.length : Int) = t := ⟨_, rfl⟩
          have t1 : -(ys.length : Int) < t := by rw [← ht]; have := Int.tmod_lt_of_pos (-n) (show (0:Int) < (ys.length : Int) by omega); rw [Int.neg_tmod] at this; omega
          have t2 : t < (ys.length : Int) := by rw [← ht]; exact Int.tmod_lt_of_pos _ (by omega)
          obtain ⟨j0, hj⟩ : ∃ j : Nat, (t + (ys.length : Int)).tmod (ys.length : Int) = (j : Int) := ⟨((t + (ys.length : Int)).tmod (ys.length : Int)).toNat, by have := Int.tmod_nonneg (ys.length : Int) (show 0 ≤ t + (ys.length : Int) by omega); omega⟩
          have hj0 : j0 < ys.length := by have := Int.tmod_lt_of_pos (t + (ys.length : Int)) (show (0:Int) < (ys.length : Int) by omega); omega
          have hj2 : (t + (ys.length : Int)) % (ys.length : Int) = (j0 : Int) := by rw [← Int.tmod_eq_emod_of_nonneg (by omega)]; exact hj
          have hj3 : t % (ys.length : Int) = (j0 : Int) := by rw [← hj2, Int.add_emod_right]
          have hz : ((ys.length : Int) == 0) = false := by rw [beq_eq_false_iff_ne]; omega
          have hz' : (ys.length == 0) = false := by rw [beq_eq_false_iff_ne]; omega
          have wr1 : IntKind.i64.wrap t = t := IntWalk.i64_in _ (by omega)
          have wr2 : IntKind.i64.wrap (t + (ys.length : Int)) = t + (ys.length : Int) := IntWalk.i64_in _ (by omega)
          have wr3 : IntKind.i64.wrap (j0 : Int) = (j0 : Int) := IntWalk.i64_in _ (by omega)
          have HIL := Lib.hid (own_IL HO.out (show B + 1 < B + 2 by omega))
          have HJ0 := Lib.hid hj0
          have hBo : B + 1 < wo.heap.size := cell_old HQ.out.1
          have hwB' : w.heap.size ≤ wo.heap.size := HW.out.size
          go_loopw [13] (fun i wr => ∃ (j : Nat) (a2 : Option Addr) (c2 : Nat), j ≤ ys.length ∧ i = .int .i64 j ∧ Bx B (.int .i64 1) (.slice a ys.length c) (.int .i64 0) wr ∧ Bx (B + 1) (.int .i64 9) (.slice a2 j c2) (.int .i64 0) wr ∧ OwnI wr wo.heap.size (.slice a2 j c2) (rot ys j0 j) ∧ IL wo.heap.size (B + 1) wr a ys ∧ Below w.heap.size w wr ∧ wo.heap.size ≤ wr.heap.size) (fun i _ => ys.length - (intOf i).toNat)
          case atStart => exact ⟨0, none, 0, Nat.zero_le _, rfl, HX.out, HQ.out, World.ownsRow_nil _ _ _ _, HIL.out, HW.out, Nat.le_refl _⟩
          case round =>
            obtain ⟨j, a2, c2, hjl, rfl, hx, hq, ho2, hil, hlow2, hsz2⟩ := hrel
            clear x0 x1 x2
            have HXr := Lib.hid hx
            have HQr := Lib.hid hq
            have HOr := Lib.hid ho2
            have HILr := Lib.hid hil
            have HWr := Lib.hid hlow2
            obtain ⟨x0, x1, x2, -⟩ := hx
            obtain ⟨y0, y1, y2, g0, g1, g2⟩ := hq
            clear ho2 hlow2
            by_cases hjt : j < ys.length
            · rcases hil with h | ⟨g, off, rfl, hg1, hg2, hcy⟩
              · exfalso; rw [h] at hjt; simp at hjt
              obtain ⟨x, hx⟩ : ∃ x, (j + j0) % ys.length = x := ⟨_, rfl⟩
              have hxl : x < ys.length := by rw [← hx]; exact Nat.mod_lt _ (by omega)
              have hxe : ((j : Int) + (j0 : Int)) % (ys.length : Int) = (x : Int) := by rw [← hx]; simp
              have hxt : ((j : Int) + (j0 : Int)).tmod (ys.length : Int) = (x : Int) := by rw [Int.tmod_eq_emod_of_nonneg (by omega)]; exact hxe
              have wr4 : IntKind.i64.wrap ((j : Int) + (j0 : Int)) = (j : Int) + (j0 : Int) := IntWalk.i64_in _ (by omega)
              have wr5 : IntKind.i64.wrap (x : Int) = (x : Int) := IntWalk.i64_in _ (by omega)
              have HT := Lib.hid (show rot ys j0 (j + 1) = rot ys j0 j ++ [nthI ys x] by rw [rot_succ, hx])
              have d0 := hcy x hxl
              obtain ⟨z, hzz⟩ : ∃ z, nthI ys x = z := ⟨_, rfl⟩
              rw [hzz] at d0 HT
              have hrl := Lib.hid (rot_len ys j0 j)
              have HOw := Lib.hid (ownI_at HOr.out hrl.out)
              clear hcy hx hzz
              have hsw : B + 1 < wr.heap.size := cell_old y1
              have HD0 : wo.heap.size ≤ wr.heap.size := hsz2
              go_upto_region 16 with fail
              go_region_law (
                 refine step_append_any (by rfl) _ _ 22 (by rfl) wo.heap.size 3 _ 1 8 tyInts (.slice a2 j c2) j ((rot ys j0 j).map (.int .i64)) (by first | rfl | simp [Act.eval, Act.put]) ?c1 (some ⟨wr.heap.size, 0, none⟩) 1 1 [.int .i64 z] (by first | rfl | simp [Act.eval, Act.put]) (by rfl) ?c2 (by simp [Value.oneCell']) (by unfold maxLen; omega) (by omega) ?c3 ?_
                 case c1 => exact ownsRow_below HOw.out (below_alloc (Below.refl _ _).drew _)
                 case c2 => exact RowAt.new wr.drew _ _
                 case c3 => simp; omega
                 intro v' w' own' hb'
                 obtain ⟨a', c', hv, -, -⟩ := own_cap (ownI_snoc hrl.out own')
                 rw [show (rot ys j0 j ++ [z]).length = j + 1 by rw [List.length_append, hrl.out]; rfl] at hv
                 subst hv
                 have HO2 := Lib.hid (ownI_snoc hrl.out own')
                 have HQ2 := Lib.hid ((HQr.out.keep (below_alloc (Below.refl _ _).drew (.cells #[.int .i64 z] 3))).low hb' (Nat.lt_of_lt_of_le hBo (Nat.le_refl _)))
                 have HX2 := Lib.hid ((HXr.out.keep (below_alloc (Below.refl _ _).drew (.cells #[.int .i64 z] 3))).low hb' (Nat.lt_of_succ_lt hBo))
                 have HW2 := Lib.hid ((below_alloc HWr.out.drew (.cells #[.int .i64 z] 3)).trans (hb'.mono (by omega)))
                 have HI2 := Lib.hid ((HILr.out.low ((below_alloc (Below.refl _ _).drew (.cells #[.int .i64 z] 3)).mono hsz2)).low hb')
                 have hsz3 : wo.heap.size ≤ w'.heap.size := Nat.le_trans (by simp; omega) hb'.size
                 obtain ⟨y0, y1, y2, g0, g1, g2⟩ := HQ2.out
                 clear own' hb')
              all_goals
                go_wp2_with fail
                go_roundw
                case rel => exact ⟨j + 1, a', c', by omega, by go_num, HX2.out.far (by omega) _ _, HQ2.out.set1 _, by rw [HT.out]; exact ownsRow_setCell_below HO2.out (a := ⟨B + 1, 1, none⟩) hBo _, HI2.out.set _ _, HW2.out.setCell (p := ⟨B + 1, 1, none⟩) (Nat.le_succ_of_le hwB) _, by simp; omega⟩
                case measure => simp [intOf]; omega
            · obtain rfl : j = ys.length := by omega
              clear hjt hjl
              have hy0 : ∀ z ∈ ys, z ≠ 0 := fun z hz' => by have := (mayL_iff.1 HM.out).1 z hz'; omega
              have hpe := pick_same A.data.toList 0 ys (rot ys j0 ys.length) hy0 (rot_mem HJ0.out)
              obtain ⟨P, hP⟩ : ∃ p, pick A.data.toList 0 ys = p := ⟨_, rfl⟩
              rw [hP] at hpe
              have HK1 : Hid (∀ w', Below wr.heap.size wr w' → Calls Tryd.prog 11 #[.agg #[.int .i64 1, .slice a ys.length c, .int .i64 0], .string A] w' fun e' w'' => e' = .returned (.int .i64 P) ∧ Below w'.heap.size w' w'') := Lib.hid (fun w' hw => by rw [← hP]; exact pick_any 1 _ c ys 0 A w' (by omega) (HILr.out.ints.keep hw) sA)
              have HK2 : Hid (∀ w', Below wr.heap.size wr w' → Calls Tryd.prog 11 #[.agg #[.int .i64 9, .slice a2 ys.length c2, .int .i64 0], .string A] w' fun e' w'' => e' = .returned (.int .i64 P) ∧ Below w'.heap.size w' w'') := Lib.hid (fun w' hw => by
                have h := pick_any 9 a2 c2 (rot ys j0 ys.length) 0 A w' (by rw [rot_len]; omega) ((own_ints HOr.out).keep hw) sA
                rw [rot_len, hpe] at h
                exact h)
              have e7 : ¬ (ys.length : Int) < (ys.length : Int) := Int.lt_irrefl _
              have ePP : (P == P) = true := beq_self_eq_true P
              clear hy0 hpe hP hil g0 g1 g2 t1 t2 hj0 hj hj2 hj3 ht wr1 wr2 wr3
              go_upto_region 17 with fail
              have HC := Lib.hid (Below.refl wr.heap.size wr).drew
              go_region_with (go_at_call 11; (first | ((with_reducible refine (HK1.out _ HC.out).mono ?_)) | ((with_reducible refine (HK2.out _ HC.out).mono ?_))); rintro e' w7 ⟨rfl, hb⟩; have HC := Lib.hid (below_on HC.out hb); obtain ⟨x0, x1, x2, -⟩ := HXr.out.keep HC.out; obtain ⟨y0, y1, y2, -⟩ := HQr.out.keep HC.out; clear hb)
              all_goals
                go_wp2_with fail
                go_ret
                exact ⟨rfl, below_on HWr.out HC.out⟩
end Go.Proofs.YtdpkmcbpeloljaaDoor

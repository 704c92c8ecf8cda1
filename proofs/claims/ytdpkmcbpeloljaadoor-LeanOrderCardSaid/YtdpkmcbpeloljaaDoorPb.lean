/- Walk of pouch.count, May. -/
import Derived.Test.YtdpkmcbpeloljaaDoorPa
import Derived.BigQuiet
import Derived.Deep.QuietTactic
namespace Go.Proofs.YtdpkmcbpeloljaaDoor
open Go.RowKit

theorem str_empty (s : ByteArray) : s.toList.isEmpty = true ↔ s.size = 0 := by
  rw [List.isEmpty_iff, ← List.length_eq_zero_iff, Lib.toList_data, Array.length_toList]
  rfl
/-- Which way pouch.count goes. -/
def way1 (k : Int) (bs bl : Bool) : Bool := (k == 1) && bs && bl
def way2 (k : Int) (bn bl : Bool) : Bool := (k == 2) && bn && bl
def way3 (k : Int) (bn bs : Bool) : Bool := (k != 3) || !bn || !bs
theorem pcount_way {k n : Int} {s : ByteArray} {l : List PV} {d : Nat} {bn bs bl : Bool} (hn : bn = true ↔ n = 0) (hs : bs = true ↔ s.size = 0) (hl : bl = true ↔ l.length = 0) (h6 : ¬ 6 < d) :
    pcount (.mk k n s l) d = if way1 k bs bl = true then 1 else if way2 k bn bl = true then 1 else if way3 k bn bs = true then 6001 else pcountL l (d + 1) 1 := by
  have e1 : way1 k bs bl = true ↔ k = 1 ∧ s.size = 0 ∧ l.length = 0 := by
    unfold way1; simp only [Bool.and_eq_true, beq_iff_eq, hs, hl, and_assoc]
  have e2 : way2 k bn bl = true ↔ k = 2 ∧ n = 0 ∧ l.length = 0 := by
    unfold way2; simp only [Bool.and_eq_true, beq_iff_eq, hn, hl, and_assoc]
  have e3 : way3 k bn bs = true ↔ k ≠ 3 ∨ n ≠ 0 ∨ s.size ≠ 0 := by
    unfold way3
    simp only [Bool.or_eq_true, bne_iff_ne, ne_eq, Bool.not_eq_true', ← Bool.not_eq_true, hn, hs, or_assoc]
  unfold pcount
  rw [if_neg h6]
  by_cases h1 : way1 k bs bl = true
  · rw [if_pos h1, if_pos (Or.inl (e1.1 h1))]
  · rw [if_neg h1]
    by_cases h2 : way2 k bn bl = true
    · rw [if_pos h2, if_pos (Or.inr (e2.1 h2))]
    · rw [if_neg h2, if_neg (fun h => h.elim (fun h => h1 (e1.2 h)) (fun h => h2 (e2.2 h)))]
      by_cases h3 : way3 k bn bs = true
      · rw [if_pos h3, if_pos (e3.1 h3)]
      · rw [if_neg h3, if_neg (fun h => h3 (e3.2 h))]
set_option maxRecDepth 100000 in
set_option maxHeartbeats 3200000 in
theorem count_any {w : World} {x : PV} {v : Value} (h : PAt w x v) : ∀ (d : Nat) (W : World), Below w.heap.size w W → d ≤ 100 →
    Calls Tryd.prog 61 #[v, .int .i64 d] W fun e w' => e = .returned (.int .i64 (pcount x d)) ∧ Below W.heap.size W w' := by
  induction h with
  | mk k n s l a c vs hk hn hs hl hr hv ih =>
    intro d W hb hd
    have hrW := hr.below hb (Nat.le_refl _)
    have HR := Lib.hid hrW
    clear hr hrW
    have HI := Lib.hid ih
    have HV := Lib.hid hv
    clear ih hv
    obtain ⟨bn, hbn⟩ : ∃ b, (n == 0) = b := ⟨_, rfl⟩
    obtain ⟨bs, hbs⟩ : ∃ b, s.toList.isEmpty = b := ⟨_, rfl⟩
    obtain ⟨bl, hbl⟩ : ∃ b, ((l.length : Int) == 0) = b := ⟨_, rfl⟩
    have n0 : bn = true ↔ n = 0 := by rw [← hbn]; simp
    have s0 : bs = true ↔ s.size = 0 := by rw [← hbs]; exact str_empty s
    have l0 : bl = true ↔ l.length = 0 := by rw [← hbl]; simp
    have N0 := Lib.hid n0
    have S0 := Lib.hid s0
    have L0 := Lib.hid l0
    have HBW : Hid (∀ nq, Below W.heap.size W ((W.alloc (.cells #[.int .i64 k, .int .i64 n, .string s, .slice a l.length c] 59)).drewN nq)) := Lib.hid fun nq => below_drewN (below_alloc (Below.refl _ _) _) nq
    clear n0 s0 l0
    by_cases h6 : 6 < d
    · have h6' : decide ((6 : Int) < (d : Int)) = true := decide_eq_true (by omega)
      have HP := Lib.hid (show pcount (.mk k n s l) d = 6001 by unfold pcount; rw [if_pos h6])
      go_enter Tryd.func61, Tryd.ntmps61
      go_wp2_with fail
      go_quiet (fail)
      go_wp2_with fail
      go_ret
      exact ⟨ret_int (by rw [HP.out]; rfl), HBW.out _⟩
    have h6' : decide ((6 : Int) < (d : Int)) = false := decide_eq_false (by omega)
    have HQ := Lib.hid (pcount_way (k := k) (l := l) (d := d) N0.out S0.out L0.out h6)
    go_enter Tryd.func61, Tryd.ntmps61
    go_wp2_with fail
    go_quiet (fail)
    go_upto_region 4 with fail
    have x0 : ((W.alloc (.cells #[.int .i64 k, .int .i64 n, .string s, .slice a l.length c] 59)).drewN nq).cell? ⟨W.heap.size, 0, none⟩ = some (.int .i64 k) := by simp [go_sem]
    have x3 : ((W.alloc (.cells #[.int .i64 k, .int .i64 n, .string s, .slice a l.length c] 59)).drewN nq).cell? ⟨W.heap.size, 3, none⟩ = some (.slice a l.length c) := by simp [go_sem]
    have HB1 := Lib.hid (HBW.out nq)
    clear HBW
    generalize ((W.alloc (.cells #[.int .i64 k, .int .i64 n, .string s, .slice a l.length c] 59)).drewN nq) = V at x0 x3 HB1 ⊢
    have X3 := Lib.hid x3
    clear x3 hbn hbs hbl
    go_cut [24] (fun v wx => v = .bool (way1 k bs bl) ∧ wx = V)
    case first =>
      by_cases h1 : k = 1
      · subst h1
        cases bs <;> (go_wp2_with fail; go_meet; exact ⟨rfl, rfl⟩)
      · have h1' : (k == 1) = false := by simpa using h1
        have HW := Lib.hid (show way1 k bs bl = false by unfold way1; rw [h1']; rfl)
        clear h1
        go_wp2_with fail
        go_meet
        exact ⟨by rw [HW.out], rfl⟩
    case rest =>
      obtain ⟨rfl, rfl⟩ := hcut
      obtain ⟨p1, hp1⟩ : ∃ b, way1 k bs bl = b := ⟨_, rfl⟩
      rw [hp1] at HQ ⊢
      clear hp1
      cases p1
      · go_upto_region 5 with fail
        go_cut [24] (fun v wx => v = .bool (way2 k bn bl) ∧ wx = wc)
        case first =>
          by_cases h1 : k = 2
          · subst h1
            cases bn <;> (go_wp2_with fail; go_meet; exact ⟨rfl, rfl⟩)
          · have h1' : (k == 2) = false := by simpa using h1
            have HW := Lib.hid (show way2 k bn bl = false by unfold way2; rw [h1']; rfl)
            clear h1
            go_wp2_with fail
            go_meet
            exact ⟨by rw [HW.out], rfl⟩
        case rest =>
          obtain ⟨rfl, rfl⟩ := hcut
          obtain ⟨p2, hp2⟩ : ∃ b, way2 k bn bl = b := ⟨_, rfl⟩
          rw [hp2] at HQ ⊢
          clear hp2
          cases p2
          · go_upto_region 7 with fail
            go_cut [43] (fun v wx => v = .bool (way3 k bn bs) ∧ wx = wc)
            case first =>
              by_cases h1 : k = 3
              · subst h1
                cases bn <;> (go_wp2_with fail; go_meet; exact ⟨rfl, rfl⟩)
              · have h1' : (k != 3) = true := by simpa using h1
                have HW := Lib.hid (show way3 k bn bs = true by unfold way3; rw [h1']; rfl)
                clear h1
                go_wp2_with fail
                go_meet
                exact ⟨by rw [HW.out], rfl⟩
            case rest =>
              obtain ⟨rfl, rfl⟩ := hcut
              obtain ⟨p3, hp3⟩ : ∃ b, way3 k bn bs = b := ⟨_, rfl⟩
              rw [hp3] at HQ ⊢
              clear hp3
              cases p3
              · have x3 := X3.out
                have HQ2 := Lib.hid (show pcount (.mk k n s l) d = pcountL l (d + 1) 1 from HQ.out)
                clear HQ
                go_wp2_with fail
                clear x0 x3
                go_loopw [8, 58] (fun nv i wr => ∃ j acc : Nat, j ≤ l.length ∧ i = .int .i64 j ∧ nv = .int .i64 acc ∧ acc ≤ 6000 ∧ pcountL (l.drop j) (d + 1) acc = pcountL l (d + 1) 1 ∧ Below W.heap.size W wr) (fun _ i _ => l.length - (intOf i).toNat)
                case atStart => exact ⟨0, 1, Nat.zero_le _, rfl, rfl, by omega, rfl, HB1.out⟩
                case round =>
                  obtain ⟨j, acc, hj, rfl, rfl, hacc, hL, hB⟩ := hrel
                  have HL := Lib.hid hL
                  have HB := Lib.hid hB
                  clear HB1 X3 hL hB
                  by_cases hlt : j < l.length
                  · rcases HR.out with h | ⟨b, off, rfl, hbs, hc⟩
                    · omega
                    obtain ⟨k', n', s', a', m', c', hvj⟩ := (HV.out j l[j] (List.getElem?_eq_getElem hlt)).form
                    obtain ⟨y0, y1, y2, y3⟩ := ((hc j hlt).below HB.out hbs).of hvj
                    have HX := Lib.hid (HI.out j l[j] (List.getElem?_eq_getElem hlt) (d + 1))
                    rw [hvj] at HX
                    have HD := Lib.hid (show pcountL (l.drop j) (d + 1) acc = if 6000 < acc + pcount l[j] (d + 1) then 6001 else pcountL (l.drop (j + 1)) (d + 1) (acc + pcount l[j] (d + 1)) by rw [drop_cons hlt]; conv => lhs; unfold pcountL)
                    have hle := pcount_le l[j] (d + 1)
                    obtain ⟨q, hq⟩ : ∃ q, pcount l[j] (d + 1) = q := ⟨_, rfl⟩
                    rw [hq] at HX HD hle
                    clear hq hc hvj
                    have hlow : Below w.heap.size w wr := hb.trans (HB.out.mono hb.size)
                    have HLo := Lib.hid hlow
                    clear hlow
                    go_upto_region 14 with (go_at_call 61; refine (HX.out _ (HLo.out.alloc HLo.out.size _) (by omega)).mono ?_; rintro e' w' ⟨rfl, hb2⟩; have HB2 := Lib.hid (HB.out.trans (((Below.refl _ _).alloc HB.out.size _).trans (hb2.mono (by have := HB.out.size; simp; omega)))); clear hb2)
                    by_cases hbig : 6000 < acc + q
                    · have hbig' : decide ((6000 : Int) < (acc : Int) + (q : Int)) = true := decide_eq_true (by omega)
                      have HE := Lib.hid (show pcount (.mk k n s l) d = 6001 by rw [HQ2.out, ← HL.out, HD.out, if_pos hbig])
                      go_wp2_with fail
                      go_ret
                      exact ⟨ret_int (by rw [HE.out]; rfl), HB2.out⟩
                    · have hbig' : decide ((6000 : Int) < (acc : Int) + (q : Int)) = false := decide_eq_false (by omega)
                      have HE := Lib.hid (show pcountL (l.drop (j + 1)) (d + 1) (acc + q) = pcountL l (d + 1) 1 by rw [← HL.out, HD.out, if_neg hbig])
                      go_wp2_with fail
                      go_roundw
                      case rel => exact ⟨j + 1, acc + q, by omega, by go_num, by go_num, by omega, HE.out, HB2.out⟩
                      case measure => simp [intOf]; omega
                  · obtain rfl : j = l.length := by omega
                    have HE := Lib.hid (show pcount (.mk k n s l) d = acc by rw [HQ2.out, ← HL.out, List.drop_length]; rfl)
                    go_wp2_with fail
                    go_ret
                    exact ⟨ret_int (by rw [HE.out]), HB.out⟩
              · go_wp2_with fail
                go_ret
                exact ⟨ret_int (by rw [HQ.out]; rfl), HB1.out⟩
          · go_wp2_with fail
            go_ret
            exact ⟨ret_int (by rw [HQ.out]; rfl), HB1.out⟩
      · go_wp2_with fail
        go_ret
        exact ⟨ret_int (by rw [HQ.out]; rfl), HB1.out⟩
end Go.Proofs.YtdpkmcbpeloljaaDoor

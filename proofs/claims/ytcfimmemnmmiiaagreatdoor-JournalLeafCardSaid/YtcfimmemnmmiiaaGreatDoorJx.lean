/- JournalLeaf: the walk. -/
import Derived.Test.YtcfimmemnmmiiaaGreatDoorJv
import Derived.Test.YtcfimmemnmmiiaaGreatDoorNG
import Derived.Test.YtcfimmemnmmiiaaGreatDoorNF
import Derived.Test.YtcfimmemnmmiiaaGreatDoorN2
import Derived.Test.YtcfimmemnmmiiaaGreatDoorDg
import Derived.Test.YtcfimmemnmmiiaaGreatDoorLh
import Derived.Test.YtcfimmemnmmiiaaGreatDoorLo
namespace Go.Proofs.YtcfimmemnmmiiaaGreatDoor
open Go.RowKit

set_option maxRecDepth 100000 in
set_option maxHeartbeats 6400000 in
theorem journalLeaf_neg (s t : ByteArray) (n : Int) (x : UInt8) (hn : n < 0) (hs : s.size ≤ 9223372036854775807) (ht : t.size ≤ 9223372036854775807) (w : World) (LA : Laid w) :
    Calls Tryz.prog 8 #[.string s, .string t, .int .i64 n, .int .u8 (x.toNat : Int)] w fun e w' => e = .returned (.bool true) ∧ Below w.heap.size w w' := by
  obtain ⟨A, hA⟩ : ∃ A, Hid (cutS s 100 = A) := ⟨_, Lib.hid rfl⟩
  obtain ⟨M, hM⟩ : ∃ M, Hid (cutS t 30 = M) := ⟨_, Lib.hid rfl⟩
  have sA : A.size ≤ 100 := by rw [← hA.out, cutS_size]; omega
  have sM : M.size ≤ 30 := by rw [← hM.out, cutS_size]; omega
  obtain ⟨hF1, hF2⟩ := leaf_bd (s := A) (by omega)
  have d0 : decide (n < 0) = true := decide_eq_true hn
  have HLf : Hid (∀ W, Laid W → Calls Tryz.prog 31 #[.string A] W fun e w' => e = .returned (.string (leafB A)) ∧ Below W.heap.size W w') := Lib.hid (fun W h => leaf_any A W h (by omega))
  have HRf : Hid (∀ W, Calls Tryz.prog 33 #[.string A] W fun e w' => e = .returned (.string (leafB A)) ∧ Below W.heap.size W w') := Lib.hid (fun W => rleaf_any A W (by omega))
  have HT : Hid (∀ W, Laid W → Calls Tryz.prog 32 #[.string (catB (leafB A) M)] W fun e w' => e = .returned (.tuple #[.string A, .int .i64 ((leafB A).size : Int), .int .i64 0]) ∧ Below W.heap.size W w') := Lib.hid (fun W h => by
    have h1 := turn_any (catB (leafB A) M) W h (by rw [catB_size]; omega)
    have h2 : turnS (catB (leafB A) M) = (A, (leafB A).size, 0) := by
      rw [Lib.size_eq (leafB A), leafB_list]
      exact turn_leaf (by omega) (by rw [catB_list, leafB_list])
    unfold TurnR at h1
    rw [h2] at h1
    exact h1)
  have hcat : ∀ w, (Op.stringOp .add (leafB A) M).run Tryz.prog w = .ok (.string (catB (leafB A) M)) w := fun w => run_catS _ _ (by omega) w
  have hcz : (catB (leafB A) M).size ≤ 200 := by rw [catB_size]; omega
  generalize catB (leafB A) M = C at HT hcat hcz
  generalize leafB A = F at HLf HRf HT hcat hF1 hF2
  have hff : (F.toList != F.toList) = false := by simp [bne]
  have hff2 : (F.toList == F.toList) = true := by simp
  have haa : (A.toList != A.toList) = false := by simp [bne]
  have haa2 : (A.toList == A.toList) = true := by simp
  have HL := Lib.hid LA
  clear LA
  go_enter Tryz.func8, Tryz.ntmps8
  go_wp2_with fail
  refine (begun4_any w HL.out).mono ?_
  rintro e w1 ⟨rfl, hb⟩
  have HB := Lib.hid hb
  clear hb
  go_wp2_with fail
  refine (cut_p s A 100 100 w1 hA hs (by decide) rfl).mono ?_
  rintro e w2 ⟨rfl, rfl⟩
  go_wp2_with fail
  refine (cut_p t M 30 30 w1 hM ht (by decide) rfl).mono ?_
  rintro e w2 ⟨rfl, rfl⟩
  go_wp2_with fail
  refine (HLf.out _ (HL.out.keep HB.out)).mono ?_
  rintro e w3 ⟨rfl, hb⟩
  have HB3 := Lib.hid (below_on HB.out hb)
  clear hb
  go_wp2_with fail
  refine (HT.out _ (HL.out.keep HB3.out)).mono ?_
  rintro e w4 ⟨rfl, hb⟩
  have HB4 := Lib.hid (below_on HB3.out hb)
  clear hb
  go_wp2_with fail
  refine (HRf.out _).mono ?_
  rintro e w5 ⟨rfl, hb⟩
  have HB5 := Lib.hid (below_on HB4.out hb)
  clear hb
  go_wp2_with fail
  refine (HRf.out _).mono ?_
  rintro e w6 ⟨rfl, hb⟩
  have HB6 := Lib.hid (below_on HB5.out hb)
  clear hb
  go_wp2_with fail
  go_ret
  exact ⟨rfl, HB6.out⟩
set_option maxRecDepth 100000 in
set_option maxHeartbeats 6400000 in
theorem journalLeaf_good (s t : ByteArray) (n : Nat) (x : UInt8) (hs : s.size ≤ 9223372036854775807) (ht : t.size ≤ 9223372036854775807) (w : World) (LA : Laid w) :
    Calls Tryz.prog 8 #[.string s, .string t, .int .i64 (n : Int), .int .u8 (x.toNat : Int)] w fun e w' => e = .returned (.bool true) ∧ Below w.heap.size w w' := by
  obtain ⟨A, hA⟩ : ∃ A, Hid (cutS s 100 = A) := ⟨_, Lib.hid rfl⟩
  obtain ⟨M, hM⟩ : ∃ M, Hid (cutS t 30 = M) := ⟨_, Lib.hid rfl⟩
  have sA : A.size ≤ 100 := by rw [← hA.out, cutS_size]; omega
  have sM : M.size ≤ 30 := by rw [← hM.out, cutS_size]; omega
  obtain ⟨hF1, hF2⟩ := leaf_bd (s := A) (by omega)
  have d0 : decide ((n : Int) < 0) = false := decide_eq_false (by omega)
  have HLf : Hid (∀ W, Laid W → Calls Tryz.prog 31 #[.string A] W fun e w' => e = .returned (.string (leafB A)) ∧ Below W.heap.size W w') := Lib.hid (fun W h => leaf_any A W h (by omega))
  have HRf : Hid (∀ W, Calls Tryz.prog 33 #[.string A] W fun e w' => e = .returned (.string (leafB A)) ∧ Below W.heap.size W w') := Lib.hid (fun W => rleaf_any A W (by omega))
  have HT : Hid (∀ W, Laid W → Calls Tryz.prog 32 #[.string (catB (leafB A) M)] W fun e w' => e = .returned (.tuple #[.string A, .int .i64 ((leafB A).size : Int), .int .i64 0]) ∧ Below W.heap.size W w') := Lib.hid (fun W h => by
    have h1 := turn_any (catB (leafB A) M) W h (by rw [catB_size]; omega)
    have h2 : turnS (catB (leafB A) M) = (A, (leafB A).size, 0) := by
      rw [Lib.size_eq (leafB A), leafB_list]
      exact turn_leaf (by omega) (by rw [catB_list, leafB_list])
    unfold TurnR at h1
    rw [h2] at h1
    exact h1)
  have hcat : ∀ w, (Op.stringOp .add (leafB A) M).run Tryz.prog w = .ok (.string (catB (leafB A) M)) w := fun w => run_catS _ _ (by omega) w
  have hcz : (catB (leafB A) M).size ≤ 200 := by rw [catB_size]; omega
  have hll : (leafB A).size = (leafL A.data.toList).length := by rw [Lib.size_eq, leafB_list]
  have hz : (((leafB A).size : Int) == 0) = false := by rw [beq_eq_false_iff_ne]; omega
  obtain ⟨k, hk⟩ : ∃ k, n % (leafB A).size = k := ⟨_, rfl⟩
  have hks : k < (leafB A).size := by rw [← hk]; exact Nat.mod_lt _ (by omega)
  have hkl : k < (leafB A).data.toList.length := by rw [← size_list]; exact hks
  have hrem : (n : Int) % ((leafB A).size : Int) = (k : Int) := by omega
  -- the front
  obtain ⟨P, hP⟩ : ∃ P, (leafB A).extract 0 k = P := ⟨_, rfl⟩
  have hsl : ∀ w, (Instr.slice 9 (.string (leafB A)) none (some (.int .i64 (k : Int))) none).run Tryz.prog w = .ok (.string P) w := fun w => by rw [← hP]; exact run_cutS _ k (by omega) (by omega) w
  have HTP : Hid (∀ W, Laid W → Calls Tryz.prog 32 #[.string P] W fun e w' => e = .returned (.tuple #[.string ⟨#[]⟩, .int .i64 0, .int .i64 2]) ∧ Below W.heap.size W w') := Lib.hid (fun W h => by
    have h1 := turn_any P W h (by rw [← hP, ByteArray.size_extract]; omega)
    have h2 : turnS P = (⟨#[]⟩, 0, 2) := turn_front (u := A) (k := k) (by omega) (by omega) (by rw [← hP, Lib.extract_data, List.drop_zero, Nat.sub_zero, leafB_list])
    unfold TurnR at h1
    rw [h2] at h1
    exact h1)
  -- the byte
  obtain ⟨y, hy⟩ : ∃ y, (leafB A).data.toList[k] = y := ⟨_, rfl⟩
  have hcell := fun w => bw_cell w (leafB A) k hkl
  have hfz := fun w => bw_frozen w (leafB A) k hks
  have hxor := xor_u8 y x
  rw [hy] at hcell
  have hrow := fun w => row_set hkl (y ^^^ x) (bw_row w (leafB A))
  rw [UInt8.toNat_xor] at hrow
  have HRW := Lib.hid hrow
  have HLn := Lib.hid (show ((leafB A).data.toList.set k (y ^^^ x)).length = (leafB A).size by rw [List.length_set, ← size_list])
  obtain ⟨U, hU⟩ : ∃ U : ByteArray, (⟨((leafB A).data.toList.set k (y ^^^ x)).toArray⟩ : ByteArray) = U := ⟨_, rfl⟩
  have hUl : U.data.toList = (leafL A.data.toList).set k (y ^^^ x) ++ [] := by rw [← hU, List.append_nil, ← leafB_list]
  have HUz := Lib.hid (show U.size = (leafB A).size by rw [size_list, ← hU]; exact HLn.out)
  have hx0 : x = 0 → turnS U = (A, (leafB A).size, 0) := fun e => by
    rw [hll]
    refine turn_leaf (r := []) (by omega) ?_
    rw [hUl, e, UInt8.xor_zero, ← hy, List.append_nil, List.append_nil]
    simp [leafB_list]
  have hx1 : x ≠ 0 → (k < 8 ∨ 8 + (Lib.decDigits A.size).length < k) → (turnS U).2.2 = 3 := fun e hr => by
    refine turn_spoilt (s := A) (by omega) (k := k) (y := y ^^^ x) (r := []) (by omega) ?_ hr hUl
    intro h
    apply e
    have h3 : (leafL A.data.toList)[k]'(by omega) = y := by rw [← hy]; simp [leafB_list]
    rw [h3] at h
    have h4 : y ^^^ x ^^^ y = y ^^^ y := by rw [h]
    rw [UInt8.xor_self, UInt8.xor_comm y x, UInt8.xor_assoc, UInt8.xor_self, UInt8.xor_zero] at h4
    exact h4
  have HTU : Hid (∀ W, Laid W → Calls Tryz.prog 32 #[.string U] W (TurnR W U)) := Lib.hid (fun W h => turn_any U W h (by rw [HUz.out]; omega))
  obtain ⟨D, hD⟩ : ∃ D : ByteArray, (⟨(Lib.decDigits A.size).toArray⟩ : ByteArray) = D := ⟨_, rfl⟩
  have hDz : D.size = (Lib.decDigits A.size).length := by rw [size_list, ← hD]
  have hDb : D.size ≤ 7 := by rw [hDz]; exact digits_le (by omega)
  have HDg : Hid (∀ W, Calls Tryz.prog 34 #[.int .i64 (A.size : Int)] W fun e w' => e = .returned (.string D) ∧ Below W.heap.size W w') := Lib.hid (fun W => digits_at (A.size : Int) D (by rw [itoa_nat, ← hD]) (by omega) (by omega) W)
  rw [← hDz] at hx1
  obtain ⟨⟨tu, tn, te⟩, hTU⟩ : ∃ q, turnS U = q := ⟨_, rfl⟩
  rw [hTU] at hx0 hx1
  have HTU2 : Hid (∀ W, Laid W → Calls Tryz.prog 32 #[.string U] W fun e w' => e = .returned (.tuple #[.string tu, .int .i64 tn, .int .i64 te]) ∧ Below W.heap.size W w') := Lib.hid (fun W h => by
    have := HTU.out W h
    unfold TurnR at this
    rw [hTU] at this
    exact this)
  have hX0 := Lib.hid hx0
  have hX1 := Lib.hid hx1
  have HU := Lib.hid hU
  generalize catB (leafB A) M = C at HT hcat hcz
  clear hk hkl hy hrow hU hUl hP hD hDz hTU HTU hll hx0 hx1
  generalize leafB A = F at *
  have hff : (F.toList != F.toList) = false := by simp [bne]
  have hff2 : (F.toList == F.toList) = true := by simp
  have haa : (A.toList != A.toList) = false := by simp [bne]
  have haa2 : (A.toList == A.toList) = true := by simp
  have HL := Lib.hid LA
  have kc := run_bytes'
  clear LA
  go_enter Tryz.func8, Tryz.ntmps8
  go_wp2_with fail
  refine (begun4_any w HL.out).mono ?_
  rintro e w1 ⟨rfl, hb⟩
  have HB := Lib.hid hb
  clear hb
  go_wp2_with fail
  refine (cut_p s A 100 100 w1 hA hs (by decide) rfl).mono ?_
  rintro e w2 ⟨rfl, rfl⟩
  go_wp2_with fail
  refine (cut_p t M 30 30 w1 hM ht (by decide) rfl).mono ?_
  rintro e w2 ⟨rfl, rfl⟩
  go_wp2_with fail
  refine (HLf.out _ (HL.out.keep HB.out)).mono ?_
  rintro e w3 ⟨rfl, hb⟩
  have HB3 := Lib.hid (below_on HB.out hb)
  clear hb
  go_wp2_with fail
  refine (HT.out _ (HL.out.keep HB3.out)).mono ?_
  rintro e w4 ⟨rfl, hb⟩
  have HB4 := Lib.hid (below_on HB3.out hb)
  clear hb
  go_wp2_with fail
  refine (HRf.out _).mono ?_
  rintro e w5 ⟨rfl, hb⟩
  have HB5 := Lib.hid (below_on HB4.out hb)
  clear hb
  go_wp2_with fail
  refine (HTP.out _ (HL.out.keep HB5.out)).mono ?_
  rintro e w6 ⟨rfl, hb⟩
  have HB6 := Lib.hid (below_on HB5.out hb)
  clear hb
  go_wp2_with fail
  have HR2 := Lib.hid (HRW.out w6)
  have HB7 := Lib.hid ((below_on HB6.out (bw_below w6 F)).setCell (p := ⟨w6.heap.size, k, none⟩) HB6.out.size (.int .u8 ((y.toNat ^^^ x.toNat : Nat) : Int)))
  generalize (bw w6 F).setCell ⟨w6.heap.size, k, none⟩ (.int .u8 ((y.toNat ^^^ x.toNat : Nat) : Int)) = V2 at HR2 HB7 ⊢
  have hconv : (convert 47 9 (.slice (some ⟨w6.heap.size, 0, none⟩) F.size (gc w6 F))).run Tryz.prog V2 = .ok (.string U) V2 := by rw [← HU.out]; exact run_bytes_str _ HR2.out HLn.out
  clear HR2 HRW hcell hfz
  rw [hconv]
  go_wp2_with fail
  refine (HTU2.out _ (HL.out.keep HB7.out)).mono ?_
  rintro e w8 ⟨rfl, hb⟩
  have HB8 := Lib.hid (below_on HB7.out hb)
  clear hb
  go_wp2_with fail
  refine (HDg.out _).mono ?_
  rintro e w9 ⟨rfl, hb⟩
  have HB9 := Lib.hid (below_on HB8.out hb)
  clear hb hconv
  have h9 : IntKind.i64.wrap (9 + (D.size : Int)) = 9 + (D.size : Int) := IntWalk.i64_in _ (by omega)
  by_cases hx : x = 0
  · have q0 : ((x.toNat : Int) == 0) = true := by rw [hx]; rfl
    have q0' : (x.toNat == 0) = true := by rw [hx]; rfl
    have hq := hX0.out hx
    simp only [Prod.mk.injEq] at hq
    obtain ⟨rfl, rfl, rfl⟩ := hq
    obtain ⟨b8, c8⟩ : ∃ b8, decide ((8 : Int) ≤ (k : Int)) = b8 := ⟨_, rfl⟩
    obtain ⟨b9, c9⟩ : ∃ b9, decide ((k : Int) < 9 + (D.size : Int)) = b9 := ⟨_, rfl⟩
    clear hx hX0 hX1
    cases b8
    · go_wp2_with fail
      go_ret
      exact ⟨rfl, HB9.out⟩
    · cases b9
      · go_wp2_with fail
        go_ret
        exact ⟨rfl, HB9.out⟩
      · go_wp2_with fail
        go_ret
        exact ⟨rfl, HB9.out⟩
  · have hxn : x.toNat ≠ 0 := fun e => hx (UInt8.toNat.inj e)
    have q0 : ((x.toNat : Int) == 0) = false := by rw [beq_eq_false_iff_ne]; omega
    have q0' : (x.toNat == 0) = false := by rw [beq_eq_false_iff_ne]; exact hxn
    have q1 : ((x.toNat : Int) != 0) = true := by simp [bne, q0]
    have q1' : (x.toNat != 0) = true := by simp [bne, q0']
    have hq := hX1.out hx
    clear hx hxn hX0 hX1
    by_cases h8 : k < 8
    · have c8 : decide ((8 : Int) ≤ (k : Int)) = false := decide_eq_false (by omega)
      obtain rfl := hq (Or.inl h8)
      clear hq
      go_wp2_with fail
      go_ret
      exact ⟨rfl, HB9.out⟩
    · have c8 : decide ((8 : Int) ≤ (k : Int)) = true := decide_eq_true (by omega)
      by_cases hd : 8 + D.size < k
      · have c9 : decide ((k : Int) < 9 + (D.size : Int)) = false := decide_eq_false (by omega)
        obtain rfl := hq (Or.inr hd)
        clear hq
        go_wp2_with fail
        go_ret
        exact ⟨rfl, HB9.out⟩
      · have c9 : decide ((k : Int) < 9 + (D.size : Int)) = true := decide_eq_true (by omega)
        clear hq
        obtain ⟨b, hb⟩ : ∃ b, ((te : Int) != 0) = b := ⟨_, rfl⟩
        cases b
        · go_wp2_with fail
          go_ret
          exact ⟨rfl, HB9.out⟩
        · go_wp2_with fail
          go_ret
          exact ⟨rfl, HB9.out⟩
theorem journalLeaf_walk (s t : ByteArray) (n : Int) (x : UInt8) (hs : s.size ≤ 9223372036854775807) (ht : t.size ≤ 9223372036854775807) (w : World) (LA : Laid w) :
    Calls Tryz.prog 8 #[.string s, .string t, .int .i64 n, .int .u8 (x.toNat : Int)] w fun e w' => e = .returned (.bool true) ∧ Below w.heap.size w w' := by
  by_cases hn : n < 0
  · exact journalLeaf_neg s t n x hn hs ht w LA
  obtain ⟨k, rfl⟩ := Int.eq_ofNat_of_zero_le (by omega : 0 ≤ n)
  exact journalLeaf_good s t k x hs ht w LA
end Go.Proofs.YtcfimmemnmmiiaaGreatDoor

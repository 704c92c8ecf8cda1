/- Walks of gauss.Read, the document's Read. -/
import Derived.Test.YtdpkmcbpeloljaaDoorGk
namespace Go.Proofs.YtdpkmcbpeloljaaDoor
open Go.RowKit

def okc (c : UInt8) : Bool := decide (48 ≤ c.toNat ∧ c.toNat ≤ 57) || decide (97 ≤ c.toNat ∧ c.toNat ≤ 102)
def hval (c : UInt8) : Nat := if c.toNat ≤ 57 then c.toNat - 48 else c.toNat - 87
def hexN (l : List UInt8) : Nat := l.foldl (fun a c => a * 16 + hval c) 0
/-- What a text of a mark tells. -/
def readZ (l : List UInt8) : Option ZP := if l.length = 8 ∧ l.all okc = true ∧ hexN (l.take 4) < 65521 ∧ hexN (l.drop 4) < 65521 then some (hexN (l.take 4), hexN (l.drop 4)) else none
def rdV : Option ZP → Value
  | some p => .tuple #[cv p, .bool true]
  | none => .tuple #[cv (0, 0), .bool false]
def rrV : Option ZP → Value
  | some p => .tuple #[zv p, .bool true]
  | none => .tuple #[zv (0, 0), .bool false]
theorem hexN_snoc (l : List UInt8) (c : UInt8) : hexN (l ++ [c]) = hexN l * 16 + hval c := by unfold hexN; rw [List.foldl_append]; rfl
theorem hval_ok {c : UInt8} (h : okc c = true) : hval c < 16 := by
  unfold okc at h; unfold hval
  simp only [Bool.or_eq_true, decide_eq_true_eq] at h
  split <;> omega
theorem fold_lt : ∀ (l : List UInt8) (a : Nat), l.all okc = true → l.foldl (fun a c => a * 16 + hval c) a < (a + 1) * 16 ^ l.length := by
  intro l
  induction l with
  | nil => intro a _; simp
  | cons c t ih =>
    intro a h
    rw [List.all_cons, Bool.and_eq_true] at h
    have h2 := hval_ok h.1
    have h3 := ih (a * 16 + hval c) h.2
    have h4 : (a * 16 + hval c + 1) * 16 ^ t.length ≤ ((a + 1) * 16) * 16 ^ t.length := Nat.mul_le_mul_right _ (by omega)
    rw [List.foldl_cons, List.length_cons, Nat.pow_succ, Nat.mul_comm (16 ^ t.length) 16, ← Nat.mul_assoc]
    omega
theorem hexN_lt (l : List UInt8) (h : l.all okc = true) : hexN l < 16 ^ l.length := by
  have := fold_lt l 0 h
  simpa [hexN] using this
/-- What has been read after k bytes. -/
def RdI (l : List UInt8) (k : Nat) (a b : Nat) : Prop := (l.take k).all okc = true ∧ a = hexN ((l.take k).take 4) ∧ b = hexN ((l.take k).drop 4) ∧ a < 65536 ∧ b < 65536
theorem rdI_zero (l : List UInt8) : RdI l 0 0 0 := ⟨rfl, rfl, rfl, by decide, by decide⟩
theorem rdI_lo {l : List UInt8} {k a b : Nat} (h : RdI l k a b) (hk : k < l.length) (hk4 : k < 4) (hc : okc l[k] = true) : RdI l (k + 1) (a * 16 + hval l[k]) b := by
  obtain ⟨h1, rfl, rfl, h4, h5⟩ := h
  have e := take_next l k hk
  have hlen : (l.take k).length = k := by simp; omega
  have h6 : (l.take (k + 1)).all okc = true := by rw [e, List.all_append, h1]; simpa using hc
  have h7 : (l.take (k + 1)).take 4 = (l.take k).take 4 ++ [l[k]] := by
    rw [e, List.take_append, hlen]
    congr 1
    exact List.take_of_length_le (by simp; omega)
  have h8 : (l.take (k + 1)).drop 4 = (l.take k).drop 4 := by
    rw [List.drop_of_length_le (by simp; omega), List.drop_of_length_le (by simp; omega)]
  refine ⟨h6, by rw [h7, hexN_snoc], by rw [h8], ?_, h5⟩
  rw [← hexN_snoc, ← h7]
  have h9 : ((l.take (k + 1)).take 4).all okc = true := List.all_eq_true.2 fun x hx => List.all_eq_true.1 h6 x (List.mem_of_mem_take hx)
  have := hexN_lt _ h9
  have h10 : 16 ^ ((l.take (k + 1)).take 4).length ≤ 16 ^ 4 := Nat.pow_le_pow_right (by decide) (by simp; omega)
  omega
theorem rdI_hi {l : List UInt8} {k a b : Nat} (h : RdI l k a b) (hk : k < l.length) (hk4 : 4 ≤ k) (hk8 : k < 8) (hc : okc l[k] = true) : RdI l (k + 1) a (b * 16 + hval l[k]) := by
  obtain ⟨h1, rfl, rfl, h4, h5⟩ := h
  have e := take_next l k hk
  have hlen : (l.take k).length = k := by simp; omega
  have h6 : (l.take (k + 1)).all okc = true := by rw [e, List.all_append, h1]; simpa using hc
  have h7 : (l.take (k + 1)).take 4 = (l.take k).take 4 := by
    rw [e, List.take_append_of_le_length (by omega)]
  have h8 : (l.take (k + 1)).drop 4 = (l.take k).drop 4 ++ [l[k]] := by
    rw [e, List.drop_append_of_le_length (by omega)]
  refine ⟨h6, by rw [h7], by rw [h8, hexN_snoc], h4, ?_⟩
  rw [← hexN_snoc, ← h8]
  have h9 : ((l.take (k + 1)).drop 4).all okc = true := List.all_eq_true.2 fun x hx => List.all_eq_true.1 h6 x (List.mem_of_mem_drop hx)
  have := hexN_lt _ h9
  have h10 : 16 ^ ((l.take (k + 1)).drop 4).length ≤ 16 ^ 4 := Nat.pow_le_pow_right (by decide) (by simp; omega)
  omega
theorem readZ_len {l : List UInt8} (h : l.length ≠ 8) : readZ l = none := by unfold readZ; rw [if_neg (fun q => h q.1)]
theorem readZ_bad {l : List UInt8} {k : Nat} (hk : k < l.length) (h : okc l[k] = false) : readZ l = none := by
  unfold readZ
  rw [if_neg]
  rintro ⟨_, q, _⟩
  have := List.all_eq_true.1 q l[k] (List.getElem_mem hk)
  rw [h] at this; cases this
theorem readZ_big {l : List UInt8} {a b : Nat} (hl : l.length = 8) (h : RdI l 8 a b) (hb : 65521 ≤ a ∨ 65521 ≤ b) : readZ l = none := by
  obtain ⟨h1, rfl, rfl, _⟩ := h
  have e8 : l.take 8 = l := List.take_of_length_le (by omega)
  rw [e8] at hb
  unfold readZ
  rw [if_neg]
  rintro ⟨_, _, q1, q2⟩
  omega
theorem readZ_yes {l : List UInt8} {a b : Nat} (hl : l.length = 8) (h : RdI l 8 a b) (ha : a < 65521) (hb : b < 65521) : readZ l = some ((a : Int), (b : Int)) := by
  obtain ⟨h1, rfl, rfl, _⟩ := h
  have e8 : l.take 8 = l := List.take_of_length_le (by omega)
  rw [e8] at h1 ha hb ⊢
  unfold readZ
  rw [if_pos ⟨hl, h1, ha, hb⟩]
end Go.Proofs.YtdpkmcbpeloljaaDoor

/- Walks of the document's Str, put (of a text), Leaf. A journal and a row of texts beside it. -/
import Derived.Test.YtjblbjamceloaaaGreatDoorNF
import Derived.Test.YtjblbjamceloaaaGreatDoorLo
namespace Go.Proofs.YtjblbjamceloaaaGreatDoor
open Go.RowKit

set_option maxRecDepth 100000 in
theorem rstr_any (s : ByteArray) (w : World) : Calls Tryz.prog 42 #[.string s] w fun e w' => e = .returned (.agg #[.int .i64 2, .int .i64 0, .string s, .slice none 0 0]) ∧ Below w.heap.size w w' := by
  go_enter Tryz.func42, Tryz.ntmps42
  go_wp2_with fail
  refine bodyPost_ret (v := .agg #[.int .i64 2, .int .i64 0, .string s, .slice none 0 0]) (by simp [results, Tryz.results42, go_sem]) rfl ⟨rfl, below_alloc (Below.refl _ _) _⟩
set_option maxRecDepth 100000 in
theorem rput_any (s : ByteArray) (w : World) (hs : s.size ≤ 10000000) : Calls Tryz.prog 41 #[.agg #[.int .i64 2, .int .i64 0, .string s, .slice none 0 0]] w fun e w' => e = .returned (.string ⟨(wrapT s.data.toList 44).toArray⟩) ∧ Below w.heap.size w w' := by
  obtain ⟨N, N1, N2, U, h1, h2, h3, h4, h5, h6⟩ := law_text s 44 hs
  have hU : (⟨(wrapT s.data.toList 44).toArray⟩ : ByteArray) = U := by rw [← h5]
  rw [hU]
  have HD := Lib.hid h1
  clear h1 h5 h6 hU
  go_enter Tryz.func41, Tryz.ntmps41
  go_wp2_with fail
  refine (HD.out _).mono ?_
  rintro e w1 ⟨rfl, hb⟩
  have HB := Lib.hid (below_on (below_alloc (Below.refl w.heap.size w) _) hb)
  clear hb
  go_wp2_with fail
  go_ret
  exact ⟨rfl, HB.out⟩
set_option maxRecDepth 100000 in
theorem rleaf_any (s : ByteArray) (w : World) (hs : s.size ≤ 400000) : Calls Tryz.prog 21 #[.string s] w fun e w' => e = .returned (.string (leafB s)) ∧ Below w.heap.size w w' := by
  have hl : s.data.toList.length ≤ 400000 := by rw [← Lib.size_eq]; exact hs
  have q0 : decide ((400000 : Int) < (s.size : Int)) = false := decide_eq_false (by omega)
  obtain ⟨c, hc⟩ : ∃ c, cmark s.data.toList = c := ⟨_, rfl⟩
  have h1 := rs_bd c.1
  have h2 := rs_bd c.2
  have e1 : ((rs c.1).toNat : Int) = rs c.1 := by omega
  have e2 : ((rs c.2).toNat : Int) = rs c.2 := by omega
  have HM : Hid (Calls Tryz.prog 40 #[.string s] w fun e w' => e = .returned (.agg #[.int .i64 (rs c.1), .int .i64 (rs c.2)]) ∧ Below w.heap.size w w') := Lib.hid (by
    have := rmark s w (by omega)
    rw [hc] at this
    exact this)
  have HT : Hid (∀ W, Calls Tryz.prog 39 #[.agg #[.int .i64 (rs c.1), .int .i64 (rs c.2)]] W fun e w' => e = .returned (.string ⟨(textL c).toArray⟩) ∧ Below W.heap.size W w') := Lib.hid (fun W => by
    have := rtext (rs c.1).toNat (rs c.2).toNat W (by omega) (by omega)
    rw [e1, e2] at this
    exact this)
  obtain ⟨T, hT⟩ : ∃ T : ByteArray, (⟨(textL c).toArray⟩ : ByteArray) = T := ⟨_, rfl⟩
  obtain ⟨U, hU⟩ : ∃ U : ByteArray, (⟨(wrapT s.data.toList 44).toArray⟩ : ByteArray) = U := ⟨_, rfl⟩
  have hcat : ∀ w, (Op.stringOp .add T U).run Tryz.prog w = .ok (.string (leafB s)) w := fun w => by
    rw [← hT, ← hU, run_cat _ _ (by
      have hw := wrapT_len s.data.toList 44
      have hd := digits_le (m := s.data.toList.length) (by omega)
      rw [itoa_nat] at hw
      rw [textL_len]; omega)]
    unfold leafB
    rw [leafL_eq hl, hc]
  have HU : Hid (∀ W, Calls Tryz.prog 41 #[.agg #[.int .i64 2, .int .i64 0, .string s, .slice none 0 0]] W fun e w' => e = .returned (.string U) ∧ Below W.heap.size W w') := Lib.hid (fun W => by rw [← hU]; exact rput_any s W (by omega))
  rw [hT] at HT
  generalize leafB s = F at hcat ⊢
  clear hT hU hc h1 h2 e1 e2 hl hs
  go_enter Tryz.func21, Tryz.ntmps21
  go_wp2_with fail
  refine HM.out.mono ?_
  rintro e w1 ⟨rfl, hb⟩
  have HB1 := Lib.hid hb
  clear hb
  go_wp2_with fail
  refine (HT.out _).mono ?_
  rintro e w2 ⟨rfl, hb⟩
  have HB2 := Lib.hid (below_on HB1.out hb)
  clear hb
  go_wp2_with fail
  refine (rstr_any s _).mono ?_
  rintro e w3 ⟨rfl, hb⟩
  have HB3 := Lib.hid (below_on HB2.out hb)
  clear hb
  go_wp2_with fail
  refine (HU.out _).mono ?_
  rintro e w4 ⟨rfl, hb⟩
  have HB4 := Lib.hid (below_on HB3.out hb)
  clear hb
  go_wp2_with fail
  go_ret
  exact ⟨rfl, HB4.out⟩
end Go.Proofs.YtjblbjamceloaaaGreatDoor
namespace Go.Proofs.YtjblbjamceloaaaGreatDoor
open Go.RowKit

theorem JL.aside {w0 w w' : World} {J g b : Nat} {v : Value} {n : Nat} {r : Int} {L : List Rl} {s : ByteArray} {p : Int} {k : Bool} {first : ByteArray} {recs : List ByteArray} {S : List Nat} (h : JL w0 w J g b v n r L s p k first recs) (ho : Only S w w') (hJ : J ∉ S) (hg : g ∉ S) (hb : b ∉ S) (hv : ∀ q ∈ ownL v, q ∉ S) (hS : ∀ i ∈ S, w0.heap.size ≤ i) : JL w0 w' J g b v n r L s p k first recs :=
  ⟨h.js.aside ho hJ hg hb hv hS, h.lg, h.nn, h.da, h.sz⟩
/-- A row of texts of the call's own beside a journal. -/
structure Side (w0 w : World) (J g b : Nat) (v va : Value) (all : List ByteArray) : Prop where
  mr : MidRow w va all
  lo : ∀ q ∈ ownL va, w0.heap.size ≤ q
  nj : J ∉ ownL va
  ng : g ∉ ownL va
  nb : b ∉ ownL va
  nv : ∀ q ∈ ownL v, q ∉ ownL va
theorem Side.nil (w0 w : World) (J g b : Nat) (v : Value) : Side w0 w J g b v (.slice none 0 0) [] := ⟨Or.inl ⟨rfl, rfl⟩, by simp [ownL_nil], by simp [ownL_nil], by simp [ownL_nil], by simp [ownL_nil], by simp [ownL_nil]⟩
theorem Side.low {w0 w w' : World} {J g b : Nat} {v va : Value} {all : List ByteArray} (h : Side w0 w J g b v va all) (k : Below w.heap.size w w') : Side w0 w' J g b v va all := ⟨h.mr.low k, h.lo, h.nj, h.ng, h.nb, h.nv⟩
/-- The journal took a record. -/
theorem Side.add {w0 w w' : World} {J g b : Nat} {v v' va : Value} {all : List ByteArray} (h : Side w0 w J g b v va all) (k : Only (J :: g :: b :: ownL v) w w') (hq : ∀ q ∈ ownL v', q ∈ ownL v ∨ w.heap.size ≤ q) : Side w0 w' J g b v' va all := by
  have hlt := h.mr.lt
  refine ⟨h.mr.keep k (fun q hq hm => ?_), h.lo, h.nj, h.ng, h.nb, fun q hq2 hm => ?_⟩
  · rcases List.mem_cons.mp hm with rfl | hm
    · exact h.nj hq
    rcases List.mem_cons.mp hm with rfl | hm
    · exact h.ng hq
    rcases List.mem_cons.mp hm with rfl | hm
    · exact h.nb hq
    · exact h.nv _ hm hq
  · have := hlt q hm
    rcases hq q hq2 with h1 | h1
    · exact h.nv _ h1 hm
    · omega
/-- The row took a text. -/
theorem Side.push {w0 w w1 w' : World} {J g b : Nat} {v va va' : Value} {all all' : List ByteArray} {n : Nat} {r : Int} {L : List Rl} {s : ByteArray} {p : Int} {kk : Bool} {first : ByteArray} {recs : List ByteArray} (h : Side w0 w J g b v va all) (H : JL w0 w J g b v n r L s p kk first recs) (k : Below w.heap.size w w1) (ho : Only (ownL va) w1 w') (hm : MidRow w' va' all') (hq : ∀ q ∈ ownL va', q ∈ ownL va ∨ w1.heap.size ≤ q) :
    Side w0 w' J g b v va' all' ∧ JL w0 w' J g b v n r L s p kk first recs := by
  have H1 := H.low k
  have hJ := H1.js.j.lt
  have hg := H1.js.ch.1.ltg
  have hb := H1.js.ch.1.ltb
  have hv := H1.js.j.mr.lt
  have h0 := H1.js.ch.2.1.size
  refine ⟨⟨hm, fun q h2 => ?_, fun h2 => ?_, fun h2 => ?_, fun h2 => ?_, fun q h1 h2 => ?_⟩, H1.aside ho h.nj h.ng h.nb (fun q hq => h.nv q hq) h.lo⟩
  · rcases hq _ h2 with h3 | h3
    · exact h.lo _ h3
    · omega
  · rcases hq _ h2 with h3 | h3
    · exact h.nj h3
    · omega
  · rcases hq _ h2 with h3 | h3
    · exact h.ng h3
    · omega
  · rcases hq _ h2 with h3 | h3
    · exact h.nb h3
    · omega
  · have := hv q h1
    rcases hq _ h2 with h3 | h3
    · exact h.nv _ h1 h3
    · omega
end Go.Proofs.YtjblbjamceloaaaGreatDoor

/- Walks of the document's Side, of the laws' Roster. -/
import Derived.Test.YtnimbbfblidahaaRoD
namespace Go.Proofs.Ytnimbbfblidahaa
open Go.RowKit

/-- The one so many places on. -/
def sideI (zs : List Int) (n by_ : Int) : Int := if idx zs n < 0 then 0 else atI zs (idx zs n + by_)

set_option maxHeartbeats 800000 in
theorem side_any (e nw n d : Int) (a : Option Addr) (c : Nat) (zs : List Int) (w : World) (hl : zs.length ≤ 1000) (hd : -10 ≤ d ∧ d ≤ 10) (hz : IntsAt w a zs) :
    Calls Try.prog 25 #[rosV e a zs c nw, .int .i64 n, .int .i64 d] w fun e w' => e = .returned (.int .i64 (sideI zs n d)) ∧ Below w.heap.size w w' := by
  have hi := idx_bd zs n
  have hw : IntKind.i64.wrap (idx zs n + d) = idx zs n + d := IntWalk.i64_in _ (by omega)
  have hzl : (zs.length : Int) ≤ 1000 := by omega
  by_cases h1 : idx zs n < 0
  · go_enter Try.func25, Try.ntmps25
    go_wp2_with (go_at_call 19; refine (spot_any _ _ _ _ _ _ _ (by omega) (hz.alloc _)).mono ?_; rintro e w' ⟨rfl, hb⟩; obtain ⟨hc, hf⟩ := bcell hb)
    go_ret
    exact ⟨ret_int (by unfold sideI; rw [if_pos h1]), below_on (below_alloc (Below.refl _ _) _) hb⟩
  by_cases h2 : idx zs n + d < 0
  · go_enter Try.func25, Try.ntmps25
    go_wp2_with (go_at_call 19; refine (spot_any _ _ _ _ _ _ _ (by omega) (hz.alloc _)).mono ?_; rintro e w' ⟨rfl, hb⟩; obtain ⟨hc, hf⟩ := bcell hb)
    go_ret
    exact ⟨ret_int (by unfold sideI; rw [if_neg (by omega), atI_out (Or.inl h2)]), below_on (below_alloc (Below.refl _ _) _) hb⟩
  by_cases h3 : (zs.length : Int) ≤ idx zs n + d
  · go_enter Try.func25, Try.ntmps25
    go_wp2_with (go_at_call 19; refine (spot_any _ _ _ _ _ _ _ (by omega) (hz.alloc _)).mono ?_; rintro e w' ⟨rfl, hb⟩; obtain ⟨hc, hf⟩ := bcell hb)
    go_ret
    exact ⟨ret_int (by unfold sideI; rw [if_neg (by omega), atI_out (Or.inr h3)]), below_on (below_alloc (Below.refl _ _) _) hb⟩
  obtain ⟨k, hk⟩ : ∃ k : Nat, idx zs n + d = k := ⟨(idx zs n + d).toNat, by omega⟩
  have hkl : k < zs.length := by omega
  have hcc : Hid (∀ w', Below (w.alloc (.cells #[.int .i64 e, .slice a zs.length c, .int .i64 nw] 24)).heap.size (w.alloc (.cells #[.int .i64 e, .slice a zs.length c, .int .i64 nw] 24)) w' → ∃ b off, a = some ⟨b, off, none⟩ ∧ w'.cell? ⟨b, off + k, none⟩ = some (.int .i64 (nthI zs k))) := by
    intro w' hb
    rcases (hz.alloc (.cells #[.int .i64 e, .slice a zs.length c, .int .i64 nw] 24)).keep hb with h | ⟨b, off, h, _, hc⟩
    · rw [h] at hkl; simp at hkl
    · exact ⟨b, off, h, hc k hkl⟩
  have HK := Lib.hid hk
  clear hk
  go_enter Try.func25, Try.ntmps25
  go_wp2_with (go_at_call 19; refine (spot_any _ _ _ _ _ _ _ (by omega) (hz.alloc _)).mono ?_; rintro e w' ⟨rfl, hb⟩; obtain ⟨hc, hf⟩ := bcell hb; obtain ⟨b, off, rfl, hcell⟩ := hcc.out _ hb; have hkk : (idx zs n + d).toNat = k := by (have := HK.out; omega))
  go_ret
  exact ⟨ret_int (by unfold sideI; rw [if_neg (by omega), HK.out, atI_in hkl]), below_on (below_alloc (Below.refl _ _) _) hb⟩

end Go.Proofs.Ytnimbbfblidahaa

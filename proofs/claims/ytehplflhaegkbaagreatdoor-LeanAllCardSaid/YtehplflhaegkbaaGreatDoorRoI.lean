/- Walks of the document's DropNode where there is none, of the laws' Roster. -/
import Derived.Test.YtehplflhaegkbaaGreatDoorRoH
import Derived.Test.YtehplflhaegkbaaGreatDoorRoG
namespace Go.Proofs.YtehplflhaegkbaaGreatDoor
open Go.RowKit

theorem own_cap {w : World} {base : Nat} {v : Value} {zs : List Int} (h : OwnI w base v zs) : ∃ a c, v = .slice a zs.length c ∧ IntsAt w a zs ∧ zs.length ≤ c := by
  obtain ⟨a, c, h1, h2⟩ := ownI_ros h
  refine ⟨a, c, h1, h2, ?_⟩
  obtain ⟨_, h3⟩ := h
  rcases h3 with ⟨h4, h5⟩ | ⟨g, cap, cur, h4, _, _, hn, _⟩
  · omega
  · rw [h1] at h4
    simp only [Value.slice.injEq] at h4
    omega

theorem rowAt_take {w : World} {a : Option Addr} {zs : List Int} (h : IntsAt w a zs) (k : Nat) : RowAt w a ((zs.take k).map (.int .i64)) := by
  rcases h with rfl | ⟨b, off, rfl, hs, hc⟩
  · exact Or.inl (by simp)
  · exact IntsAt.takeR (Or.inr ⟨b, off, rfl, hs, hc⟩) k
/-- The laws' Roster: the roster, not too long, in new memory. -/
def RosR (w : World) (e nw : Int) (zs : List Int) (e' : Ending) (w' : World) : Prop := ∃ v', e' = .returned (.agg #[.int .i64 e, v', .int .i64 nw]) ∧ OwnI w' w.heap.size v' zs ∧ Below w.heap.size w w'

set_option maxRecDepth 100000 in
set_option maxHeartbeats 800000 in
theorem roster_any (e nw : Int) (a : Option Addr) (c : Nat) (zs : List Int) (w : World) (hz : IntsAt w a zs) (hl : zs.length ≤ 9223372036854775807) (hcap : zs.length ≤ c) :
    Calls Tryz.prog 5 #[rosV e a zs c nw] w (RosR w e nw (zs.take 7)) := by
  have hcp : (zs.length : Int) ≤ (c : Int) := by omega
  have hS := RosS.start w (.int .i64 e) (.slice a zs.length c) (.int .i64 nw) (.int .i64 0) (.slice none 0 0) (.int .i64 0) 24 24
  have hSH := Lib.hid hS
  have hzz := Lib.hid (((hz.alloc (.cells #[.int .i64 e, .slice a zs.length c, .int .i64 nw] 24)).alloc (.cells #[.int .i64 0, .slice none 0 0, .int .i64 0] 24)))
  have fz1 : ((w.alloc (.cells #[.int .i64 e, .slice a zs.length c, .int .i64 nw] 24)).alloc (.cells #[.int .i64 0, .slice none 0 0, .int .i64 0] 24)).frozen? ⟨w.heap.size, 1, none⟩ = false := by
    rw [World.frozen?_alloc_old _ _ _ (by simp)]; exact World.frozen?_alloc_new _ _ _ _
  have fz0 := Lib.hid fz1
  clear hS fz1
  go_enter Tryz.func5, Tryz.ntmps5
  go_wp2_with (at_builtin; refine wpList_append_far rfl _ _ 22 rfl (w.heap.size + 2) 3 _ 1 8 tyInts (.slice none 0 0) 0 [] rfl (World.ownsRow_nil _ _ _ _) a _ c ((zs.take 7).map (.int .i64)) rfl ?c1 ?c2 ?c3 ?c4 ?c5 ?c6 ?_; (case c1 => simp; omega); (case c2 => exact rowAt_take hzz.out 7); (case c3 => exact (oneCell_ints' (by intro u hu; obtain ⟨x, _, rfl⟩ := List.mem_map.1 hu; exact ⟨x, rfl⟩))); (case c4 => unfold maxLen; omega); (case c5 => omega); (case c6 => simp); intro v2 w2 hown2' hG; obtain ⟨a2, c2, rfl, _⟩ := ownsRow_row hown2'; have hown2 := Lib.hid hown2'; obtain ⟨r0, r1, r2, d0, d1, d2, f0, f1, f2, hlow⟩ := hSH.out.keepB hG.1; have fz : w2.frozen? ⟨w.heap.size, 1, none⟩ = false := (hG.1.frozen (p := ⟨w.heap.size, 1, none⟩) (Nat.lt_add_of_pos_right (by decide))).trans fz0.out; clear hown2' hG)
  have e1 : 0 + (min (zs.length : Int) 7).toNat = (zs.take 7).length := by simp; omega
  have e2 : (min (zs.length : Int) 7).toNat = (zs.take 7).length := by simp; omega
  have hown := hown2.out
  rw [e1, List.nil_append] at hown
  rw [e2]
  refine bodyPost_ret (v := .agg #[.int .i64 e, .slice a2 (zs.take 7).length c2, .int .i64 nw]) (by simp [results, Tryz.results5, go_sem, d0, d1, d2]) rfl ⟨_, rfl, ?_, ?_⟩
  · exact ownsRow_base (own_set3 (ownsRow_setCell_below hown (a := ⟨w.heap.size, 1, none⟩) (by simp) _) (by omega) _ _ _) (by omega)
  · exact below_set3 (hlow.setCell (p := ⟨w.heap.size, 1, none⟩) (Nat.le_refl _) _) (by omega) _ _ _ _ _ _

end Go.Proofs.YtehplflhaegkbaaGreatDoor

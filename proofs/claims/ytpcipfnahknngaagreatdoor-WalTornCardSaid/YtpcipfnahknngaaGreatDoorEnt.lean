/- Contract of wal.Entries. No statement of the seat. -/
import Derived.Test.YtpcipfnahknngaaGreatDoorPut2
namespace Go.Proofs.YtpcipfnahknngaaGreatDoor
open Go.RowKit Go.Maps

set_option maxRecDepth 100000 in
set_option maxHeartbeats 800000 in
theorem clone55 (ao : Option Addr) (n cap : Nat) (xs : List Value) (w : World) (hv : Sl w 3 (.slice ao n cap) n xs) (hl : n < 1000000000) :
    Calls Tryz.prog 55 #[.slice ao n cap] w fun e w' => ∃ v', e = .returned v' ∧ w'.ownsRow w.heap.size 25 3 v' n xs ∧ Below w.heap.size w w' := by
  have hv0 := hv
  obtain ⟨y1, y2, ao', cap', e, y3, y4, y7, y5⟩ := hv0
  cases e
  cases ao with
  | none =>
    have hn : n = 0 := by
      rcases y5 with y5 | ⟨g, off, y5, _⟩
      · exact y5
      · cases y5
    subst hn
    have hl0 : xs = [] := List.eq_nil_of_length_eq_zero (by simpa using y1)
    subst hl0
    obtain rfl := y7 rfl
    have heq := Lib.run_eql_slice_nil (P := Tryz.prog) w 35 25 none 0 0 0 0 Tryz.underlying35
    clear hv y5
    go_enter Tryz.func55, Tryz.ntmps55
    go_wp2
    go_ret
    exact ⟨_, rfl, World.ownsRow_nil _ _ _ _, Below.refl _ _⟩
  | some ad =>
    clear y5
    have heq := Lib.run_eql_slice_nil (P := Tryz.prog) w 35 25 (some ad) n cap 0 0 Tryz.underlying35
    go_enter Tryz.func55, Tryz.ntmps55
    go_wp2_with (at_builtin; refine wl_app rfl _ _ 35 rfl w.heap.size 25 _ 3 40 Tryz.underlying35 info25 rfl (by decide) _ 0 [] rfl ?_ _ n xs rfl (hv.below ((Below.refl _ _).alloc (Nat.le_refl _) _) (Nat.le_refl _)) ?_ ?_ ?_ ?_; rotate_right; intro v' w1 hown1 hgrow1)
    · go_ret
      refine ⟨_, rfl, by simpa using hown1, ((Below.refl _ _).alloc (Nat.le_refl _) _).grown hgrow1 (by simp) ?_⟩
      intro k hk
      cases hk
      exact Nat.le_refl _
    · exact World.ownsRow_made (w := w) #[] 0 (Nat.le_refl _) (by decide) rfl
    · unfold maxLen; omega
    · omega
    · simp
end Go.Proofs.YtpcipfnahknngaaGreatDoor

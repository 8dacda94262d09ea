/- Contracts of package disk. No statement of the seat. -/
import Derived.Test.YtpcipfnahknngaaGreatDoorDk
import Derived.WalkSpells
import Derived.Deep.RegionLawGrows
import Derived.BigQuiet
import Derived.Deep.QuietTactic
namespace Go.Proofs.YtpcipfnahknngaaGreatDoor
open Go.RowKit Go.Maps

/-- the Disk in block d has the map mb, which reads as D -/
def Dp (w : World) (d mb : Nat) (D : List (List UInt8 × Fil)) : Prop := (∃ fz, w.heap[d]? = some (Obj.cells #[.map (some mb)] 91 fz)) ∧ Dk w mb D
theorem Dp.cell {w : World} {d mb : Nat} {D : List (List UInt8 × Fil)} (h : Dp w d mb D) : w.cell? ⟨d, 0, none⟩ = some (.map (some mb)) := by
  obtain ⟨⟨fz, h1⟩, _⟩ := h
  rw [cell_of_row w d 0 _ 91 fz h1]; rfl
theorem Dp.below {w w' : World} {d mb : Nat} {D : List (List UInt8 × Fil)} (h : Dp w d mb D) {B : Nat} (hb : Below B w w') (hB : w.heap.size ≤ B) : Dp w' d mb D := by
  obtain ⟨⟨fz, h1⟩, h2⟩ := h
  exact ⟨⟨fz, (hb.block d (Nat.lt_of_lt_of_le (lt_of_get h1) hB)).trans h1⟩, h2.below hb hB⟩
theorem Dp.drewN {w : World} {d mb : Nat} {D : List (List UInt8 × Fil)} (h : Dp w d mb D) (n : Nat) : Dp (w.drewN n) d mb D :=
  h.below (B := w.heap.size) ⟨rfl, rfl, rfl, Nat.le_refl _, fun _ _ => rfl⟩ (Nat.le_refl _)

set_option maxRecDepth 100000 in
set_option maxHeartbeats 800000 in
theorem new18 (w : World) : Calls Tryz.prog 18 #[] w fun e w' => e = .returned (.pointer (some ⟨w.heap.size + 1, 0, none⟩)) ∧ Dp w' (w.heap.size + 1) w.heap.size [] ∧ Below w.heap.size w w' := by
  have hmm := @run_makeMap Tryz.prog
  go_enter Tryz.func18, Tryz.ntmps18
  go_wp2
  go_ret
  refine ⟨rfl, ?_, ((Below.refl _ _).alloc (Nat.le_refl _) _).alloc (by simp) _⟩
  have h0 := Dk.new w
  have h1 := h0.below ((Below.refl _ _).alloc (Nat.le_refl _) (Obj.cells #[.map (some w.heap.size)] 91)) (Nat.le_refl _)
  refine ⟨⟨(0, 0), ?_⟩, h1⟩
  have := heap_alloc_new (w.alloc (Obj.map #[] 0)) (Obj.cells #[.map (some w.heap.size)] 91)
  simpa using this

set_option maxRecDepth 100000 in
set_option maxHeartbeats 800000 in
theorem there81 (d mb : Nat) (D : List (List UInt8 × Fil)) (w : World) (h : Dp w d mb D) : Calls Tryz.prog 81 #[.pointer (some ⟨d, 0, none⟩)] w fun e w' => e = .returned (.bool true) ∧ w' = w := by
  have hc := h.cell
  have hr := run_neq_map_nil (P := Tryz.prog) w 89 9 106 (some mb) Tryz.underlying89
  clear h
  go_enter Tryz.func81, Tryz.ntmps81
  go_wp2
  go_ret
  exact ⟨rfl, rfl⟩

/-- what is wrong with a name -/
def badName (k : List UInt8) : Bool := decide (k.length < 1 ∨ 64 < k.length)

set_option maxRecDepth 100000 in
set_option maxHeartbeats 800000 in
theorem may72 (d mb : Nat) (D : List (List UInt8 × Fil)) (k : List UInt8) (w : World) (h : Dp w d mb D) (hk : badName k = false) : Calls Tryz.prog 72 #[.pointer (some ⟨d, 0, none⟩), .string (tx k)] w fun e w' => e = .returned (.int .i64 0) ∧ w' = w := by
  have hsz : (tx k).size = k.length := tx_size k
  unfold badName at hk
  have hk2 := of_decide_eq_false hk
  have h1 : 1 ≤ (k.length : Int) := by omega
  have h2 : (k.length : Int) ≤ 64 := by omega
  clear hk2
  clear hk
  go_enter Tryz.func72, Tryz.ntmps72
  go_wp2_with (go_at_call 81; refine (there81 d mb D _ h).mono ?_; rintro e w1 ⟨rfl, rfl⟩)
  go_ret
  exact ⟨rfl, rfl⟩
set_option maxRecDepth 100000 in
set_option maxHeartbeats 800000 in
theorem may72_bad (d mb : Nat) (D : List (List UInt8 × Fil)) (k : List UInt8) (w : World) (h : Dp w d mb D) (hk : badName k = true) : Calls Tryz.prog 72 #[.pointer (some ⟨d, 0, none⟩), .string (tx k)] w fun e w' => e = .returned (.int .i64 2) ∧ w' = w := by
  have hsz : (tx k).size = k.length := tx_size k
  unfold badName at hk
  rcases (of_decide_eq_true hk) with h1 | h1
  all_goals
    clear hk
    go_enter Tryz.func72, Tryz.ntmps72
    go_wp2_with (go_at_call 81; refine (there81 d mb D _ h).mono ?_; rintro e w1 ⟨rfl, rfl⟩)
    go_ret
    exact ⟨rfl, rfl⟩
end Go.Proofs.YtpcipfnahknngaaGreatDoor

/- Contracts of disk.Copy. No statement of the seat. -/
import Derived.Test.YtpcipfnahknngaaGreatDoorDiskRep
import Derived.Laws.Externs
import Derived.MapKept
namespace Go.Proofs.YtpcipfnahknngaaGreatDoor
open Go.RowKit Go.Maps

theorem eqlIn_map_nil (w : World) (d : Nat) (p : Option Nat) : (Op.equalIn (d + 1) 89 (.map p) (.map none)).run Tryz.prog w = .ok p.isNone w := by
  cases p <;> simp [Op.equalIn, run_underlying Tryz.underlying89]
theorem eql_map_nil (w : World) (p : Option Nat) : (binOp .eql 89 (.map p) (.map none)).run Tryz.prog w = .ok (.bool p.isNone) w := by
  simp only [binOp]
  simp [show Op.equal 89 (.map p) (.map none) = Op.equalIn (9999 + 1) 89 (.map p) (.map none) from rfl, eqlIn_map_nil w 9999 p]
theorem tass_map (w : World) (xT : TypeId) (v : Value) : (Instr.typeAssert (.iface 89 v) xT 89 false).run Tryz.prog w = .ok v w := by
  simp [Instr.typeAssert, run_underlying Tryz.underlying89, go_sem, Result.andThen]
theorem clone_run {w : World} {r : Nat} {es : Array MapEntry} {clock : Nat} (t : TypeId) (hb : w.heap[r]? = some (.map es clock)) :
    (Extern.MapsClone.clone #[.iface t (.map (some r))]).run Tryz.prog w = .ok (.iface t (.map (some w.heap.size))) (w.alloc (.map es clock)) := by
  have e : Extern.MapsClone.clone #[.iface t (.map (some r))] = (getObj r >>= fun o => match o with
      | .map entries clock => (newObj (.map entries clock) >>= fun n => pure (.iface t (.map (some n))))
      | _ => stuck "maps.clone: a map expected") := rfl
  rw [e]
  simp [MapKept.run_getObj_map hb, Result.andThen, go_sem]

set_option maxRecDepth 100000 in
set_option maxHeartbeats 1600000 in
theorem clone82 (b : Nat) (es : Array MapEntry) (clock : Nat) (w : World) (hb : w.heap[b]? = some (.map es clock)) :
    Calls Tryz.prog 82 #[.map (some b)] w fun e w' => e = .returned (.map (some w.heap.size)) ∧ w' = w.alloc (.map es clock) := by
  have hq := fun w => eql_map_nil w (some b)
  go_enter Tryz.func82, Tryz.ntmps82
  go_wp2
  rw [run_callFunc_extern Tryz.func101 (by kernel_rfl) (by kernel_rfl) (by kernel_rfl) (e := Extern.MapsClone.clone) (by kernel_rfl), clone_run 89 hb]
  simp only [Result.andThen]
  rw [Oper.upon_value]
  go_wp2
  rw [tass_map]
  simp only [Result.andThen]
  rw [Oper.upon_value]
  go_wp2
  go_ret
  exact ⟨rfl, rfl⟩

set_option maxRecDepth 100000 in
set_option maxHeartbeats 800000 in
theorem there81_nil (w : World) : Calls Tryz.prog 81 #[.pointer none] w fun e w' => e = .returned (.bool false) ∧ w' = w := by
  go_enter Tryz.func81, Tryz.ntmps81
  go_wp2
  go_ret
  exact ⟨rfl, rfl⟩

set_option maxRecDepth 100000 in
set_option maxHeartbeats 800000 in
theorem copy43_nil (w : World) : Calls Tryz.prog 43 #[.pointer none] w fun e w' => e = .returned (.pointer none) ∧ w' = w := by
  go_enter Tryz.func43, Tryz.ntmps43
  go_wp2_with (go_at_call 81; (with_reducible refine (there81_nil _).mono ?_); rintro e w1 ⟨rfl, rfl⟩)
  go_ret
  exact ⟨rfl, rfl⟩

set_option maxRecDepth 100000 in
set_option maxHeartbeats 800000 in
theorem copy43 (d mb : Nat) (D : List (List UInt8 × Fil)) (w : World) (h : Dp w d mb D) :
    Calls Tryz.prog 43 #[.pointer (some ⟨d, 0, none⟩)] w fun e w' => e = .returned (.pointer (some ⟨w.heap.size + 1, 0, none⟩)) ∧ Below w.heap.size w w' := by
  have hcell := h.cell
  obtain ⟨l, ⟨es, clock, hb, _⟩, _⟩ := h.2
  have HH := Lib.hid h
  clear h
  go_enter Tryz.func43, Tryz.ntmps43
  go_wp2_with (first
    | (go_at_call 81; (with_reducible refine (there81 d mb D _ HH.out).mono ?_); rintro e w1 ⟨rfl, rfl⟩)
    | (go_at_call 82; (with_reducible refine (clone82 mb es clock _ hb).mono ?_); rintro e w1 ⟨rfl, rfl⟩))
  go_ret
  exact ⟨by simp, ((Below.refl _ _).alloc (by simp) _).alloc (by simp) _⟩
end Go.Proofs.YtpcipfnahknngaaGreatDoor

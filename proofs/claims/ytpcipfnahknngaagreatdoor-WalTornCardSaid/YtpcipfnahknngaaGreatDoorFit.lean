/- Contracts of frame.All, wal.fits. No statement of the seat. -/
import Derived.Test.YtpcipfnahknngaaGreatDoorAll
import Derived.Test.YtpcipfnahknngaaGreatDoorWl
namespace Go.Proofs.YtpcipfnahknngaaGreatDoor
open Go.RowKit Go.Maps

set_option maxRecDepth 100000 in
theorem all87 (v : Value) (w : World) (hv : ∃ ao n cap, v = .slice ao n cap) :
    Calls Tryz.prog 87 #[v] w fun e w' => e = .returned (.func (.func 107) #[] #[.pointer (some ⟨w.heap.size, 0, none⟩)]) ∧ w' = w.alloc (.cells #[v] 23) := by
  obtain ⟨ao, n, cap, rfl⟩ := hv
  go_enter Tryz.func87, Tryz.ntmps87
  go_wp2
  go_ret
  exact ⟨rfl, rfl⟩

/-- may an entry come behind a row? -/
def fitsT (l : List Ent) (x : Ent) : Bool := decide (0 < x.i) && (match l.getLast? with | none => true | some y => decide (x.i ≤ (y.i + 1) % 18446744073709551616))
theorem Es.cells0 {w : World} {la : Option Addr} {lc : Nat} {l : List Ent} (h : Es w (.slice la l.length lc) l) (k : Nat) (hk : k < l.length) :
    ∃ g off, la = some ⟨g, off, none⟩ ∧ w.cell? ⟨g, off + k * 3, none⟩ = some (.int .u64 (l[k]).i) := by
  obtain ⟨us, u1, ⟨y1, y2, ao, cap, hv, y3, y4, y7, y5⟩, hT, hu⟩ := h
  cases hv
  obtain ⟨g, off, rfl, hc⟩ := y5.resolve_left (by omega)
  obtain ⟨u, hu1, _⟩ := hu k hk
  exact ⟨g, off, rfl, hc _ _ (enCells_at l us u1 k hk u hu1).1⟩
theorem wrap64' (p : Nat) : IntKind.u64.wrap ((p : Int) + 1) = (((p + 1) % 18446744073709551616 : Nat) : Int) := by
  simp [IntKind.wrap, IntKind.bits, IntKind.signed]

set_option maxRecDepth 100000 in
set_option maxHeartbeats 1600000 in
theorem fits88 (la : Option Addr) (lc : Nat) (l : List Ent) (x : Ent) (u : Value) (w : World) (h : Es w (.slice la l.length lc) l) (hu : ∃ ao n cap, u = .slice ao n cap) (hl : l.length < 1000000000) :
    Calls Tryz.prog 88 #[.slice la l.length lc, .agg #[.int .u64 x.i, .int .u64 x.t, u]] w fun e w' => e = .returned (.bool (fitsT l x)) ∧ Below w.heap.size w w' := by
  obtain ⟨ao, n, cap, rfl⟩ := hu
  have hb0 : Below w.heap.size w (w.alloc (Obj.cells #[Value.int .u64 x.i, Value.int .u64 x.t, Value.slice ao n cap] 25)) := (Below.refl _ _).alloc (Nat.le_refl _) _
  have h1 := h.fr (Fr.of_below (M := noTypes) hb0 (Nat.le_refl _)) id id
  by_cases h0 : x.i = 0
  · have hd : decide ((x.i : Int) > 0) = false := decide_eq_false (by omega)
    have hd2 : decide ((0 : Int) < (x.i : Int)) = false := decide_eq_false (by omega)
    have hd3 : decide (0 < x.i) = false := decide_eq_false (by omega)
    have hf : fitsT l x = false := by unfold fitsT; rw [h0]; rfl
    rw [hf]
    clear h h1 h0
    go_enter Tryz.func88, Tryz.ntmps88
    go_wp2
    go_quiet (fail)
    go_wp2
    go_ret
    exact ⟨rfl, hb0.trans ⟨rfl, rfl, rfl, Nat.le_refl _, fun _ _ => rfl⟩⟩
  · have hd : decide ((0 : Int) < (x.i : Int)) = true := decide_eq_true (by omega)
    have hd3 : decide (0 < x.i) = true := decide_eq_true (by omega)
    by_cases hn : l.length = 0
    · have hl0 : l = [] := List.eq_nil_of_length_eq_zero hn
      subst hl0
      have hf : fitsT [] x = true := by unfold fitsT; simp; omega
      rw [hf]
      clear h h1 h0 hn
      go_enter Tryz.func88, Tryz.ntmps88
      go_wp2
      go_quiet (fail)
      go_wp2
      go_ret
      exact ⟨rfl, hb0.trans ⟨rfl, rfl, rfl, Nat.le_refl _, fun _ _ => rfl⟩⟩
    · obtain ⟨g, off, rfl, hc⟩ := h1.cells0 (l.length - 1) (by omega)
      obtain ⟨y, hy⟩ : ∃ y, y = l[l.length - 1]'(by omega) := ⟨_, rfl⟩
      have hlast : l.getLast? = some y := by rw [List.getLast?_eq_getElem?, List.getElem?_eq_getElem (by omega), hy]
      have hf : fitsT l x = decide ((x.i : Int) ≤ (((y.i + 1) % 18446744073709551616 : Nat) : Int)) := by
        unfold fitsT
        rw [hlast]
        have : decide (0 < x.i) = true := decide_eq_true (by omega)
        rw [this, Bool.true_and]
        exact decide_eq_decide.2 (by omega)
      rw [← hy] at hc
      have hne : (((l.length : Nat) : Int) == 0) = false := by rw [beq_eq_false_iff_ne]; omega
      have hlt : (0 : Int) < (l.length : Int) := by omega
      have s1 : IntKind.i64.wrap ((l.length : Int) - 1) = (l.length : Int) - 1 := IntWalk.i64_in _ (by omega)
      have s2 : (0 : Int) ≤ (l.length : Int) - 1 := by omega
      have s3 : (l.length : Int) - 1 < (l.length : Int) := by omega
      have s4 : ((l.length : Int) - 1).toNat = l.length - 1 := by omega
      have s5 := wrap64' y.i
      rw [hf]
      clear h h1 h0 hn hy hlast hf
      go_enter Tryz.func88, Tryz.ntmps88
      go_wp2
      go_quiet (fail)
      go_wp2
      go_ret
      exact ⟨rfl, hb0.trans ⟨rfl, rfl, rfl, Nat.le_refl _, fun _ _ => rfl⟩⟩
end Go.Proofs.YtpcipfnahknngaaGreatDoor

/- Contracts of slices.IndexFunc in wal.put, and of wal.put. No statement of the seat. -/
import Derived.Test.YtpcipfnahknngaaGreatDoorEs
namespace Go.Proofs.YtpcipfnahknngaaGreatDoor
open Go.RowKit Go.Maps

/-- the first entry whose index is not below i -/
def idxN (l : List Ent) (i : Nat) : Nat := (l.takeWhile fun x => decide (x.i < i)).length
def idxI (l : List Ent) (i : Nat) : Int := if idxN l i < l.length then (idxN l i : Int) else -1
theorem idxN_all (l : List Ent) (i : Nat) (h : ∀ k (hk : k < l.length), (l[k]).i < i) : idxN l i = l.length := by
  induction l with
  | nil => rfl
  | cons x l ih =>
    have h0 : x.i < i := h 0 (by simp)
    have := ih (fun k hk => h (k + 1) (by simpa using hk))
    unfold idxN at this ⊢
    rw [List.takeWhile_cons_of_pos (by simpa using h0)]
    simp [this]
theorem idxN_at (l : List Ent) (i k : Nat) (hk : k < l.length) (hb : ∀ j (hj : j < l.length), j < k → (l[j]).i < i) (hx : ¬ (l[k]).i < i) : idxN l i = k := by
  induction l generalizing k with
  | nil => simp at hk
  | cons x l ih =>
    unfold idxN
    cases k with
    | zero =>
      rw [List.takeWhile_cons_of_neg (by simpa using hx)]; rfl
    | succ k =>
      have h0 := hb 0 (by simp) (by omega)
      rw [List.takeWhile_cons_of_pos (by simpa using h0)]
      have := ih k (by simpa using hk) (fun j hj hjk => hb (j + 1) (by simpa using hj) (by omega)) (by simpa using hx)
      unfold idxN at this
      simp [this]

set_option maxRecDepth 100000 in
set_option maxHeartbeats 1600000 in
theorem index108 (l : List Ent) (i g : Nat) (ao : Option Addr) (cap : Nat) (w : World) (h : Es w (.slice ao l.length cap) l) (hg : w.cell? ⟨g, 0, none⟩ = some (.int .u64 i)) (hl : l.length < 1000000000) :
    Calls Tryz.prog 108 #[.slice ao l.length cap, .func (.func 109) #[] #[.pointer (some ⟨g, 0, none⟩)]] w fun e w' => e = .returned (.int .i64 (idxI l i)) ∧ Below w.heap.size w w' := by
  obtain ⟨us, u1, ⟨y1, y2, ao', cap', hv, y3, y4, y7, y5⟩, hT, hu⟩ := h
  cases hv
  have Y5 := Lib.hid y5
  have HU := Lib.hid hu
  have HC := Lib.hid (enCells_at l us u1)
  have HG := Lib.hid hg
  clear y1 y2 y5 hu hT
  go_enter Tryz.func108, Tryz.ntmps108
  go_wp2
  go_loopw [8] (fun j wr => ∃ k : Nat, k ≤ l.length ∧ j = .int .i64 k ∧ Below w.heap.size w wr ∧ ∀ m (hm : m < l.length), m < k → (l[m]).i < i) (fun j _ => l.length - (intOf j).toNat)
  case atStart => exact ⟨0, Nat.zero_le _, rfl, Below.refl _ _, fun m _ hm => by omega⟩
  case round =>
    obtain ⟨k, hk, rfl, hbel, hall⟩ := hrel
    have HA := Lib.hid hall
    clear hall
    by_cases hlt : k < l.length
    · obtain ⟨g2, off, rfl, hcc⟩ := Y5.out.resolve_left (by omega)
      obtain ⟨u, hu1, hu2⟩ := HU.out k hlt
      obtain ⟨e0, e1, e2⟩ := HC.out k hlt u hu1
      have mv : ∀ {a : Addr} {x : Value}, w.cell? a = some x → wr.cell? a = some x := fun {a x} h => by
        rw [hbel.cell (p := a) (World.block_lt_of_cell? w _ h)]; exact h
      have d0 := mv (hcc _ _ e0)
      have d1 := mv (hcc _ _ e1)
      have d2 := mv (hcc _ _ e2)
      have HG2 := Lib.hid (mv HG.out)
      obtain ⟨uo, un, uc, rfl⟩ : ∃ uo un uc, u = .slice uo un uc := by
        obtain ⟨⟨_, _, uo, uc, rfl, _⟩, _⟩ := hu2
        exact ⟨_, _, _, rfl⟩
      obtain ⟨x, hx⟩ : ∃ x, x = l[k] := ⟨_, rfl⟩
      have HX := Lib.hid hx
      rw [← hx] at d0 d1
      rw [← Nat.add_assoc] at d1 d2
      clear hx hcc e0 e1 e2 hu1 hu2
      by_cases hle : i ≤ x.i
      · have hdc : decide (i ≤ x.i) = true := decide_eq_true hle
        go_wp2_with (go_at_call 109; refine (geq109 g i x _ _ HG2.out ⟨_, _, _, rfl⟩).mono ?_; rw [hdc]; rintro e w2 ⟨rfl, hb2⟩)
        go_ret
        have e3 := idxN_at l i k hlt HA.out (by rw [← HX.out]; omega)
        exact ⟨by unfold idxI; rw [e3, if_pos hlt]; rfl, hbel.trans (hb2.mono hbel.size)⟩
      · have hdc : decide (i ≤ x.i) = false := decide_eq_false hle
        go_wp2_with (go_at_call 109; refine (geq109 g i x _ _ HG2.out ⟨_, _, _, rfl⟩).mono ?_; rw [hdc]; rintro e w2 ⟨rfl, hb2⟩)
        go_roundw
        case rel => exact ⟨k + 1, by omega, by go_num, hbel.trans (hb2.mono hbel.size), fun m hm hmk => by
          by_cases e : m = k
          · subst e; rw [← HX.out]; omega
          · exact HA.out m hm (by omega)⟩
        case measure => simp [intOf]; omega
    · have hkl : k = l.length := by omega
      subst hkl
      go_wp2
      go_ret
      have e3 := idxN_all l i (fun j hj => HA.out j hj hj)
      exact ⟨by unfold idxI; rw [e3, if_neg (Nat.lt_irrefl _)]; rfl, hbel⟩
end Go.Proofs.YtpcipfnahknngaaGreatDoor

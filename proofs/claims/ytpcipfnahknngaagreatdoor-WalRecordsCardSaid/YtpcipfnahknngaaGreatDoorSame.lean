/- Contracts of the two Sames; what the two Parses answer is the same. No statement of the seat. -/
import Derived.Test.YtpcipfnahknngaaGreatDoorRefPar
namespace Go.Proofs.YtpcipfnahknngaaGreatDoor
open Go.RowKit

theorem takeTextT_put {b s : List UInt8} {a2 a3 : Nat} (h : takeTextT b a2 = (s, a3, 0)) : a2 ≤ a3 ∧ a3 ≤ b.length ∧ putText s = (b.drop a2).take (a3 - a2) := by
  obtain ⟨n, nx, e, ht⟩ : ∃ n nx e, takeT b a2 = (n, nx, e) := ⟨_, _, _, rfl⟩
  unfold takeTextT at h
  rw [ht] at h
  cases e with
  | succ e => simp at h
  | zero =>
    obtain ⟨g1, g2, g3, g4⟩ := takeT_put ht
    have h : (if 4096 < n ∨ b.length - nx < n then (([] : List UInt8), 0, 4) else ((b.drop nx).take n, nx + n, 0)) = (s, a3, 0) := h
    split at h
    · simp at h
    · rename_i hc
      cases h
      have hl : ((b.drop nx).take n).length = n := by simp; omega
      refine ⟨by omega, by omega, ?_⟩
      unfold putText
      rw [hl, g4]
      have e1 : nx + n - a2 = (nx - a2) + n := by omega
      rw [e1, List.take_add, List.drop_drop]
      congr 3
      omega
theorem recL_eq {b : List UInt8} {i t a1 a2 a3 : Nat} {s : List UInt8} (h1 : takeT b 0 = (i, a1, 0)) (h2 : takeT b a1 = (t, a2, 0)) (h3 : takeTextT b a2 = (s, a3, 0)) : recL ⟨i, t, s⟩ = b.take a3 ∧ a3 ≤ b.length := by
  obtain ⟨_, p2, p3, p4⟩ := takeT_put h1
  obtain ⟨_, q2, q3, q4⟩ := takeT_put h2
  obtain ⟨r2, r3, r4⟩ := takeTextT_put h3
  refine ⟨?_, r3⟩
  unfold recL
  show putL i ++ (putL t ++ putText s) = _
  rw [p4, q4, r4]
  have e1 : a3 = a1 + ((a2 - a1) + (a3 - a2)) := by omega
  rw [e1, List.take_add, List.take_add, List.drop_drop]
  simp only [List.drop_zero, Nat.sub_zero]
  congr 2
  · congr 2 <;> omega
theorem parse_same (b : List UInt8) : parseR b = parseT b := by
  obtain ⟨i, a1, e1, h1⟩ : ∃ i a1 e1, takeT b 0 = (i, a1, e1) := ⟨_, _, _, rfl⟩
  obtain ⟨t, a2, e2, h2⟩ : ∃ i a1' e1, takeT b a1 = (i, a1', e1) := ⟨_, _, _, rfl⟩
  obtain ⟨s, a3, e3, h3⟩ : ∃ i a1 e1, takeTextT b a2 = (i, a1, e1) := ⟨_, _, _, rfl⟩
  unfold parseR parseT
  rw [h1]
  simp only [h2, h3]
  by_cases hc : e1 = 0 ∧ e2 = 0 ∧ e3 = 0
  · obtain ⟨rfl, rfl, rfl⟩ := hc
    obtain ⟨g1, g2⟩ := recL_eq h1 h2 h3
    have : (recL ⟨i, t, s⟩ = b) ↔ a3 = b.length := by
      rw [g1]
      constructor
      · intro h
        have := congrArg List.length h
        rw [List.length_take] at this
        omega
      · rintro rfl
        exact List.take_length
    simp only [true_and, this]
    by_cases c1 : a3 = b.length
    · by_cases c2 : i ≠ 0 ∧ s.length ≤ 2000
      · rw [if_pos ⟨c2.1, c2.2, c1⟩, if_pos ⟨c1, c2⟩]
      · rw [if_neg (fun h => c2 ⟨h.1, h.2.1⟩), if_neg (fun h => c2 h.2)]
    · rw [if_neg (fun h => c1 h.2.2), if_neg (fun h => c1 h.1)]
  · rw [if_neg (fun h => hc ⟨h.1, h.2.1, h.2.2.1⟩), if_neg (fun h => hc ⟨h.1, h.2.1, h.2.2.1⟩)]

def sameE (x y : Ent) : Bool := decide (x.i = y.i) && (decide (x.t = y.t) && decide (x.b = y.b))

set_option maxRecDepth 100000 in
set_option maxHeartbeats 1600000 in
theorem rsame16 (x y : Ent) (u v : Value) (w : World) (hu : Bt w u x.b) (hv : Bt w v y.b) :
    Calls Tryz.prog 16 #[.agg #[.int .u64 x.i, .int .u64 x.t, u], .agg #[.int .u64 y.i, .int .u64 y.t, v]] w fun e w' => e = .returned (.bool (sameE x y)) ∧ Below w.heap.size w w' := by
  obtain ⟨xi, xt, xb⟩ := x
  obtain ⟨yi, yt, yb⟩ := y
  have hb : Below w.heap.size w ((w.alloc (.cells #[.int .u64 xi, .int .u64 xt, u] 25)).alloc (.cells #[.int .u64 yi, .int .u64 yt, v] 25)) := ((Below.refl _ _).alloc (by simp) _).alloc (by simp) _
  have h1 := conv_str _ _ _ (hu.below hb (Nat.le_refl _))
  have h2 := conv_str _ _ _ (hv.below hb (Nat.le_refl _))
  obtain ⟨_, _, ao, cap, rfl, _⟩ := hu
  obtain ⟨_, _, bo, dap, rfl, _⟩ := hv
  unfold sameE
  simp only
  simp only at h1 h2
  by_cases hi : xi = yi
  · subst hi
    by_cases ht : xt = yt
    · subst ht
      have hbs : decide (xb = yb) = ((tx xb).toList == (tx yb).toList) := by rw [tx_toList, tx_toList, Bool.eq_iff_iff]; simp
      rw [hbs, decide_eq_true rfl, decide_eq_true rfl]
      have HB := Lib.hid hb
      clear hb hbs
      go_enter Tryz.func16, Tryz.ntmps16
      go_wp2
      go_ret
      exact ⟨rfl, HB.out⟩
    · rw [decide_eq_true rfl, decide_eq_false ht]
      have hn : ¬ ((xt : Int) = yt) := by omega
      have HB := Lib.hid hb
      clear hb h1 h2 ht
      go_enter Tryz.func16, Tryz.ntmps16
      go_wp2
      go_ret
      exact ⟨rfl, HB.out⟩
  · rw [decide_eq_false hi]
    have hn : ¬ ((xi : Int) = yi) := by omega
    have HB := Lib.hid hb
    clear hb h1 h2 hi
    go_enter Tryz.func16, Tryz.ntmps16
    go_wp2
    go_ret
    exact ⟨rfl, HB.out⟩

set_option maxRecDepth 100000 in
set_option maxHeartbeats 1600000 in
theorem same17 (x y : Ent) (u v : Value) (w : World) (hu : Bt w u x.b) (hv : Bt w v y.b) :
    Calls Tryz.prog 17 #[.agg #[.int .u64 x.i, .int .u64 x.t, u], .agg #[.int .u64 y.i, .int .u64 y.t, v]] w fun e w' => e = .returned (.bool (sameE x y)) ∧ Below w.heap.size w w' := by
  obtain ⟨xi, xt, xb⟩ := x
  obtain ⟨yi, yt, yb⟩ := y
  have hb : Below w.heap.size w ((w.alloc (.cells #[.int .u64 xi, .int .u64 xt, u] 25)).alloc (.cells #[.int .u64 yi, .int .u64 yt, v] 25)) := ((Below.refl _ _).alloc (by simp) _).alloc (by simp) _
  have he := equal57 _ _ _ _ _ (hu.below hb (Nat.le_refl _)) (hv.below hb (Nat.le_refl _))
  obtain ⟨_, _, ao, cap, rfl, _⟩ := hu
  obtain ⟨_, _, bo, dap, rfl, _⟩ := hv
  unfold sameE
  simp only
  simp only at he
  by_cases hi : xi = yi
  · subst hi
    by_cases ht : xt = yt
    · subst ht
      have hbs : decide (xb = yb) = sameB xb yb := by unfold sameB; rw [Bool.eq_iff_iff]; simp
      rw [hbs, decide_eq_true rfl, decide_eq_true rfl]
      have HB := Lib.hid hb
      clear hb hbs
      go_enter Tryz.func17, Tryz.ntmps17
      go_wp2_with (go_at_call 57; refine he.mono ?_; rintro e w1 ⟨rfl, q, rfl⟩)
      go_ret
      exact ⟨rfl, HB.out.trans ⟨rfl, rfl, rfl, Nat.le_refl _, fun _ _ => rfl⟩⟩
    · rw [decide_eq_true rfl, decide_eq_false ht]
      have hn : ¬ ((xt : Int) = yt) := by omega
      have HB := Lib.hid hb
      clear hb he ht
      go_enter Tryz.func17, Tryz.ntmps17
      go_wp2
      go_ret
      exact ⟨rfl, HB.out⟩
  · rw [decide_eq_false hi]
    have hn : ¬ ((xi : Int) = yi) := by omega
    have HB := Lib.hid hb
    clear hb he hi
    go_enter Tryz.func17, Tryz.ntmps17
    go_wp2
    go_ret
    exact ⟨rfl, HB.out⟩
end Go.Proofs.YtpcipfnahknngaaGreatDoor

/- The iterator frame.All: its contract. No statement of the seat. -/
import Derived.Test.YtpcipfnahknngaaGreatDoorFst90
import Derived.OwnWalkIn
import Derived.TacticsInMore
import Derived.LoopNIn
import Derived.LoopIn
namespace Go.Proofs.YtpcipfnahknngaaGreatDoor
open Go.RowKit
attribute [local go_sem] Oper.semAt_some

theorem Bt.drop {w : World} {g off n cap : Nat} {b : List UInt8} (h : Bt w (.slice (some ⟨g, off, none⟩) n cap) b) (i : Nat) (hi : i ≤ b.length) (hc : i < cap) :
    Bt w (.slice (some ⟨g, off + i, none⟩) (b.length - i) (cap - i)) (b.drop i) := by
  have h1 := h.cut i b.length hi (Nat.le_refl _) hc
  rwa [List.take_of_length_le (by simp)] at h1

theorem first90_none (v : Value) (b : List UInt8) (w : World) (hv : Bt w v b) (hb : b.length ≤ 140737488351232) (hf : firstT b = none) :
    Calls Tryz.prog 90 #[v] w fun e w' => e = .returned (.tuple #[.slice none 0 0, .int .i64 0, .bool false]) ∧ Below w.heap.size w w' := by
  refine (first90 v b w hv hb).mono fun e w' h => ?_
  rw [hf] at h
  exact ⟨h.2, h.1⟩
theorem first90_some (v : Value) (b r : List UInt8) (m : Nat) (w : World) (hv : Bt w v b) (hb : b.length ≤ 140737488351232) (hf : firstT b = some (r, m)) :
    Calls Tryz.prog 90 #[v] w fun e w' => ∃ u, e = .returned (.tuple #[u, .int .i64 m, .bool true]) ∧ Bt w' u r ∧ Below w.heap.size w w' := by
  refine (first90 v b w hv hb).mono fun e w' h => ?_
  rw [hf] at h
  obtain ⟨h1, u, h2, h3⟩ := h
  exact ⟨u, h2, h3, h1⟩
theorem Bt.empty (w : World) (ao : Option Addr) (cap : Nat) (h : cap ≤ maxLen) (hn : ao = none → cap = 0) : Bt w (.slice ao 0 cap) [] := ⟨rfl, bv_one _, ao, cap, rfl, Nat.zero_le _, h, hn, Or.inl rfl⟩

set_option maxRecDepth 100000 in
set_option maxHeartbeats 1600000 in
theorem all107 (n gb : Nat) (v : Value) (b : List UInt8) (hb : b.length ≤ 140737488351232) : AllIt n gb v b := by
  intro l J Jx W hrd hab hY h0
  obtain ⟨y1, y2, ao, cap, rfl, y3, y4, y7, y5⟩ := (hrd 0 W h0).2
  unfold maxLen at y4
  clear y1 y2 y5
  have HRD := Lib.hid hrd
  have HAB := Lib.hid hab
  have HY := Lib.hid hY
  have HB := Lib.hid hb
  clear hrd hab hY hb
  refine callsIn_of_wp Tryz.func107 rfl trivial ?_ rfl
  simp only [Tryz.ntmps107, List.size_toArray, List.length_cons, List.length_nil, Nat.reduceAdd, Nat.reduceSub, Array.replicate_succ, Array.replicate_zero, List.push_toArray, List.append_toArray, List.nil_append, List.cons_append]
  gi_wp2
  gi_loopw [3] (fun i wr => ∃ k : Nat, k ≤ b.length ∧ i = .int .i64 k ∧ J k wr) (fun i _ => b.length - (intOf i).toNat)
  case atStart => exact ⟨0, Nat.zero_le _, rfl, h0⟩
  case round =>
    obtain ⟨k, hk, rfl, hJ⟩ := hrel
    obtain ⟨c0, hB⟩ := HRD.out k wr hJ
    have hB2 := hB
    obtain ⟨z1, z2, ao', cap', hv, z3, z4, z7, z5⟩ := hB2
    cases hv
    clear z1 z2 z3 z4
    rcases z5 with z5 | ⟨g, off, rfl, z5⟩
    · have hb0 : b = [] := List.eq_nil_of_length_eq_zero z5
      subst hb0
      have hk0 : k = 0 := by simpa using hk
      subst hk0
      have hf : firstT ([] : List UInt8) = none := rfl
      have hE : Bt wr (.slice ao 0 cap) [] := Bt.empty _ _ _ (by unfold maxLen; omega) z7
      have HE := Lib.hid hE
      have HJ := Lib.hid hJ
      have HZ := Lib.hid z7
      clear z5 hk hE hB hJ hf z7
      gi_wp2_with (refine ⟨trivial, (by intro h; cases h), ?_⟩; gi_at_call 90; refine (callsIn_wide.2 (first90_none _ [] _ HE.out (by decide) rfl)).mono ?_; rintro e w1 ⟨rfl, b1⟩)
      refine ⟨fun _ h => (by cases h), ?_⟩
      gi_wp2
      refine bodyPost_ret (results_none rfl _ _ _) rfl ?_
      exact ⟨⟨_, rfl⟩, .inl ⟨0, Nat.le_refl _, rfl, HAB.out _ _ _ HJ.out b1⟩⟩
    · clear z5
      have h1 : (0 : Int) ≤ (k : Int) := by omega
      have h2 : (k : Int) ≤ (b.length : Int) := by omega
      by_cases hc : k < cap
      · have hne : ¬ cap = k := by omega
        have HB2 := Lib.hid (hB.drop k hk hc)
        have HJ := Lib.hid hJ
        clear hB hJ
        cases hf : firstT (b.drop k) with
        | none =>
          have HF := Lib.hid hf
          clear hf
          gi_wp2_with (refine ⟨trivial, (by intro h; cases h), ?_⟩; gi_at_call 90; refine (callsIn_wide.2 (first90_none _ (b.drop k) _ HB2.out (by have := HB.out; simp; omega) HF.out)).mono ?_; rintro e w1 ⟨rfl, b1⟩)
          refine ⟨fun _ h => (by cases h), ?_⟩
          gi_wp2
          refine bodyPost_ret (results_none rfl _ _ _) rfl ?_
          exact ⟨⟨_, rfl⟩, .inl ⟨k, hk, HF.out, HAB.out _ _ _ HJ.out b1⟩⟩
        | some p =>
          obtain ⟨r, m⟩ := p
          have hm := firstT_le hf
          have hkm : k + m ≤ b.length := by have := hm.2.1; simp at this; omega
          have hm5 : 5 < m := hm.1
          have h63 : b.length ≤ 140737488351232 := HB.out
          have HF := Lib.hid hf
          clear hf hm
          gi_wp2_with (refine ⟨trivial, (by intro h; cases h), ?_⟩; gi_at_call 90; refine (callsIn_wide.2 (first90_some _ (b.drop k) r m _ HB2.out (by have := HB.out; simp; omega) HF.out)).mono ?_; rintro e w1 ⟨u, rfl, hu, b1⟩; obtain ⟨fn, tmps, assign, body, hy, hR⟩ := HY.out k r m w1 u (HAB.out k wr w1 HJ.out b1) HF.out hkm hu)
          refine ⟨(by intro h; cases h), ?_⟩
          refine hR.mono ?_
          rintro e W3 (⟨rfl, hJ3⟩ | ⟨rfl, hJx3⟩)
          · gi_wp2
            go_roundw
            case rel => exact ⟨k + m, hkm, by go_num, hJ3⟩
            case measure => simp [intOf]; omega
          · gi_wp2
            refine bodyPost_ret (results_none rfl _ _ _) rfl ?_
            exact ⟨⟨_, rfl⟩, .inr hJx3⟩
      · have hne : cap = k := by omega
        subst hne
        have hkb : cap = b.length := by omega
        have hbd : b.drop cap = [] := by rw [hkb]; exact List.drop_length
        have hE : Bt wr (.slice (some ⟨g, off, none⟩) 0 0) [] := Bt.empty _ _ _ (Nat.zero_le _) (fun h => by cases h)
        have hl0 : b.length - cap = 0 := by omega
        have HE := Lib.hid hE
        have HJ := Lib.hid hJ
        have HF : Hid (firstT (b.drop cap) = none) := Lib.hid (by rw [hbd]; rfl)
        clear hE hJ hB hbd hkb
        gi_wp2_with (refine ⟨trivial, (by intro h; cases h), ?_⟩; gi_at_call 90; refine (callsIn_wide.2 (first90_none _ [] _ HE.out (by decide) rfl)).mono ?_; rintro e w1 ⟨rfl, b1⟩)
        refine ⟨fun _ h => (by cases h), ?_⟩
        gi_wp2
        refine bodyPost_ret (results_none rfl _ _ _) rfl ?_
        exact ⟨⟨_, rfl⟩, .inl ⟨_, hk, HF.out, HAB.out _ _ _ HJ.out b1⟩⟩
end Go.Proofs.YtpcipfnahknngaaGreatDoor

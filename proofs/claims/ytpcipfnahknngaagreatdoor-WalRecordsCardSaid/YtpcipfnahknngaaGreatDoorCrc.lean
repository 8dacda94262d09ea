/- Contracts of package check. No statement of the seat. -/
import Derived.Test.YtpcipfnahknngaaGreatDoorDiskApp
namespace Go.Proofs.YtpcipfnahknngaaGreatDoor
open Go.RowKit

theorem wrap_u32n (n : Int) : IntKind.u32.wrap n = n % 4294967296 := by simp [IntKind.wrap, IntKind.bits, IntKind.signed]
theorem ofInt32 (a : Nat) (ha : a < 4294967296) : (BitVec.ofInt 32 (a : Int)).toNat = a := by
  rw [BitVec.ofInt_natCast, BitVec.toNat_ofNat]; exact Nat.mod_eq_of_lt (by omega)
theorem xor_u32 (a b : Nat) (ha : a < 4294967296) (hb : b < 4294967296) : bits .xor .u32 (a : Int) (b : Int) = ((a ^^^ b : Nat) : Int) := by
  have hx : a ^^^ b < 2 ^ 32 := Nat.xor_lt_two_pow (by omega) (by omega)
  show IntKind.u32.wrap ((BitVec.ofInt 32 (a : Int) ^^^ BitVec.ofInt 32 (b : Int)).toNat : Int) = _
  rw [BitVec.toNat_xor, ofInt32 a ha, ofInt32 b hb, wrap_u32n]
  omega
theorem and_u32 (a b : Nat) (ha : a < 4294967296) (hb : b < 4294967296) : bits .and .u32 (a : Int) (b : Int) = ((a &&& b : Nat) : Int) := by
  have hx : a &&& b < 2 ^ 32 := Nat.and_lt_two_pow _ (by omega)
  show IntKind.u32.wrap ((BitVec.ofInt 32 (a : Int) &&& BitVec.ofInt 32 (b : Int)).toNat : Int) = _
  rw [BitVec.toNat_and, ofInt32 a ha, ofInt32 b hb, wrap_u32n]
  omega
theorem or_u32 (a b : Nat) (ha : a < 4294967296) (hb : b < 4294967296) : bits .or .u32 (a : Int) (b : Int) = ((a ||| b : Nat) : Int) := by
  have hx : a ||| b < 2 ^ 32 := Nat.or_lt_two_pow (by omega) (by omega)
  show IntKind.u32.wrap ((BitVec.ofInt 32 (a : Int) ||| BitVec.ofInt 32 (b : Int)).toNat : Int) = _
  rw [BitVec.toNat_or, ofInt32 a ha, ofInt32 b hb, wrap_u32n]
  omega
theorem and_one (a : Nat) (ha : a < 4294967296) : bits .and .u32 (a : Int) 1 = ((a % 2 : Nat) : Int) := by
  have := and_u32 a 1 ha (by decide)
  rw [Nat.and_one_is_mod] at this
  exact this
theorem and_15 (a : Nat) (ha : a < 4294967296) : bits .and .u32 (a : Int) 15 = ((a % 16 : Nat) : Int) := by
  have := and_u32 a 15 ha (by decide)
  rw [show (15 : Nat) = 2 ^ 4 - 1 from rfl, Nat.and_two_pow_sub_one_eq_mod] at this
  exact this

/-- one step of a division -/
def turnN (c : Nat) : Nat := if c % 2 = 1 then (c / 2) ^^^ 2197175160 else c / 2
theorem turnN_lt (c : Nat) (h : c < 4294967296) : turnN c < 4294967296 := by
  unfold turnN
  split
  · exact Nat.xor_lt_two_pow (n := 32) (by omega) (by omega)
  · omega

set_option maxRecDepth 100000 in
set_option maxHeartbeats 800000 in
theorem turn165 (c : Nat) (a : Int) (ha : a = c) (w : World) (hc : c < 4294967296) : Calls Tryz.prog 165 #[.int .u32 a] w fun e w' => e = .returned (.int .u32 (turnN c)) ∧ w' = w := by
  subst ha
  have h1 := and_one c hc
  by_cases h : c % 2 = 1
  · have e : turnN c = (c / 2) ^^^ 2197175160 := by unfold turnN; rw [if_pos h]
    have h2 := xor_u32 (c / 2) 2197175160 (by omega) (by decide)
    rw [e, ← h2]
    rw [h] at h1
    clear e h2
    go_enter Tryz.func165, Tryz.ntmps165
    go_wp2
    go_ret
    exact ⟨by simp, rfl⟩
  · have e : turnN c = c / 2 := by unfold turnN; rw [if_neg h]
    have h3 : c % 2 = 0 := by omega
    rw [e]
    rw [h3] at h1
    go_enter Tryz.func165, Tryz.ntmps165
    go_wp2
    go_ret
    exact ⟨by simp, rfl⟩
def turnK (c : Nat) : Nat → Nat
  | 0 => c
  | k + 1 => turnN (turnK c k)
theorem turnK_lt (c : Nat) (h : c < 4294967296) : ∀ k, turnK c k < 4294967296
  | 0 => h
  | k + 1 => turnN_lt _ (turnK_lt c h k)
def remL (k : Nat) : List Value := (List.range 16).map fun j => if j < k then .int .u32 (turnK j 4) else .int .u32 0
def tabV : Array Value := (remL 16).toArray
theorem remL_len (k : Nat) : (remL k).length = 16 := by simp [remL]
theorem remL_at (k : Nat) (h : k < 16) : (remL k).toArray[k]? = some (.int .u32 0) := by
  simp [remL, h]
theorem remL_set (k : Nat) (_h : k < 16) : (remL k).toArray.setIfInBounds k (.int .u32 (turnK k 4)) = (remL (k + 1)).toArray := by
  apply Array.ext
  · simp [remL]
  · intro j h1 h2
    have hj : j < 16 := by simpa [remL] using h2
    rw [Array.getElem_setIfInBounds (by simpa [remL] using hj)]
    simp only [remL, List.getElem_toArray, List.getElem_map, List.getElem_range]
    by_cases e : k = j
    · subst e
      simp
    · rw [if_neg e]
      by_cases hlt : j < k
      · rw [if_pos hlt, if_pos (by omega)]
      · rw [if_neg hlt, if_neg (by omega)]

set_option maxRecDepth 100000 in
set_option maxHeartbeats 1600000 in
theorem rem161 (w : World) : Calls Tryz.prog 161 #[] w fun e w' => e = .returned (.agg tabV) ∧ Below w.heap.size w w' := by
  have hb0 := ((Below.refl w.heap.size w).alloc (Nat.le_refl _) (Obj.cells (remL 0).toArray 217)).alloc (by simp) (Obj.cells (remL 0).toArray 217)
  go_enter Tryz.func161, Tryz.ntmps161
  go_wp2
  go_loopw [5] (fun i wr => ∃ k : Nat, k ≤ 16 ∧ i = .int .i64 k ∧ Box wr (w.heap.size + 1) 217 (remL k).toArray ∧ Box wr w.heap.size 217 (remL 0).toArray ∧ Below w.heap.size w wr) (fun i _ => 16 - (intOf i).toNat)
  case atStart => exact ⟨0, Nat.zero_le _, rfl, Box.new _ _ _ _ (by simp), (Box.new w _ _ _ rfl).below (B := w.heap.size + 1) ((Below.refl _ _).alloc (by simp) _) (by omega), hb0⟩
  case round =>
    obtain ⟨k, hk, rfl, hB1, hB0, hbel⟩ := hrel
    by_cases hlt : k < 16
    · have hwk : IntKind.u32.wrap (k : Int) = (k : Int) := by rw [wrap_u32n]; omega
      have hcl := hB1.cell k (remL_at k hlt)
      have hfz := hB1.froz
      have hst := remL_set k hlt
      have HST := Lib.hid hst
      have HB1 := Lib.hid hB1
      have HB0 := Lib.hid hB0
      clear hst hB1 hB0
      go_wp2
      simp only [show ((k : Int) < 16) = True from eq_true (by omega), decide_true]
      go_loop [4, 10] (fun c j => ∃ m : Nat, m ≤ 4 ∧ j = .int .i64 m ∧ c = .int .u32 (turnK k m)) (fun _ j => 4 - (intOf j).toNat)
      case atStart => exact ⟨0, Nat.zero_le _, rfl, rfl⟩
      case round =>
        obtain ⟨m, hm, rfl, rfl⟩ := hrel
        have hlk := turnK_lt k (by omega) m
        have HLK := Lib.hid hlk
        clear hlk
        by_cases hlm : m < 4
        · go_wp2_with (go_at_call 165; refine (turn165 (turnK k m) _ rfl _ HLK.out).mono ?_; rintro e w2 ⟨rfl, rfl⟩)
          go_round
          case rel => exact ⟨m + 1, by omega, by go_num, rfl⟩
          case measure => simp [intOf]; omega
        · have hm4 : m = 4 := by omega
          subst hm4
          go_wp2
          go_roundw
          case rel => exact ⟨k + 1, by omega, by go_num, by rw [← HST.out]; exact HB1.out.set k _, HB0.out.other _ _ (by simp), hbel.setCell (p := ⟨w.heap.size + 1, k, none⟩) (by simp) _⟩
          case measure => simp [intOf]; omega
    · have hkl : k = 16 := by omega
      subst hkl
      have k0 : wr.cell? ⟨w.heap.size + 1, 0, none⟩ = some (.int .u32 (turnK 0 4)) := hB1.cell 0 rfl
      have k1 : wr.cell? ⟨w.heap.size + 1, 1, none⟩ = some (.int .u32 (turnK 1 4)) := hB1.cell 1 rfl
      have k2 : wr.cell? ⟨w.heap.size + 1, 2, none⟩ = some (.int .u32 (turnK 2 4)) := hB1.cell 2 rfl
      have k3 : wr.cell? ⟨w.heap.size + 1, 3, none⟩ = some (.int .u32 (turnK 3 4)) := hB1.cell 3 rfl
      have k4 : wr.cell? ⟨w.heap.size + 1, 4, none⟩ = some (.int .u32 (turnK 4 4)) := hB1.cell 4 rfl
      have k5 : wr.cell? ⟨w.heap.size + 1, 5, none⟩ = some (.int .u32 (turnK 5 4)) := hB1.cell 5 rfl
      have k6 : wr.cell? ⟨w.heap.size + 1, 6, none⟩ = some (.int .u32 (turnK 6 4)) := hB1.cell 6 rfl
      have k7 : wr.cell? ⟨w.heap.size + 1, 7, none⟩ = some (.int .u32 (turnK 7 4)) := hB1.cell 7 rfl
      have k8 : wr.cell? ⟨w.heap.size + 1, 8, none⟩ = some (.int .u32 (turnK 8 4)) := hB1.cell 8 rfl
      have k9 : wr.cell? ⟨w.heap.size + 1, 9, none⟩ = some (.int .u32 (turnK 9 4)) := hB1.cell 9 rfl
      have k10 : wr.cell? ⟨w.heap.size + 1, 10, none⟩ = some (.int .u32 (turnK 10 4)) := hB1.cell 10 rfl
      have k11 : wr.cell? ⟨w.heap.size + 1, 11, none⟩ = some (.int .u32 (turnK 11 4)) := hB1.cell 11 rfl
      have k12 : wr.cell? ⟨w.heap.size + 1, 12, none⟩ = some (.int .u32 (turnK 12 4)) := hB1.cell 12 rfl
      have k13 : wr.cell? ⟨w.heap.size + 1, 13, none⟩ = some (.int .u32 (turnK 13 4)) := hB1.cell 13 rfl
      have k14 : wr.cell? ⟨w.heap.size + 1, 14, none⟩ = some (.int .u32 (turnK 14 4)) := hB1.cell 14 rfl
      have k15 : wr.cell? ⟨w.heap.size + 1, 15, none⟩ = some (.int .u32 (turnK 15 4)) := hB1.cell 15 rfl
      have f0 := hB0.froz
      have z0 : wr.cell? ⟨w.heap.size, 0, none⟩ = some (.int .u32 0) := hB0.cell 0 rfl
      have z1 : wr.cell? ⟨w.heap.size, 1, none⟩ = some (.int .u32 0) := hB0.cell 1 rfl
      have z2 : wr.cell? ⟨w.heap.size, 2, none⟩ = some (.int .u32 0) := hB0.cell 2 rfl
      have z3 : wr.cell? ⟨w.heap.size, 3, none⟩ = some (.int .u32 0) := hB0.cell 3 rfl
      have z4 : wr.cell? ⟨w.heap.size, 4, none⟩ = some (.int .u32 0) := hB0.cell 4 rfl
      have z5 : wr.cell? ⟨w.heap.size, 5, none⟩ = some (.int .u32 0) := hB0.cell 5 rfl
      have z6 : wr.cell? ⟨w.heap.size, 6, none⟩ = some (.int .u32 0) := hB0.cell 6 rfl
      have z7 : wr.cell? ⟨w.heap.size, 7, none⟩ = some (.int .u32 0) := hB0.cell 7 rfl
      have z8 : wr.cell? ⟨w.heap.size, 8, none⟩ = some (.int .u32 0) := hB0.cell 8 rfl
      have z9 : wr.cell? ⟨w.heap.size, 9, none⟩ = some (.int .u32 0) := hB0.cell 9 rfl
      have z10 : wr.cell? ⟨w.heap.size, 10, none⟩ = some (.int .u32 0) := hB0.cell 10 rfl
      have z11 : wr.cell? ⟨w.heap.size, 11, none⟩ = some (.int .u32 0) := hB0.cell 11 rfl
      have z12 : wr.cell? ⟨w.heap.size, 12, none⟩ = some (.int .u32 0) := hB0.cell 12 rfl
      have z13 : wr.cell? ⟨w.heap.size, 13, none⟩ = some (.int .u32 0) := hB0.cell 13 rfl
      have z14 : wr.cell? ⟨w.heap.size, 14, none⟩ = some (.int .u32 0) := hB0.cell 14 rfl
      have z15 : wr.cell? ⟨w.heap.size, 15, none⟩ = some (.int .u32 0) := hB0.cell 15 rfl
      have HB0 := Lib.hid hB0
      clear hB1 hB0
      go_wp2
      have S := ((((((((((((((((HB0.out.set 0 (.int .u32 (turnK 0 4))).set 1 (.int .u32 (turnK 1 4))).set 2 (.int .u32 (turnK 2 4))).set 3 (.int .u32 (turnK 3 4))).set 4 (.int .u32 (turnK 4 4))).set 5 (.int .u32 (turnK 5 4))).set 6 (.int .u32 (turnK 6 4))).set 7 (.int .u32 (turnK 7 4))).set 8 (.int .u32 (turnK 8 4))).set 9 (.int .u32 (turnK 9 4))).set 10 (.int .u32 (turnK 10 4))).set 11 (.int .u32 (turnK 11 4))).set 12 (.int .u32 (turnK 12 4))).set 13 (.int .u32 (turnK 13 4))).set 14 (.int .u32 (turnK 14 4))).set 15 (.int .u32 (turnK 15 4)))
      have hbS := ((((((((((((((((hbel.setCell (p := ⟨w.heap.size, 0, none⟩) (Nat.le_refl _) (.int .u32 (turnK 0 4))).setCell (p := ⟨w.heap.size, 1, none⟩) (Nat.le_refl _) (.int .u32 (turnK 1 4))).setCell (p := ⟨w.heap.size, 2, none⟩) (Nat.le_refl _) (.int .u32 (turnK 2 4))).setCell (p := ⟨w.heap.size, 3, none⟩) (Nat.le_refl _) (.int .u32 (turnK 3 4))).setCell (p := ⟨w.heap.size, 4, none⟩) (Nat.le_refl _) (.int .u32 (turnK 4 4))).setCell (p := ⟨w.heap.size, 5, none⟩) (Nat.le_refl _) (.int .u32 (turnK 5 4))).setCell (p := ⟨w.heap.size, 6, none⟩) (Nat.le_refl _) (.int .u32 (turnK 6 4))).setCell (p := ⟨w.heap.size, 7, none⟩) (Nat.le_refl _) (.int .u32 (turnK 7 4))).setCell (p := ⟨w.heap.size, 8, none⟩) (Nat.le_refl _) (.int .u32 (turnK 8 4))).setCell (p := ⟨w.heap.size, 9, none⟩) (Nat.le_refl _) (.int .u32 (turnK 9 4))).setCell (p := ⟨w.heap.size, 10, none⟩) (Nat.le_refl _) (.int .u32 (turnK 10 4))).setCell (p := ⟨w.heap.size, 11, none⟩) (Nat.le_refl _) (.int .u32 (turnK 11 4))).setCell (p := ⟨w.heap.size, 12, none⟩) (Nat.le_refl _) (.int .u32 (turnK 12 4))).setCell (p := ⟨w.heap.size, 13, none⟩) (Nat.le_refl _) (.int .u32 (turnK 13 4))).setCell (p := ⟨w.heap.size, 14, none⟩) (Nat.le_refl _) (.int .u32 (turnK 14 4))).setCell (p := ⟨w.heap.size, 15, none⟩) (Nat.le_refl _) (.int .u32 (turnK 15 4)))
      have r0 := S.cell 0 (u := .int .u32 (turnK 0 4)) rfl
      have r1 := S.cell 1 (u := .int .u32 (turnK 1 4)) rfl
      have r2 := S.cell 2 (u := .int .u32 (turnK 2 4)) rfl
      have r3 := S.cell 3 (u := .int .u32 (turnK 3 4)) rfl
      have r4 := S.cell 4 (u := .int .u32 (turnK 4 4)) rfl
      have r5 := S.cell 5 (u := .int .u32 (turnK 5 4)) rfl
      have r6 := S.cell 6 (u := .int .u32 (turnK 6 4)) rfl
      have r7 := S.cell 7 (u := .int .u32 (turnK 7 4)) rfl
      have r8 := S.cell 8 (u := .int .u32 (turnK 8 4)) rfl
      have r9 := S.cell 9 (u := .int .u32 (turnK 9 4)) rfl
      have r10 := S.cell 10 (u := .int .u32 (turnK 10 4)) rfl
      have r11 := S.cell 11 (u := .int .u32 (turnK 11 4)) rfl
      have r12 := S.cell 12 (u := .int .u32 (turnK 12 4)) rfl
      have r13 := S.cell 13 (u := .int .u32 (turnK 13 4)) rfl
      have r14 := S.cell 14 (u := .int .u32 (turnK 14 4)) rfl
      have r15 := S.cell 15 (u := .int .u32 (turnK 15 4)) rfl
      exact bodyPost_ret (v := .agg #[Value.int .u32 (turnK 0 4), Value.int .u32 (turnK 1 4), Value.int .u32 (turnK 2 4), Value.int .u32 (turnK 3 4), Value.int .u32 (turnK 4 4), Value.int .u32 (turnK 5 4), Value.int .u32 (turnK 6 4), Value.int .u32 (turnK 7 4), Value.int .u32 (turnK 8 4), Value.int .u32 (turnK 9 4), Value.int .u32 (turnK 10 4), Value.int .u32 (turnK 11 4), Value.int .u32 (turnK 12 4), Value.int .u32 (turnK 13 4), Value.int .u32 (turnK 14 4), Value.int .u32 (turnK 15 4)]) (by simp [results, Tryz.results161, go_sem, r0, r1, r2, r3, r4, r5, r6, r7, r8, r9, r10, r11, r12, r13, r14, r15]) rfl ⟨rfl, hbS⟩
end Go.Proofs.YtpcipfnahknngaaGreatDoor

/- Texts of seat wal in one: Crc Crc2 Frm. No statement of the seat. -/
import Derived.Test.YtpcipfnahknngaaGreatDoorMaDsk
/- Contracts of package check. No statement of the seat. -/
namespace Go.Proofs.YtpcipfnahknngaaGreatDoor
open Go.RowKit

theorem wrap_u32n (n : Int) : IntKind.u32.wrap n = n % 4294967296 := by simp [IntKind.wrap, IntKind.bits, IntKind.signed]
theorem ofInt32 (a : Nat) (ha : a < 4294967296) : (BitVec.ofInt 32 (a : Int)).toNat = a := by
  rw [BitVec.ofInt_natCast, BitVec.toNat_ofNat]; exact Nat.mod_eq_of_lt (by omega)
theorem xor_u32 (a b : Nat) (ha : a < 4294967296) (hb : b < 4294967296) : bits .xor .u32 (a : Int) (b : Int) = ((a ^^^ b : Nat) : Int) := by
  have hx : a ^^^ b < 2 ^ 32 := Nat.xor_lt_two_pow (by omega) (by omega)
  show IntKind.u32.wrap ((BitVec.ofInt 32 (a : Int) ^^^ BitVec.ofInt 32 (b : Int)).toNat : Int) = _
  rw [BitVec.toNat_xor, ofInt32 a ha, ofInt32 b hb, wrap_u32n]
  omega
theorem and_u32 (a b : Nat) (ha : a < 4294967296) (hb : b < 4294967296) : bits .and .u32 (a : Int) (b : Int) = ((a &&& b : Nat) : Int) := by
  have hx : a &&& b < 2 ^ 32 := Nat.and_lt_two_pow _ (by omega)
  show IntKind.u32.wrap ((BitVec.ofInt 32 (a : Int) &&& BitVec.ofInt 32 (b : Int)).toNat : Int) = _
  rw [BitVec.toNat_and, ofInt32 a ha, ofInt32 b hb, wrap_u32n]
  omega
theorem or_u32 (a b : Nat) (ha : a < 4294967296) (hb : b < 4294967296) : bits .or .u32 (a : Int) (b : Int) = ((a ||| b : Nat) : Int) := by
  have hx : a ||| b < 2 ^ 32 := Nat.or_lt_two_pow (by omega) (by omega)
  show IntKind.u32.wrap ((BitVec.ofInt 32 (a : Int) ||| BitVec.ofInt 32 (b : Int)).toNat : Int) = _
  rw [BitVec.toNat_or, ofInt32 a ha, ofInt32 b hb, wrap_u32n]
  omega
theorem and_one (a : Nat) (ha : a < 4294967296) : bits .and .u32 (a : Int) 1 = ((a % 2 : Nat) : Int) := by
  have := and_u32 a 1 ha (by decide)
  rw [Nat.and_one_is_mod] at this
  exact this
theorem and_15 (a : Nat) (ha : a < 4294967296) : bits .and .u32 (a : Int) 15 = ((a % 16 : Nat) : Int) := by
  have := and_u32 a 15 ha (by decide)
  rw [show (15 : Nat) = 2 ^ 4 - 1 from rfl, Nat.and_two_pow_sub_one_eq_mod] at this
  exact this

/-- one step of a division -/
def turnN (c : Nat) : Nat := if c % 2 = 1 then (c / 2) ^^^ 2197175160 else c / 2
theorem turnN_lt (c : Nat) (h : c < 4294967296) : turnN c < 4294967296 := by
  unfold turnN
  split
  · exact Nat.xor_lt_two_pow (n := 32) (by omega) (by omega)
  · omega

set_option maxRecDepth 100000 in
set_option maxHeartbeats 800000 in
theorem turn165 (c : Nat) (a : Int) (ha : a = c) (w : World) (hc : c < 4294967296) : Calls Tryz.prog 165 #[.int .u32 a] w fun e w' => e = .returned (.int .u32 (turnN c)) ∧ w' = w := by
  subst ha
  have h1 := and_one c hc
  by_cases h : c % 2 = 1
  · have e : turnN c = (c / 2) ^^^ 2197175160 := by unfold turnN; rw [if_pos h]
    have h2 := xor_u32 (c / 2) 2197175160 (by omega) (by decide)
    rw [e, ← h2]
    rw [h] at h1
    clear e h2
    go_enter Tryz.func165, Tryz.ntmps165
    go_wp2
    go_ret
    exact ⟨by simp, rfl⟩
  · have e : turnN c = c / 2 := by unfold turnN; rw [if_neg h]
    have h3 : c % 2 = 0 := by omega
    rw [e]
    rw [h3] at h1
    go_enter Tryz.func165, Tryz.ntmps165
    go_wp2
    go_ret
    exact ⟨by simp, rfl⟩
def turnK (c : Nat) : Nat → Nat
  | 0 => c
  | k + 1 => turnN (turnK c k)
theorem turnK_lt (c : Nat) (h : c < 4294967296) : ∀ k, turnK c k < 4294967296
  | 0 => h
  | k + 1 => turnN_lt _ (turnK_lt c h k)
def remL (k : Nat) : List Value := (List.range 16).map fun j => if j < k then .int .u32 (turnK j 4) else .int .u32 0
def tabV : Array Value := (remL 16).toArray
theorem remL_len (k : Nat) : (remL k).length = 16 := by simp [remL]
theorem remL_at (k : Nat) (h : k < 16) : (remL k).toArray[k]? = some (.int .u32 0) := by
  simp [remL, h]
theorem remL_set (k : Nat) (_h : k < 16) : (remL k).toArray.setIfInBounds k (.int .u32 (turnK k 4)) = (remL (k + 1)).toArray := by
  apply Array.ext
  · simp [remL]
  · intro j h1 h2
    have hj : j < 16 := by simpa [remL] using h2
    rw [Array.getElem_setIfInBounds (by simpa [remL] using hj)]
    simp only [remL, List.getElem_toArray, List.getElem_map, List.getElem_range]
    by_cases e : k = j
    · subst e
      simp
    · rw [if_neg e]
      by_cases hlt : j < k
      · rw [if_pos hlt, if_pos (by omega)]
      · rw [if_neg hlt, if_neg (by omega)]

set_option maxRecDepth 100000 in
set_option maxHeartbeats 1600000 in
theorem rem161 (w : World) : Calls Tryz.prog 161 #[] w fun e w' => e = .returned (.agg tabV) ∧ Below w.heap.size w w' := by
  have hb0 := ((Below.refl w.heap.size w).alloc (Nat.le_refl _) (Obj.cells (remL 0).toArray 217)).alloc (by simp) (Obj.cells (remL 0).toArray 217)
  go_enter Tryz.func161, Tryz.ntmps161
  go_wp2
  go_loopw [5] (fun i wr => ∃ k : Nat, k ≤ 16 ∧ i = .int .i64 k ∧ Box wr (w.heap.size + 1) 217 (remL k).toArray ∧ Box wr w.heap.size 217 (remL 0).toArray ∧ Below w.heap.size w wr) (fun i _ => 16 - (intOf i).toNat)
  case atStart => exact ⟨0, Nat.zero_le _, rfl, Box.new _ _ _ _ (by simp), (Box.new w _ _ _ rfl).below (B := w.heap.size + 1) ((Below.refl _ _).alloc (by simp) _) (by omega), hb0⟩
  case round =>
    obtain ⟨k, hk, rfl, hB1, hB0, hbel⟩ := hrel
    by_cases hlt : k < 16
    · have hwk : IntKind.u32.wrap (k : Int) = (k : Int) := by rw [wrap_u32n]; omega
      have hcl := hB1.cell k (remL_at k hlt)
      have hfz := hB1.froz
      have hst := remL_set k hlt
      have HST := Lib.hid hst
      have HB1 := Lib.hid hB1
      have HB0 := Lib.hid hB0
      clear hst hB1 hB0
      go_wp2
      simp only [show ((k : Int) < 16) = True from eq_true (by omega), decide_true]
      go_loop [4, 10] (fun c j => ∃ m : Nat, m ≤ 4 ∧ j = .int .i64 m ∧ c = .int .u32 (turnK k m)) (fun _ j => 4 - (intOf j).toNat)
      case atStart => exact ⟨0, Nat.zero_le _, rfl, rfl⟩
      case round =>
        obtain ⟨m, hm, rfl, rfl⟩ := hrel
        have hlk := turnK_lt k (by omega) m
        have HLK := Lib.hid hlk
        clear hlk
        by_cases hlm : m < 4
        · go_wp2_with (go_at_call 165; refine (turn165 (turnK k m) _ rfl _ HLK.out).mono ?_; rintro e w2 ⟨rfl, rfl⟩)
          go_round
          case rel => exact ⟨m + 1, by omega, by go_num, rfl⟩
          case measure => simp [intOf]; omega
        · have hm4 : m = 4 := by omega
          subst hm4
          go_wp2
          go_roundw
          case rel => exact ⟨k + 1, by omega, by go_num, by rw [← HST.out]; exact HB1.out.set k _, HB0.out.other _ _ (by simp), hbel.setCell (p := ⟨w.heap.size + 1, k, none⟩) (by simp) _⟩
          case measure => simp [intOf]; omega
    · have hkl : k = 16 := by omega
      subst hkl
      have k0 : wr.cell? ⟨w.heap.size + 1, 0, none⟩ = some (.int .u32 (turnK 0 4)) := hB1.cell 0 rfl
      have k1 : wr.cell? ⟨w.heap.size + 1, 1, none⟩ = some (.int .u32 (turnK 1 4)) := hB1.cell 1 rfl
      have k2 : wr.cell? ⟨w.heap.size + 1, 2, none⟩ = some (.int .u32 (turnK 2 4)) := hB1.cell 2 rfl
      have k3 : wr.cell? ⟨w.heap.size + 1, 3, none⟩ = some (.int .u32 (turnK 3 4)) := hB1.cell 3 rfl
      have k4 : wr.cell? ⟨w.heap.size + 1, 4, none⟩ = some (.int .u32 (turnK 4 4)) := hB1.cell 4 rfl
      have k5 : wr.cell? ⟨w.heap.size + 1, 5, none⟩ = some (.int .u32 (turnK 5 4)) := hB1.cell 5 rfl
      have k6 : wr.cell? ⟨w.heap.size + 1, 6, none⟩ = some (.int .u32 (turnK 6 4)) := hB1.cell 6 rfl
      have k7 : wr.cell? ⟨w.heap.size + 1, 7, none⟩ = some (.int .u32 (turnK 7 4)) := hB1.cell 7 rfl
      have k8 : wr.cell? ⟨w.heap.size + 1, 8, none⟩ = some (.int .u32 (turnK 8 4)) := hB1.cell 8 rfl
      have k9 : wr.cell? ⟨w.heap.size + 1, 9, none⟩ = some (.int .u32 (turnK 9 4)) := hB1.cell 9 rfl
      have k10 : wr.cell? ⟨w.heap.size + 1, 10, none⟩ = some (.int .u32 (turnK 10 4)) := hB1.cell 10 rfl
      have k11 : wr.cell? ⟨w.heap.size + 1, 11, none⟩ = some (.int .u32 (turnK 11 4)) := hB1.cell 11 rfl
      have k12 : wr.cell? ⟨w.heap.size + 1, 12, none⟩ = some (.int .u32 (turnK 12 4)) := hB1.cell 12 rfl
      have k13 : wr.cell? ⟨w.heap.size + 1, 13, none⟩ = some (.int .u32 (turnK 13 4)) := hB1.cell 13 rfl
      have k14 : wr.cell? ⟨w.heap.size + 1, 14, none⟩ = some (.int .u32 (turnK 14 4)) := hB1.cell 14 rfl
      have k15 : wr.cell? ⟨w.heap.size + 1, 15, none⟩ = some (.int .u32 (turnK 15 4)) := hB1.cell 15 rfl
      have f0 := hB0.froz
      have z0 : wr.cell? ⟨w.heap.size, 0, none⟩ = some (.int .u32 0) := hB0.cell 0 rfl
      have z1 : wr.cell? ⟨w.heap.size, 1, none⟩ = some (.int .u32 0) := hB0.cell 1 rfl
      have z2 : wr.cell? ⟨w.heap.size, 2, none⟩ = some (.int .u32 0) := hB0.cell 2 rfl
      have z3 : wr.cell? ⟨w.heap.size, 3, none⟩ = some (.int .u32 0) := hB0.cell 3 rfl
      have z4 : wr.cell? ⟨w.heap.size, 4, none⟩ = some (.int .u32 0) := hB0.cell 4 rfl
      have z5 : wr.cell? ⟨w.heap.size, 5, none⟩ = some (.int .u32 0) := hB0.cell 5 rfl
      have z6 : wr.cell? ⟨w.heap.size, 6, none⟩ = some (.int .u32 0) := hB0.cell 6 rfl
      have z7 : wr.cell? ⟨w.heap.size, 7, none⟩ = some (.int .u32 0) := hB0.cell 7 rfl
      have z8 : wr.cell? ⟨w.heap.size, 8, none⟩ = some (.int .u32 0) := hB0.cell 8 rfl
      have z9 : wr.cell? ⟨w.heap.size, 9, none⟩ = some (.int .u32 0) := hB0.cell 9 rfl
      have z10 : wr.cell? ⟨w.heap.size, 10, none⟩ = some (.int .u32 0) := hB0.cell 10 rfl
      have z11 : wr.cell? ⟨w.heap.size, 11, none⟩ = some (.int .u32 0) := hB0.cell 11 rfl
      have z12 : wr.cell? ⟨w.heap.size, 12, none⟩ = some (.int .u32 0) := hB0.cell 12 rfl
      have z13 : wr.cell? ⟨w.heap.size, 13, none⟩ = some (.int .u32 0) := hB0.cell 13 rfl
      have z14 : wr.cell? ⟨w.heap.size, 14, none⟩ = some (.int .u32 0) := hB0.cell 14 rfl
      have z15 : wr.cell? ⟨w.heap.size, 15, none⟩ = some (.int .u32 0) := hB0.cell 15 rfl
      have HB0 := Lib.hid hB0
      clear hB1 hB0
      go_wp2
      have S := ((((((((((((((((HB0.out.set 0 (.int .u32 (turnK 0 4))).set 1 (.int .u32 (turnK 1 4))).set 2 (.int .u32 (turnK 2 4))).set 3 (.int .u32 (turnK 3 4))).set 4 (.int .u32 (turnK 4 4))).set 5 (.int .u32 (turnK 5 4))).set 6 (.int .u32 (turnK 6 4))).set 7 (.int .u32 (turnK 7 4))).set 8 (.int .u32 (turnK 8 4))).set 9 (.int .u32 (turnK 9 4))).set 10 (.int .u32 (turnK 10 4))).set 11 (.int .u32 (turnK 11 4))).set 12 (.int .u32 (turnK 12 4))).set 13 (.int .u32 (turnK 13 4))).set 14 (.int .u32 (turnK 14 4))).set 15 (.int .u32 (turnK 15 4)))
      have hbS := ((((((((((((((((hbel.setCell (p := ⟨w.heap.size, 0, none⟩) (Nat.le_refl _) (.int .u32 (turnK 0 4))).setCell (p := ⟨w.heap.size, 1, none⟩) (Nat.le_refl _) (.int .u32 (turnK 1 4))).setCell (p := ⟨w.heap.size, 2, none⟩) (Nat.le_refl _) (.int .u32 (turnK 2 4))).setCell (p := ⟨w.heap.size, 3, none⟩) (Nat.le_refl _) (.int .u32 (turnK 3 4))).setCell (p := ⟨w.heap.size, 4, none⟩) (Nat.le_refl _) (.int .u32 (turnK 4 4))).setCell (p := ⟨w.heap.size, 5, none⟩) (Nat.le_refl _) (.int .u32 (turnK 5 4))).setCell (p := ⟨w.heap.size, 6, none⟩) (Nat.le_refl _) (.int .u32 (turnK 6 4))).setCell (p := ⟨w.heap.size, 7, none⟩) (Nat.le_refl _) (.int .u32 (turnK 7 4))).setCell (p := ⟨w.heap.size, 8, none⟩) (Nat.le_refl _) (.int .u32 (turnK 8 4))).setCell (p := ⟨w.heap.size, 9, none⟩) (Nat.le_refl _) (.int .u32 (turnK 9 4))).setCell (p := ⟨w.heap.size, 10, none⟩) (Nat.le_refl _) (.int .u32 (turnK 10 4))).setCell (p := ⟨w.heap.size, 11, none⟩) (Nat.le_refl _) (.int .u32 (turnK 11 4))).setCell (p := ⟨w.heap.size, 12, none⟩) (Nat.le_refl _) (.int .u32 (turnK 12 4))).setCell (p := ⟨w.heap.size, 13, none⟩) (Nat.le_refl _) (.int .u32 (turnK 13 4))).setCell (p := ⟨w.heap.size, 14, none⟩) (Nat.le_refl _) (.int .u32 (turnK 14 4))).setCell (p := ⟨w.heap.size, 15, none⟩) (Nat.le_refl _) (.int .u32 (turnK 15 4)))
      have r0 := S.cell 0 (u := .int .u32 (turnK 0 4)) rfl
      have r1 := S.cell 1 (u := .int .u32 (turnK 1 4)) rfl
      have r2 := S.cell 2 (u := .int .u32 (turnK 2 4)) rfl
      have r3 := S.cell 3 (u := .int .u32 (turnK 3 4)) rfl
      have r4 := S.cell 4 (u := .int .u32 (turnK 4 4)) rfl
      have r5 := S.cell 5 (u := .int .u32 (turnK 5 4)) rfl
      have r6 := S.cell 6 (u := .int .u32 (turnK 6 4)) rfl
      have r7 := S.cell 7 (u := .int .u32 (turnK 7 4)) rfl
      have r8 := S.cell 8 (u := .int .u32 (turnK 8 4)) rfl
      have r9 := S.cell 9 (u := .int .u32 (turnK 9 4)) rfl
      have r10 := S.cell 10 (u := .int .u32 (turnK 10 4)) rfl
      have r11 := S.cell 11 (u := .int .u32 (turnK 11 4)) rfl
      have r12 := S.cell 12 (u := .int .u32 (turnK 12 4)) rfl
      have r13 := S.cell 13 (u := .int .u32 (turnK 13 4)) rfl
      have r14 := S.cell 14 (u := .int .u32 (turnK 14 4)) rfl
      have r15 := S.cell 15 (u := .int .u32 (turnK 15 4)) rfl
      exact bodyPost_ret (v := .agg #[Value.int .u32 (turnK 0 4), Value.int .u32 (turnK 1 4), Value.int .u32 (turnK 2 4), Value.int .u32 (turnK 3 4), Value.int .u32 (turnK 4 4), Value.int .u32 (turnK 5 4), Value.int .u32 (turnK 6 4), Value.int .u32 (turnK 7 4), Value.int .u32 (turnK 8 4), Value.int .u32 (turnK 9 4), Value.int .u32 (turnK 10 4), Value.int .u32 (turnK 11 4), Value.int .u32 (turnK 12 4), Value.int .u32 (turnK 13 4), Value.int .u32 (turnK 14 4), Value.int .u32 (turnK 15 4)]) (by simp [results, Tryz.results161, go_sem, r0, r1, r2, r3, r4, r5, r6, r7, r8, r9, r10, r11, r12, r13, r14, r15]) rfl ⟨rfl, hbS⟩
end Go.Proofs.YtpcipfnahknngaaGreatDoor

/- Contracts of check.On, Of, Masked. No statement of the seat. -/
namespace Go.Proofs.YtpcipfnahknngaaGreatDoor
open Go.RowKit

def tabT (j : Nat) : Nat := turnK j 4
theorem tabT_lt (j : Nat) (h : j < 4294967296) : tabT j < 4294967296 := turnK_lt j h 4
def half (c : Nat) : Nat := tabT (c % 16) ^^^ (c / 16)
def stepC (c : Nat) (x : UInt8) : Nat := half (half (c ^^^ x.toNat))
theorem half_lt (c : Nat) (h : c < 4294967296) : half c < 4294967296 := Nat.xor_lt_two_pow (n := 32) (tabT_lt _ (by omega)) (by omega)
theorem xb_lt (c : Nat) (h : c < 4294967296) (x : UInt8) : c ^^^ x.toNat < 4294967296 := Nat.xor_lt_two_pow (n := 32) h (by have := x.toNat_lt; omega)
theorem stepC_lt (c : Nat) (h : c < 4294967296) (x : UInt8) : stepC c x < 4294967296 := half_lt _ (half_lt _ (xb_lt c h x))
def crcK (c : Nat) (l : List UInt8) : Nat := l.foldl stepC c
theorem crcK_lt (c : Nat) (h : c < 4294967296) (l : List UInt8) : crcK c l < 4294967296 := by
  induction l generalizing c with
  | nil => exact h
  | cons x l ih => exact ih _ (stepC_lt c h x)
theorem crcK_succ (c : Nat) (l : List UInt8) (k : Nat) (h : k < l.length) : crcK c (l.take (k + 1)) = stepC (crcK c (l.take k)) l[k] := by
  unfold crcK
  rw [List.take_succ_eq_append_getElem h, List.foldl_append]
  rfl
/-- the check -/
def crcN (l : List UInt8) : Nat := 4294967295 ^^^ crcK 4294967295 l
theorem crcN_lt (l : List UInt8) : crcN l < 4294967296 := Nat.xor_lt_two_pow (n := 32) (by decide) (crcK_lt _ (by decide) _)
theorem bits_step (c : Nat) (h : c < 4294967296) : bits .xor .u32 (tabT (c % 16) : Int) ((c : Int) / 16) = (half c : Int) := by
  have e : ((c : Int) / 16) = ((c / 16 : Nat) : Int) := by omega
  rw [e, xor_u32 _ _ (tabT_lt _ (by omega)) (by omega)]
  rfl
theorem tab_at (j : Nat) (h : j < 16) : tabV[j]? = some (.int .u32 (tabT j)) := by
  simp [tabV, remL, h, tabT]

set_option maxRecDepth 100000 in
set_option maxHeartbeats 1600000 in
theorem on150 (v : Value) (l : List UInt8) (w : World) (hv : Bt w v l) (hl : l.length ≤ 140737488351232) :
    Calls Tryz.prog 150 #[.int .u32 0, v] w fun e w' => e = .returned (.int .u32 (crcN l)) ∧ Below w.heap.size w w' := by
  obtain ⟨y1, y2, ao, cap, rfl, y3, y4, y7, y5⟩ := hv
  clear y1 y2 y3 y4 y7
  have Y5 := Lib.hid y5
  clear y5
  go_enter Tryz.func150, Tryz.ntmps150
  go_wp2_with (go_at_call 161; refine (rem161 _).mono ?_; rintro e w1 ⟨rfl, hb1⟩; unfold tabV remL)
  have hbW := hb1.alloc hb1.size (Obj.cells tabV 217)
  have bT : Box (w1.alloc (Obj.cells tabV 217)) w1.heap.size 217 tabV := Box.new w1 _ _ _ rfl
  have HT : Hid (∀ j, j < 16 → (w1.alloc (Obj.cells tabV 217)).cell? ⟨w1.heap.size, j, none⟩ = some (.int .u32 (tabT j))) := Lib.hid (fun j hj => bT.cell j (tab_at j hj))
  obtain ⟨W, hW⟩ : ∃ W, W = w1.alloc (Obj.cells tabV 217) := ⟨_, rfl⟩
  have hWe := hW
  unfold tabV remL at hWe
  change W = w1.alloc (Obj.cells #[.int .u32 (turnK 0 4), .int .u32 (turnK 1 4), .int .u32 (turnK 2 4), .int .u32 (turnK 3 4), .int .u32 (turnK 4 4), .int .u32 (turnK 5 4), .int .u32 (turnK 6 4), .int .u32 (turnK 7 4), .int .u32 (turnK 8 4), .int .u32 (turnK 9 4), .int .u32 (turnK 10 4), .int .u32 (turnK 11 4), .int .u32 (turnK 12 4), .int .u32 (turnK 13 4), .int .u32 (turnK 14 4), .int .u32 (turnK 15 4)] 217) at hWe
  rw [← hWe]
  rw [← hW] at hbW HT
  clear hWe hW bT
  go_loop [0, 13] (fun c i => ∃ k : Nat, k ≤ l.length ∧ i = .int .i64 k ∧ c = .int .u32 (crcK 4294967295 (l.take k))) (fun _ i => l.length - (intOf i).toNat)
  case atStart => exact ⟨0, Nat.zero_le _, rfl, by rw [show bits BinOp.xor IntKind.u32 IntKind.u32.max 0 = 4294967295 from by decide]; rfl⟩
  case round =>
    obtain ⟨k, hk, rfl, rfl⟩ := hrel
    obtain ⟨c, hc⟩ : ∃ c, c = crcK 4294967295 (l.take k) := ⟨_, rfl⟩
    have hclt : c < 4294967296 := by rw [hc]; exact crcK_lt _ (by decide) _
    rw [← hc]
    by_cases hlt : k < l.length
    · obtain ⟨g, off, rfl, hcc⟩ := Y5.out.resolve_left (by omega)
      have hs := crcK_succ 4294967295 l k hlt
      rw [← hc] at hs
      obtain ⟨x, hx⟩ : ∃ x, x = l[k] := ⟨_, rfl⟩
      rw [← hx] at hs
      have d1 := hcc k _ (bv_get l k hlt)
      rw [← hbW.cell (p := ⟨g, off + k, none⟩) (World.block_lt_of_cell? w _ d1), ← hx] at d1
      have hxl : x.toNat < 256 := x.toNat_lt
      obtain ⟨c1, hc1⟩ : ∃ c1, c1 = c ^^^ x.toNat := ⟨_, rfl⟩
      have hc1l : c1 < 4294967296 := by rw [hc1]; exact xb_lt c hclt x
      have e1 := xor_u32 c x.toNat hclt (by omega)
      rw [← hc1] at e1
      have e2 := and_15 c1 hc1l
      have e3 := bits_step c1 hc1l
      have t1 := HT.out (c1 % 16) (by omega)
      obtain ⟨c2, hc2⟩ : ∃ c2, c2 = half c1 := ⟨_, rfl⟩
      have hc2l : c2 < 4294967296 := by rw [hc2]; exact half_lt c1 hc1l
      rw [← hc2] at e3
      have e4 := and_15 c2 hc2l
      have e5 := bits_step c2 hc2l
      have t2 := HT.out (c2 % 16) (by omega)
      have hend : crcK 4294967295 (l.take (k + 1)) = half c2 := by rw [hs, hc2, hc1]; rfl
      have HE := Lib.hid hend
      have hwx : IntKind.u32.wrap (x.toNat : Int) = (x.toNat : Int) := by rw [wrap_u32n]; omega
      have b1 : c1 % 16 < 16 := by omega
      have b2 : c2 % 16 < 16 := by omega
      obtain ⟨i1, hi1⟩ : ∃ i1, i1 = c1 % 16 := ⟨_, rfl⟩
      obtain ⟨i2, hi2⟩ : ∃ i2, i2 = c2 % 16 := ⟨_, rfl⟩
      rw [← hi1] at e2 e3 t1 b1
      rw [← hi2] at e4 e5 t2 b2
      clear hend hs hc hx hc1 hc2 hi1 hi2 hcc
      go_wp2
      go_round
      case rel => exact ⟨k + 1, by omega, by go_num, by rw [HE.out]⟩
      case measure => simp [intOf]; omega
    · have hkl : k = l.length := by omega
      subst hkl
      have hz := xor_u32 4294967295 (crcK 4294967295 l) (by decide) (crcK_lt _ (by decide) l)
      rw [hc, List.take_length]
      have HZ := Lib.hid hz
      clear hz
      go_wp2
      go_ret
      refine ⟨?_, hbW⟩
      show Ending.returned (Value.int .u32 (bits .xor .u32 IntKind.u32.max (crcK 4294967295 l : Nat))) = _
      rw [show IntKind.u32.max = ((4294967295 : Nat) : Int) from rfl, HZ.out]
      rfl
set_option maxRecDepth 100000 in
theorem of132 (v : Value) (l : List UInt8) (w : World) (hv : Bt w v l) (hl : l.length ≤ 140737488351232) :
    Calls Tryz.prog 132 #[v] w fun e w' => e = .returned (.int .u32 (crcN l)) ∧ Below w.heap.size w w' := by
  have h := on150 v l w hv hl
  obtain ⟨y1, y2, ao, cap, rfl, y3, y4, y7, y5⟩ := hv
  clear y1 y2 y3 y4 y7 y5
  go_enter Tryz.func132, Tryz.ntmps132
  go_wp2_with (go_at_call 150; refine h.mono ?_; rintro e w1 ⟨rfl, hb⟩)
  go_ret
  exact ⟨rfl, hb⟩
def rotN (x : Nat) : Nat := (x * 131072 % 4294967296) ||| (x / 32768)
theorem rotN_lt (x : Nat) (h : x < 4294967296) : rotN x < 4294967296 := Nat.or_lt_two_pow (n := 32) (by omega) (by omega)
set_option maxRecDepth 100000 in
set_option maxHeartbeats 800000 in
theorem rot131 (x : Nat) (w : World) (hx : x < 4294967296) : Calls Tryz.prog 131 #[.int .u32 x, .int .i64 (-15)] w fun e w' => e = .returned (.int .u32 (rotN x)) ∧ w' = w := by
  have h1 : bits .and .u64 (IntKind.u64.wrap (-15)) 31 = 17 := by decide
  have h2 : bits .or .u32 ((x * 131072 % 4294967296 : Nat) : Int) ((x / 32768 : Nat) : Int) = (rotN x : Int) := or_u32 _ _ (by omega) (by omega)
  go_enter Tryz.func131, Tryz.ntmps131
  go_wp2
  go_ret
  refine ⟨?_, rfl⟩
  have e1 : ((x : Int) * 131072 % 4294967296) = ((x * 131072 % 4294967296 : Nat) : Int) := by omega
  have e2 : ((x : Int) / 32768) = ((x / 32768 : Nat) : Int) := by omega
  show Ending.returned (Value.int .u32 (bits .or .u32 ((x : Int) * 131072 % 4294967296) ((x : Int) / 32768))) = _
  rw [e1, e2, h2]
/-- the check, masked -/
def maskN (l : List UInt8) : Nat := (rotN (crcN l) + 2726488792) % 4294967296
theorem maskN_lt (l : List UInt8) : maskN l < 4294967296 := by unfold maskN; omega
set_option maxRecDepth 100000 in
set_option maxHeartbeats 800000 in
theorem masked123 (v : Value) (l : List UInt8) (w : World) (hv : Bt w v l) (hl : l.length ≤ 140737488351232) :
    Calls Tryz.prog 123 #[v] w fun e w' => e = .returned (.int .u32 (maskN l)) ∧ Below w.heap.size w w' := by
  have h := of132 v l w hv hl
  obtain ⟨y1, y2, ao, cap, rfl, y3, y4, y7, y5⟩ := hv
  clear y1 y2 y3 y4 y7 y5
  have hlt := crcN_lt l
  have HL := Lib.hid hlt
  clear hlt
  have hw : IntKind.u32.wrap ((rotN (crcN l) : Int) + 2726488792) = (maskN l : Int) := by rw [wrap_u32n]; unfold maskN; omega
  go_enter Tryz.func123, Tryz.ntmps123
  go_wp2_with (first
    | (go_at_call 132; refine h.mono ?_; rintro e w1 ⟨rfl, hb⟩)
    | (go_at_call 131; refine (rot131 (crcN l) _ HL.out).mono ?_; rintro e w2 ⟨rfl, rfl⟩))
  go_ret
  refine ⟨?_, by assumption⟩
  first
    | rfl
    | (show Ending.returned (Value.int .u32 _) = _; congr 2; unfold maskN; omega)
/-- its four bytes -/
def fourN (l : List UInt8) : List UInt8 := [UInt8.ofNat (maskN l), UInt8.ofNat (maskN l / 256), UInt8.ofNat (maskN l / 65536), UInt8.ofNat (maskN l / 16777216)]
end Go.Proofs.YtpcipfnahknngaaGreatDoor

/- Contracts of frame.four, Put. No statement of the seat. -/
namespace Go.Proofs.YtpcipfnahknngaaGreatDoor
open Go.RowKit

theorem wrap_u8n (n : Int) : IntKind.u8.wrap n = n % 256 := by simp [IntKind.wrap, IntKind.bits, IntKind.signed]

theorem fourN_len (l : List UInt8) : (fourN l).length = 4 := by simp [fourN]
set_option maxRecDepth 100000 in
set_option maxHeartbeats 1600000 in
theorem four111 (v : Value) (l : List UInt8) (w : World) (hv : Bt w v l) (hl : l.length ≤ 140737488351232) :
    Calls Tryz.prog 111 #[v] w fun e w' => ∃ g, e = .returned (.slice (some ⟨g, 0, none⟩) 4 4) ∧ Bt w' (.slice (some ⟨g, 0, none⟩) 4 4) (fourN l) ∧ Below w.heap.size w w' := by
  have h := masked123 v l w hv hl
  obtain ⟨y1, y2, ao, cap, rfl, y3, y4, y7, y5⟩ := hv
  clear y1 y2 y3 y4 y7 y5
  have hlt := maskN_lt l
  go_enter Tryz.func111, Tryz.ntmps111
  go_wp2_with (first
    | (go_at_call 123; refine h.mono ?_; rintro e w1 ⟨rfl, hb⟩))
  go_ret
  refine ⟨w1.heap.size, ?_, ?_, ?_⟩
  rotate_left
  rotate_left
  · exact hb.alloc hb.size _
  · rfl
  unfold Bt
  rw [fourN_len]
  refine ⟨by rw [bv_length, fourN_len], bv_one _, some ⟨w1.heap.size, 0, none⟩, 4, rfl, Nat.le_refl _, by decide, (fun h => by cases h), Or.inr ⟨w1.heap.size, 0, rfl, fun j u hj => ?_⟩⟩
  rw [World.cell?_alloc_at _ _ _ _ rfl, Nat.zero_add, ← hj]
  unfold bv fourN
  simp only [List.map_cons, List.map_nil, UInt8.toNat_ofNat']
  clear hj h hb
  generalize maskN l = m at hlt ⊢
  have q0 : ((m : Int) % 256) = ((m % 2 ^ 8 : Nat) : Int) := by omega
  have q1 : ((m : Int) / 256 % 256) = ((m / 256 % 2 ^ 8 : Nat) : Int) := by omega
  have q2 : ((m : Int) / 65536 % 256) = ((m / 65536 % 2 ^ 8 : Nat) : Int) := by omega
  have q3 : ((m : Int) / 16777216) = ((m / 16777216 % 2 ^ 8 : Nat) : Int) := by omega
  rw [q0, q1, q2, q3]
  exact List.getElem?_toArray
/-- a record's frame -/
def frameL (b : List UInt8) : List UInt8 := [90] ++ (putText b ++ fourN (putText b))
set_option maxRecDepth 100000 in
set_option maxHeartbeats 1600000 in
theorem fput91 (v : Value) (b : List UInt8) (w : World) (hv : Bt w v b) (hl : b.length ≤ 4096) :
    Calls Tryz.prog 91 #[v] w fun e w' => ∃ v', e = .returned (.tuple #[v', .int .i64 0]) ∧ w'.ownsRow w.heap.size 5 1 v' (frameL b).length (bv (frameL b)) ∧ Below w.heap.size w w' := by
  have hcs := conv_str w v b hv
  obtain ⟨y1, y2, ao, cap, rfl, y3, y4, y7, y5⟩ := hv
  clear y1 y2 y3 y4 y7 y5
  have hlen := putL_len b.length (by omega)
  have HLN : Hid ((putText b).length ≤ 4106) := Lib.hid (by simp [putText]; omega)
  clear hlen
  go_enter Tryz.func91, Tryz.ntmps91
  go_wp2_with (first
    | (go_at_call 34; refine (puttext34 b _ hl).mono ?_; rintro e w1 ⟨v1, rfl, hown1, hb1⟩; obtain ⟨ao1, cap1, rfl⟩ := own_shape hown1)
    | (go_at_call 111; refine (four111 _ (putText b) _ ((Bt.of_own hown1).below ((Below.refl _ _).alloc (Nat.le_refl _) _) (Nat.le_refl _)) (by have := HLN.out; omega)).mono ?_; rintro e w2 ⟨g, rfl, hB2, hb2⟩))
  have hb12 : Below w1.heap.size w1 w2 := ((Below.refl _ _).alloc (Nat.le_refl _) _).trans (hb2.mono (by simp))
  have h90 : Bt w2 (.slice (some ⟨w1.heap.size, 0, none⟩) 1 1) [90] := (Bt.one w1 90 (by decide) (by decide)).below hb2 (Nat.le_refl _)
  refine (join35 _ [[90], putText b, fourN (putText b)] _ (Bts.three w2 _ _ _ _ _ _ h90 ((Bt.of_own hown1).below hb12 (Nat.le_refl _)) hB2) (by have := HLN.out; simp [fourN_len]; omega)).mono ?_
  rintro e w3 ⟨v3, rfl, hown3, hb3⟩
  obtain ⟨ao3, cap3, rfl⟩ := own_shape hown3
  have hfl : [[90], putText b, fourN (putText b)].flatten = frameL b := by simp [frameL]
  rw [hfl] at hown3
  go_wp2
  go_ret2
  have hb02 := below_tr hb1 hb12
  exact ⟨_, rfl, hown3.base (by have := hb02.size; simp; omega), (hb02.alloc hb02.size _).trans (hb3.mono (by have := hb02.size; simp; omega))⟩
end Go.Proofs.YtpcipfnahknngaaGreatDoor

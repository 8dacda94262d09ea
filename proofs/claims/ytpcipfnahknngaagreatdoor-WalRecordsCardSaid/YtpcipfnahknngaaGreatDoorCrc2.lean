/- Contracts of check.On, Of, Masked. No statement of the seat. -/
import Derived.Test.YtpcipfnahknngaaGreatDoorCrc
namespace Go.Proofs.YtpcipfnahknngaaGreatDoor
open Go.RowKit

def tabT (j : Nat) : Nat := turnK j 4
theorem tabT_lt (j : Nat) (h : j < 4294967296) : tabT j < 4294967296 := turnK_lt j h 4
def half (c : Nat) : Nat := tabT (c % 16) ^^^ (c / 16)
def stepC (c : Nat) (x : UInt8) : Nat := half (half (c ^^^ x.toNat))
theorem half_lt (c : Nat) (h : c < 4294967296) : half c < 4294967296 := Nat.xor_lt_two_pow (n := 32) (tabT_lt _ (by omega)) (by omega)
theorem xb_lt (c : Nat) (h : c < 4294967296) (x : UInt8) : c ^^^ x.toNat < 4294967296 := Nat.xor_lt_two_pow (n := 32) h (by have := x.toNat_lt; omega)
theorem stepC_lt (c : Nat) (h : c < 4294967296) (x : UInt8) : stepC c x < 4294967296 := half_lt _ (half_lt _ (xb_lt c h x))
def crcK (c : Nat) (l : List UInt8) : Nat := l.foldl stepC c
theorem crcK_lt (c : Nat) (h : c < 4294967296) (l : List UInt8) : crcK c l < 4294967296 := by
  induction l generalizing c with
  | nil => exact h
  | cons x l ih => exact ih _ (stepC_lt c h x)
theorem crcK_succ (c : Nat) (l : List UInt8) (k : Nat) (h : k < l.length) : crcK c (l.take (k + 1)) = stepC (crcK c (l.take k)) l[k] := by
  unfold crcK
  rw [List.take_succ_eq_append_getElem h, List.foldl_append]
  rfl
/-- the check -/
def crcN (l : List UInt8) : Nat := 4294967295 ^^^ crcK 4294967295 l
theorem crcN_lt (l : List UInt8) : crcN l < 4294967296 := Nat.xor_lt_two_pow (n := 32) (by decide) (crcK_lt _ (by decide) _)
theorem bits_step (c : Nat) (h : c < 4294967296) : bits .xor .u32 (tabT (c % 16) : Int) ((c : Int) / 16) = (half c : Int) := by
  have e : ((c : Int) / 16) = ((c / 16 : Nat) : Int) := by omega
  rw [e, xor_u32 _ _ (tabT_lt _ (by omega)) (by omega)]
  rfl
theorem tab_at (j : Nat) (h : j < 16) : tabV[j]? = some (.int .u32 (tabT j)) := by
  simp [tabV, remL, h, tabT]

set_option maxRecDepth 100000 in
set_option maxHeartbeats 1600000 in
theorem on150 (v : Value) (l : List UInt8) (w : World) (hv : Bt w v l) (hl : l.length ≤ 140737488351232) :
    Calls Tryz.prog 150 #[.int .u32 0, v] w fun e w' => e = .returned (.int .u32 (crcN l)) ∧ Below w.heap.size w w' := by
  obtain ⟨y1, y2, ao, cap, rfl, y3, y4, y7, y5⟩ := hv
  clear y1 y2 y3 y4 y7
  have Y5 := Lib.hid y5
  clear y5
  go_enter Tryz.func150, Tryz.ntmps150
  go_wp2_with (go_at_call 161; refine (rem161 _).mono ?_; rintro e w1 ⟨rfl, hb1⟩; unfold tabV remL)
  have hbW := hb1.alloc hb1.size (Obj.cells tabV 217)
  have bT : Box (w1.alloc (Obj.cells tabV 217)) w1.heap.size 217 tabV := Box.new w1 _ _ _ rfl
  have HT : Hid (∀ j, j < 16 → (w1.alloc (Obj.cells tabV 217)).cell? ⟨w1.heap.size, j, none⟩ = some (.int .u32 (tabT j))) := Lib.hid (fun j hj => bT.cell j (tab_at j hj))
  obtain ⟨W, hW⟩ : ∃ W, W = w1.alloc (Obj.cells tabV 217) := ⟨_, rfl⟩
  have hWe := hW
  unfold tabV remL at hWe
  change W = w1.alloc (Obj.cells #[.int .u32 (turnK 0 4), .int .u32 (turnK 1 4), .int .u32 (turnK 2 4), .int .u32 (turnK 3 4), .int .u32 (turnK 4 4), .int .u32 (turnK 5 4), .int .u32 (turnK 6 4), .int .u32 (turnK 7 4), .int .u32 (turnK 8 4), .int .u32 (turnK 9 4), .int .u32 (turnK 10 4), .int .u32 (turnK 11 4), .int .u32 (turnK 12 4), .int .u32 (turnK 13 4), .int .u32 (turnK 14 4), .int .u32 (turnK 15 4)] 217) at hWe
  rw [← hWe]
  rw [← hW] at hbW HT
  clear hWe hW bT
  go_loop [0, 13] (fun c i => ∃ k : Nat, k ≤ l.length ∧ i = .int .i64 k ∧ c = .int .u32 (crcK 4294967295 (l.take k))) (fun _ i => l.length - (intOf i).toNat)
  case atStart => exact ⟨0, Nat.zero_le _, rfl, by rw [show bits BinOp.xor IntKind.u32 IntKind.u32.max 0 = 4294967295 from by decide]; rfl⟩
  case round =>
    obtain ⟨k, hk, rfl, rfl⟩ := hrel
    obtain ⟨c, hc⟩ : ∃ c, c = crcK 4294967295 (l.take k) := ⟨_, rfl⟩
    have hclt : c < 4294967296 := by rw [hc]; exact crcK_lt _ (by decide) _
    rw [← hc]
    by_cases hlt : k < l.length
    · obtain ⟨g, off, rfl, hcc⟩ := Y5.out.resolve_left (by omega)
      have hs := crcK_succ 4294967295 l k hlt
      rw [← hc] at hs
      obtain ⟨x, hx⟩ : ∃ x, x = l[k] := ⟨_, rfl⟩
      rw [← hx] at hs
      have d1 := hcc k _ (bv_get l k hlt)
      rw [← hbW.cell (p := ⟨g, off + k, none⟩) (World.block_lt_of_cell? w _ d1), ← hx] at d1
      have hxl : x.toNat < 256 := x.toNat_lt
      obtain ⟨c1, hc1⟩ : ∃ c1, c1 = c ^^^ x.toNat := ⟨_, rfl⟩
      have hc1l : c1 < 4294967296 := by rw [hc1]; exact xb_lt c hclt x
      have e1 := xor_u32 c x.toNat hclt (by omega)
      rw [← hc1] at e1
      have e2 := and_15 c1 hc1l
      have e3 := bits_step c1 hc1l
      have t1 := HT.out (c1 % 16) (by omega)
      obtain ⟨c2, hc2⟩ : ∃ c2, c2 = half c1 := ⟨_, rfl⟩
      have hc2l : c2 < 4294967296 := by rw [hc2]; exact half_lt c1 hc1l
      rw [← hc2] at e3
      have e4 := and_15 c2 hc2l
      have e5 := bits_step c2 hc2l
      have t2 := HT.out (c2 % 16) (by omega)
      have hend : crcK 4294967295 (l.take (k + 1)) = half c2 := by rw [hs, hc2, hc1]; rfl
      have HE := Lib.hid hend
      have hwx : IntKind.u32.wrap (x.toNat : Int) = (x.toNat : Int) := by rw [wrap_u32n]; omega
      have b1 : c1 % 16 < 16 := by omega
      have b2 : c2 % 16 < 16 := by omega
      obtain ⟨i1, hi1⟩ : ∃ i1, i1 = c1 % 16 := ⟨_, rfl⟩
      obtain ⟨i2, hi2⟩ : ∃ i2, i2 = c2 % 16 := ⟨_, rfl⟩
      rw [← hi1] at e2 e3 t1 b1
      rw [← hi2] at e4 e5 t2 b2
      clear hend hs hc hx hc1 hc2 hi1 hi2 hcc
      go_wp2
      go_round
      case rel => exact ⟨k + 1, by omega, by go_num, by rw [HE.out]⟩
      case measure => simp [intOf]; omega
    · have hkl : k = l.length := by omega
      subst hkl
      have hz := xor_u32 4294967295 (crcK 4294967295 l) (by decide) (crcK_lt _ (by decide) l)
      rw [hc, List.take_length]
      have HZ := Lib.hid hz
      clear hz
      go_wp2
      go_ret
      refine ⟨?_, hbW⟩
      show Ending.returned (Value.int .u32 (bits .xor .u32 IntKind.u32.max (crcK 4294967295 l : Nat))) = _
      rw [show IntKind.u32.max = ((4294967295 : Nat) : Int) from rfl, HZ.out]
      rfl
set_option maxRecDepth 100000 in
theorem of132 (v : Value) (l : List UInt8) (w : World) (hv : Bt w v l) (hl : l.length ≤ 140737488351232) :
    Calls Tryz.prog 132 #[v] w fun e w' => e = .returned (.int .u32 (crcN l)) ∧ Below w.heap.size w w' := by
  have h := on150 v l w hv hl
  obtain ⟨y1, y2, ao, cap, rfl, y3, y4, y7, y5⟩ := hv
  clear y1 y2 y3 y4 y7 y5
  go_enter Tryz.func132, Tryz.ntmps132
  go_wp2_with (go_at_call 150; refine h.mono ?_; rintro e w1 ⟨rfl, hb⟩)
  go_ret
  exact ⟨rfl, hb⟩
def rotN (x : Nat) : Nat := (x * 131072 % 4294967296) ||| (x / 32768)
theorem rotN_lt (x : Nat) (h : x < 4294967296) : rotN x < 4294967296 := Nat.or_lt_two_pow (n := 32) (by omega) (by omega)
set_option maxRecDepth 100000 in
set_option maxHeartbeats 800000 in
theorem rot131 (x : Nat) (w : World) (hx : x < 4294967296) : Calls Tryz.prog 131 #[.int .u32 x, .int .i64 (-15)] w fun e w' => e = .returned (.int .u32 (rotN x)) ∧ w' = w := by
  have h1 : bits .and .u64 (IntKind.u64.wrap (-15)) 31 = 17 := by decide
  have h2 : bits .or .u32 ((x * 131072 % 4294967296 : Nat) : Int) ((x / 32768 : Nat) : Int) = (rotN x : Int) := or_u32 _ _ (by omega) (by omega)
  go_enter Tryz.func131, Tryz.ntmps131
  go_wp2
  go_ret
  refine ⟨?_, rfl⟩
  have e1 : ((x : Int) * 131072 % 4294967296) = ((x * 131072 % 4294967296 : Nat) : Int) := by omega
  have e2 : ((x : Int) / 32768) = ((x / 32768 : Nat) : Int) := by omega
  show Ending.returned (Value.int .u32 (bits .or .u32 ((x : Int) * 131072 % 4294967296) ((x : Int) / 32768))) = _
  rw [e1, e2, h2]
/-- the check, masked -/
def maskN (l : List UInt8) : Nat := (rotN (crcN l) + 2726488792) % 4294967296
theorem maskN_lt (l : List UInt8) : maskN l < 4294967296 := by unfold maskN; omega
set_option maxRecDepth 100000 in
set_option maxHeartbeats 800000 in
theorem masked123 (v : Value) (l : List UInt8) (w : World) (hv : Bt w v l) (hl : l.length ≤ 140737488351232) :
    Calls Tryz.prog 123 #[v] w fun e w' => e = .returned (.int .u32 (maskN l)) ∧ Below w.heap.size w w' := by
  have h := of132 v l w hv hl
  obtain ⟨y1, y2, ao, cap, rfl, y3, y4, y7, y5⟩ := hv
  clear y1 y2 y3 y4 y7 y5
  have hlt := crcN_lt l
  have HL := Lib.hid hlt
  clear hlt
  have hw : IntKind.u32.wrap ((rotN (crcN l) : Int) + 2726488792) = (maskN l : Int) := by rw [wrap_u32n]; unfold maskN; omega
  go_enter Tryz.func123, Tryz.ntmps123
  go_wp2_with (first
    | (go_at_call 132; refine h.mono ?_; rintro e w1 ⟨rfl, hb⟩)
    | (go_at_call 131; refine (rot131 (crcN l) _ HL.out).mono ?_; rintro e w2 ⟨rfl, rfl⟩))
  go_ret
  refine ⟨?_, by assumption⟩
  first
    | rfl
    | (show Ending.returned (Value.int .u32 _) = _; congr 2; unfold maskN; omega)
/-- its four bytes -/
def fourN (l : List UInt8) : List UInt8 := [UInt8.ofNat (maskN l), UInt8.ofNat (maskN l / 256), UInt8.ofNat (maskN l / 65536), UInt8.ofNat (maskN l / 16777216)]
end Go.Proofs.YtpcipfnahknngaaGreatDoor

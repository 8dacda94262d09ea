/- Contracts of frame.four, Put. No statement of the seat. -/
import Derived.Test.YtpcipfnahknngaaGreatDoorCrc2
namespace Go.Proofs.YtpcipfnahknngaaGreatDoor
open Go.RowKit

theorem wrap_u8n (n : Int) : IntKind.u8.wrap n = n % 256 := by simp [IntKind.wrap, IntKind.bits, IntKind.signed]

theorem fourN_len (l : List UInt8) : (fourN l).length = 4 := by simp [fourN]
set_option maxRecDepth 100000 in
set_option maxHeartbeats 1600000 in
theorem four111 (v : Value) (l : List UInt8) (w : World) (hv : Bt w v l) (hl : l.length ≤ 140737488351232) :
    Calls Tryz.prog 111 #[v] w fun e w' => ∃ g, e = .returned (.slice (some ⟨g, 0, none⟩) 4 4) ∧ Bt w' (.slice (some ⟨g, 0, none⟩) 4 4) (fourN l) ∧ Below w.heap.size w w' := by
  have h := masked123 v l w hv hl
  obtain ⟨y1, y2, ao, cap, rfl, y3, y4, y7, y5⟩ := hv
  clear y1 y2 y3 y4 y7 y5
  have hlt := maskN_lt l
  go_enter Tryz.func111, Tryz.ntmps111
  go_wp2_with (first
    | (go_at_call 123; refine h.mono ?_; rintro e w1 ⟨rfl, hb⟩))
  go_ret
  refine ⟨w1.heap.size, ?_, ?_, ?_⟩
  rotate_left
  rotate_left
  · exact hb.alloc hb.size _
  · rfl
  unfold Bt
  rw [fourN_len]
  refine ⟨by rw [bv_length, fourN_len], bv_one _, some ⟨w1.heap.size, 0, none⟩, 4, rfl, Nat.le_refl _, by decide, (fun h => by cases h), Or.inr ⟨w1.heap.size, 0, rfl, fun j u hj => ?_⟩⟩
  rw [World.cell?_alloc_at _ _ _ _ rfl, Nat.zero_add, ← hj]
  unfold bv fourN
  simp only [List.map_cons, List.map_nil, UInt8.toNat_ofNat']
  clear hj h hb
  generalize maskN l = m at hlt ⊢
  have q0 : ((m : Int) % 256) = ((m % 2 ^ 8 : Nat) : Int) := by omega
  have q1 : ((m : Int) / 256 % 256) = ((m / 256 % 2 ^ 8 : Nat) : Int) := by omega
  have q2 : ((m : Int) / 65536 % 256) = ((m / 65536 % 2 ^ 8 : Nat) : Int) := by omega
  have q3 : ((m : Int) / 16777216) = ((m / 16777216 % 2 ^ 8 : Nat) : Int) := by omega
  rw [q0, q1, q2, q3]
  exact List.getElem?_toArray
/-- a record's frame -/
def frameL (b : List UInt8) : List UInt8 := [90] ++ (putText b ++ fourN (putText b))
set_option maxRecDepth 100000 in
set_option maxHeartbeats 1600000 in
theorem fput91 (v : Value) (b : List UInt8) (w : World) (hv : Bt w v b) (hl : b.length ≤ 4096) :
    Calls Tryz.prog 91 #[v] w fun e w' => ∃ v', e = .returned (.tuple #[v', .int .i64 0]) ∧ w'.ownsRow w.heap.size 5 1 v' (frameL b).length (bv (frameL b)) ∧ Below w.heap.size w w' := by
  have hcs := conv_str w v b hv
  obtain ⟨y1, y2, ao, cap, rfl, y3, y4, y7, y5⟩ := hv
  clear y1 y2 y3 y4 y7 y5
  have hlen := putL_len b.length (by omega)
  have HLN : Hid ((putText b).length ≤ 4106) := Lib.hid (by simp [putText]; omega)
  clear hlen
  go_enter Tryz.func91, Tryz.ntmps91
  go_wp2_with (first
    | (go_at_call 34; refine (puttext34 b _ hl).mono ?_; rintro e w1 ⟨v1, rfl, hown1, hb1⟩; obtain ⟨ao1, cap1, rfl⟩ := own_shape hown1)
    | (go_at_call 111; refine (four111 _ (putText b) _ ((Bt.of_own hown1).below ((Below.refl _ _).alloc (Nat.le_refl _) _) (Nat.le_refl _)) (by have := HLN.out; omega)).mono ?_; rintro e w2 ⟨g, rfl, hB2, hb2⟩))
  have hb12 : Below w1.heap.size w1 w2 := ((Below.refl _ _).alloc (Nat.le_refl _) _).trans (hb2.mono (by simp))
  have h90 : Bt w2 (.slice (some ⟨w1.heap.size, 0, none⟩) 1 1) [90] := (Bt.one w1 90 (by decide) (by decide)).below hb2 (Nat.le_refl _)
  refine (join35 _ [[90], putText b, fourN (putText b)] _ (Bts.three w2 _ _ _ _ _ _ h90 ((Bt.of_own hown1).below hb12 (Nat.le_refl _)) hB2) (by have := HLN.out; simp [fourN_len]; omega)).mono ?_
  rintro e w3 ⟨v3, rfl, hown3, hb3⟩
  obtain ⟨ao3, cap3, rfl⟩ := own_shape hown3
  have hfl : [[90], putText b, fourN (putText b)].flatten = frameL b := by simp [frameL]
  rw [hfl] at hown3
  go_wp2
  go_ret2
  have hb02 := below_tr hb1 hb12
  exact ⟨_, rfl, hown3.base (by have := hb02.size; simp; omega), (hb02.alloc hb02.size _).trans (hb3.mono (by have := hb02.size; simp; omega))⟩
end Go.Proofs.YtpcipfnahknngaaGreatDoor

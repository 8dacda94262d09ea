/- Entries; contracts of wal.Record, wal.Parse, wal.Same. No statement of the seat. -/
import Derived.Test.YtpcipfnahknngaaGreatDoorRefPack
namespace Go.Proofs.YtpcipfnahknngaaGreatDoor
open Go.RowKit

/-- an entry -/
structure Ent where
  i : Nat
  t : Nat
  b : List UInt8
/-- .. of numbers of 64 bits, not too long -/
def Ent.ok (x : Ent) : Prop := x.i < 18446744073709551616 ∧ x.t < 18446744073709551616 ∧ x.b.length ≤ 140737488351232

/-- three slices of bytes, laid one behind the other in a new block -/
theorem Bts.three (w : World) (u v x : Value) (l m n : List UInt8) (hu : Bt w u l) (hv : Bt w v m) (hx : Bt w x n) :
    Bts (w.alloc (.cells #[u, v, x] 23)) (.slice (some ⟨w.heap.size, 0, none⟩) 3 3) [l, m, n] := by
  have hb : Below w.heap.size w (w.alloc (.cells #[u, v, x] 23)) := (Below.refl _ _).alloc (Nat.le_refl _) _
  have one : ∀ {x : Value} {k : List UInt8}, Bt w x k → x.oneCell' = true := by
    intro x k h
    obtain ⟨_, _, ao, cap, rfl, _⟩ := h
    rfl
  refine ⟨[u, v, x], ⟨rfl, ?_, some ⟨w.heap.size, 0, none⟩, 3, rfl, Nat.le_refl _, by decide, (fun h => by cases h), Or.inr ⟨w.heap.size, 0, rfl, fun j y hj => ?_⟩⟩, ?_⟩
  · intro y hy
    simp at hy
    rcases hy with rfl | rfl | rfl
    · exact one hu
    · exact one hv
    · exact one hx
  · rw [World.cell?_alloc_at _ _ _ _ rfl, Nat.zero_add]
    simpa using hj
  · intro k hk
    match k, hk with
    | 0, _ => exact ⟨u, rfl, hu.below hb (Nat.le_refl _)⟩
    | 1, _ => exact ⟨v, rfl, hv.below hb (Nat.le_refl _)⟩
    | 2, _ => exact ⟨x, rfl, hx.below hb (Nat.le_refl _)⟩

/-- what Record answers -/
def recL (x : Ent) : List UInt8 := putL x.i ++ (putL x.t ++ putText x.b)

set_option maxRecDepth 100000 in
set_option maxHeartbeats 3200000 in
theorem record7 (x : Ent) (u : Value) (w : World) (hx : x.ok) (hu : Bt w u x.b) (h0 : x.i ≠ 0) (hl : x.b.length ≤ 2000) :
    Calls Tryz.prog 7 #[.agg #[.int .u64 x.i, .int .u64 x.t, u]] w fun e w' => ∃ v, e = .returned (.tuple #[v, .int .i64 0]) ∧ w'.ownsRow w.heap.size 5 1 v (recL x).length (bv (recL x)) ∧ Below w.heap.size w w' := by
  obtain ⟨hx1, hx2, hx3⟩ := hx
  have HX1 := Lib.hid hx1
  have HX2 := Lib.hid hx2
  clear hx1 hx2 hx3
  have hd0 : ((x.i : Int) == 0) = false := by simp; omega
  have hb0 : Below w.heap.size w (w.alloc (.cells #[.int .u64 x.i, .int .u64 x.t, u] 25)) := (Below.refl _ _).alloc (Nat.le_refl _) _
  have hu1 := hu.below hb0 (Nat.le_refl _)
  have hcs := conv_str _ _ _ hu1
  obtain ⟨y1, y2, ao, cap, rfl, y3, y4, y7, y5⟩ := hu
  clear y1 y2 y3 y4 y7 y5
  go_enter Tryz.func7, Tryz.ntmps7
  go_wp2_with (go_at_call 34; refine (puttext34 x.b _ (by omega)).mono ?_; rintro e w1 ⟨v1, rfl, hown1, hbel1⟩; obtain ⟨ao1, cap1, rfl⟩ := own_shape hown1)
  have b1 := below_tr hb0 hbel1
  have c0 : ∀ W, Below (w.heap.size + 1) w1 W → W.cell? ⟨w.heap.size, 0, none⟩ = some (.int .u64 x.i) := fun W hW => by
    rw [hW.cell (p := ⟨w.heap.size, 0, none⟩) (by simp), hbel1.cell (p := ⟨w.heap.size, 0, none⟩) (by simp), World.cell?_alloc_at _ _ _ _ rfl]; rfl
  have c1 : ∀ W, Below (w.heap.size + 1) w1 W → W.cell? ⟨w.heap.size, 1, none⟩ = some (.int .u64 x.t) := fun W hW => by
    rw [hW.cell (p := ⟨w.heap.size, 1, none⟩) (by simp), hbel1.cell (p := ⟨w.heap.size, 1, none⟩) (by simp), World.cell?_alloc_at _ _ _ _ rfl]; rfl
  have hz1 : w.heap.size + 1 ≤ w1.heap.size := by have := hbel1.size; simpa using this
  have d0 := c0 _ ((Below.refl _ _).drew)
  have d1 := c1 _ ((Below.refl _ _).drew)
  have C0 := Lib.hid c0
  have C1 := Lib.hid c1
  clear c0 c1
  have HLEN : Hid ([putL x.i, putL x.t, putText x.b].flatten.length ≤ 140737488351232) := Lib.hid (by
    have a1 := putL_len x.i HX1.out
    have a2 := putL_len x.t HX2.out
    have a3 := putL_len x.b.length (by omega)
    simp [putText]
    omega)
  have E4 : Hid ([putL x.i, putL x.t, putText x.b].flatten = recL x) := Lib.hid (by simp [recL])
  go_region_with (first
    | (go_at_call 36; (with_reducible refine (put_any x.i HX1.out _).mono ?_); rintro e w2 ⟨v2, rfl, hown2, hbel2⟩; obtain ⟨ao2, cap2, rfl⟩ := own_shape hown2; have hw2 : Below w1.heap.size w1 w2 := (by first | exact ((Below.refl _ _).drew).trans (hbel2.mono (Nat.le_refl _)) | exact hw3.trans (hbel2.mono hw3.size)); have k2 := C1.out _ (hw2.mono hz1))
    | (go_at_call 36; (with_reducible refine (put_any x.t HX2.out _).mono ?_); rintro e w3 ⟨v3, rfl, hown3, hbel3⟩; obtain ⟨ao3, cap3, rfl⟩ := own_shape hown3; have hw3 : Below w1.heap.size w1 w3 := (by first | exact ((Below.refl _ _).drew).trans (hbel3.mono (Nat.le_refl _)) | exact hw2.trans (hbel3.mono hw2.size)); have k3 := C0.out _ (hw3.mono hz1))
    | (go_at_call 35; go_must (refine (join35 _ [putL x.i, putL x.t, putText x.b] _ (Bts.three _ _ _ _ _ _ _ (by first | exact Bt.of_own hown2 | exact (Bt.of_own hown2).below hbel3 (Nat.le_refl _)) (by first | exact Bt.of_own hown3 | exact (Bt.of_own hown3).below hbel2 (Nat.le_refl _)) (by first | exact (Bt.of_own hown1).below hw3 (Nat.le_refl _) | exact (Bt.of_own hown1).below hw2 (Nat.le_refl _))) HLEN.out).mono ?_; rintro e w4 ⟨v4, rfl, hown4, hbel4⟩; rw [E4.out] at hown4; obtain ⟨ao4, cap4, rfl⟩ := own_shape hown4)))
  all_goals
    go_wp2
    go_ret2
    refine ⟨_, rfl, ?_, ?_⟩
    · first
        | exact hown4.base (below_al (below_tr b1 hw3) _).size
        | exact hown4.base (below_al (below_tr b1 hw2) _).size
    · first
        | exact below_tr (below_al (below_tr b1 hw3) _) hbel4
        | exact below_tr (below_al (below_tr b1 hw2) _) hbel4
end Go.Proofs.YtpcipfnahknngaaGreatDoor

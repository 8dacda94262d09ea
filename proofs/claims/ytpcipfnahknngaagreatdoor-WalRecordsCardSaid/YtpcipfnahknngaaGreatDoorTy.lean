/- Contracts of pack.PutText, and of the reference's Put, PutText, Take, TakeText. No statement of the seat. -/
import Derived.Test.YtpcipfnahknngaaGreatDoorTx
namespace Go.Proofs.YtpcipfnahknngaaGreatDoor
open Go.RowKit

/-- a text's bytes -/
def putText (s : List UInt8) : List UInt8 := putL s.length ++ s
theorem putL_len (n : Nat) (hn : n < 18446744073709551616) : (putL n).length ≤ 10 := by
  have H : ∀ k n, n < 128 ^ (k + 1) → (putL n).length ≤ k + 1 := by
    intro k
    induction k with
    | zero => intro n h; rw [putL_small (by simpa using h)]; simp
    | succ k ih =>
      intro n h
      by_cases h1 : n < 128
      · rw [putL_small h1]; simp
      · rw [putL_big h1, List.length_cons]
        have := ih (n / 128) (by rw [Nat.pow_succ] at h; omega)
        omega
  exact H 9 n (Nat.lt_of_lt_of_le hn (by decide))

/-- two slices of bytes, laid one behind the other -/
theorem Bts.two (w : World) (u v : Value) (l m : List UInt8) (hu : Bt w u l) (hv : Bt w v m) :
    Bts (w.alloc (.cells #[u, v] 23)) (.slice (some ⟨w.heap.size, 0, none⟩) 2 2) [l, m] := by
  have hb : Below w.heap.size w (w.alloc (.cells #[u, v] 23)) := (Below.refl _ _).alloc (Nat.le_refl _) _
  have one : ∀ {x : Value} {k : List UInt8}, Bt w x k → x.oneCell' = true := by
    intro x k h
    obtain ⟨_, _, ao, cap, rfl, _⟩ := h
    rfl
  refine ⟨[u, v], ⟨rfl, ?_, some ⟨w.heap.size, 0, none⟩, 2, rfl, Nat.le_refl _, by decide, (fun h => by cases h), Or.inr ⟨w.heap.size, 0, rfl, fun j x hj => ?_⟩⟩, ?_⟩
  · intro x hx
    simp at hx
    rcases hx with rfl | rfl
    · exact one hu
    · exact one hv
  · rw [World.cell?_alloc_at _ _ _ _ rfl, Nat.zero_add]
    simpa using hj
  · intro k hk
    match k, hk with
    | 0, _ => exact ⟨u, rfl, hu.below hb (Nat.le_refl _)⟩
    | 1, _ => exact ⟨v, rfl, hv.below hb (Nat.le_refl _)⟩

set_option maxRecDepth 100000 in
set_option maxHeartbeats 1600000 in
theorem puttext34 (s : List UInt8) (w : World) (hs : s.length ≤ 4096) :
    Calls Tryz.prog 34 #[.string (tx s)] w fun e w' => ∃ v', e = .returned (.tuple #[v', .int .i64 0]) ∧ w'.ownsRow w.heap.size 5 1 v' (putText s).length (bv (putText s)) ∧ Below w.heap.size w w' := by
  have hsz : (tx s).size = s.length := tx_size s
  go_enter Tryz.func34, Tryz.ntmps34
  go_wp2_with (first | (go_at_call 36; refine (put_any s.length (by omega) _).mono ?_; rintro e w1 ⟨v1, rfl, hown1, hbel1⟩; obtain ⟨ao1, cap1, rfl⟩ := own_shape hown1) | (with_reducible refine wl_bytes rfl _ rfl s rfl (by omega) ?_; intro g cap w2 hb2 hbel2))
  have hlen := putL_len s.length (by omega)
  refine (join35 _ [putL s.length, s] _ (Bts.two w2 _ _ _ _ ((Bt.of_own hown1).below hbel2 (Nat.le_refl _)) hb2) (by simp; omega)).mono ?_
  rintro e w3 ⟨v3, rfl, hown3, hbel3⟩
  go_wp2
  go_ret2
  refine ⟨_, rfl, ?_, ?_⟩
  · have h2 : w.heap.size ≤ (w2.alloc (.cells #[Value.slice ao1 (putL s.length).length cap1, Value.slice (some g) s.length cap] 23)).heap.size := by
      have := hbel1.size; have := hbel2.size; simp; omega
    simpa [putText] using hown3.base h2
  · exact (hbel1.trans (hbel2.mono hbel1.size)).trans (((Below.refl _ _).alloc (Nat.le_refl _) _).trans (hbel3.mono (by simp)) |>.mono (Nat.le_trans hbel1.size hbel2.size))
end Go.Proofs.YtpcipfnahknngaaGreatDoor

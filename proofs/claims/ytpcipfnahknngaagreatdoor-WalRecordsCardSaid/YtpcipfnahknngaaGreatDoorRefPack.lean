/- Contracts of the reference's Put, PutText, Take, TakeText. No statement of the seat. -/
import Derived.Test.YtpcipfnahknngaaGreatDoorTy
import Derived.Deep.RegionWith
import Derived.Deep.DeepMust
import Derived.Deep.DeepFit
namespace Go.Proofs.YtpcipfnahknngaaGreatDoor
open Go.RowKit

theorem below_tr {w w1 w2 : World} (h1 : Below w.heap.size w w1) (h2 : Below w1.heap.size w1 w2) : Below w.heap.size w w2 := h1.trans (h2.mono h1.size)
theorem below_al {w w1 : World} (h1 : Below w.heap.size w w1) (o : Obj) : Below w.heap.size w (w1.alloc o) := h1.alloc h1.size o
/-- .. behind an append to what is the call's own -/
theorem below_own {w w1 w2 : World} {e : TypeId} {sz n : Nat} {v : Value} {xs : List Value} (h1 : Below w.heap.size w w1) (ho : w1.ownsRow w.heap.size e sz v n xs) (hg : w1.grownBy w2 v.ownBlock) : Below w.heap.size w w2 :=
  h1.grown hg h1.size (fun k hk => (ho.lt k hk).1)

/-- 'b[l:h]' inside the capacity, as an equation for a region -/
theorem cut_run (w : World) (t e : TypeId) (ht : Tryz.prog.underlying t = some (.slice e)) (hsz : ∀ w, (sizeOf e).run Tryz.prog w = .ok 1 w) (g off n cap : Nat) (kl kh : IntKind) (lo hi : Int) (l h : Nat)
    (el : lo = l) (eh : hi = h) (h1 : l ≤ h) (h2 : h ≤ cap) (h3 : l < cap) :
    (Instr.slice t (.slice (some ⟨g, off, none⟩) n cap) (some (.int kl lo)) (some (.int kh hi)) none).run Tryz.prog w = .ok (.slice (some ⟨g, off + l, none⟩) (h - l) (cap - l)) w := by
  subst el eh
  have a1 : (l : Int) ≤ (h : Int) := by omega
  have a2 : (h : Int) ≤ (cap : Int) := by omega
  have a3 : ¬ cap = l := by omega
  simp [Instr.slice, run_underlying ht, Instr.sliceBounds, run_sliceBound, a1, a2, a3, hsz, Addr.add]

set_option maxRecDepth 100000 in
set_option maxHeartbeats 800000 in
theorem rput38 : ∀ (k n : Nat) (a : Int) (w : World), a = n → n < 128 ^ (k + 1) → k ≤ 9 → n < 18446744073709551616 →
    Calls Tryz.prog 38 #[.int .u64 a] w fun e w' => ∃ v, e = .returned v ∧ w'.ownsRow w.heap.size 5 1 v (putL n).length (bv (putL n)) ∧ Below w.heap.size w w' := by
  intro k
  induction k with
  | zero =>
    rintro n _ w rfl hn hk h64
    have h1 : n < 128 := by simpa using hn
    clear hn h64
    go_enter Tryz.func38, Tryz.ntmps38
    go_wp2_with fail
    go_ret
    refine ⟨_, rfl, ?_, (Below.refl _ _).alloc (Nat.le_refl _) _⟩
    rw [putL_small h1]
    have := World.ownsRow_lit (base := w.heap.size) (e := 5) (size := 1) w #[.int .u8 (n : Int)] 1 (Nat.le_refl _) (by decide) rfl
    have e1 : n % 256 = n := by omega
    simpa [bv, e1] using this
  | succ k ih =>
    rintro n _ w rfl hn hk h64
    by_cases h1 : n < 128
    · exact ih n _ w rfl (Nat.lt_of_lt_of_le (show n < 128 ^ 1 by simpa using h1) (Nat.pow_le_pow_right (by decide) (by omega))) (by omega) h64
    · have hc := ih (n / 128)
      have hd : n / 128 < 128 ^ (k + 1) := by rw [Nat.pow_succ] at hn; omega
      have HC := Lib.hid hc
      have hd2 : n / 128 < 18446744073709551616 := by omega
      have hlen := putL_len (n / 128) hd2
      have HD := Lib.hid hd
      have HD2 := Lib.hid hd2
      clear hc hd hd2 hn h64 ih
      have hm : (n : Int) % 128 + 128 < 256 := by omega
      go_enter Tryz.func38, Tryz.ntmps38
      go_wp2_with fail
      refine (HC.out _ _ (by rw [show ((n : Int) / 128) = ((n / 128 : Nat) : Int) from by omega]; exact wrap_u64_nat _ HD2.out) HD.out (by omega) HD2.out).mono ?_
      rintro e w1 ⟨v1, rfl, hown1, hbel1⟩
      obtain ⟨ao1, cap1, rfl⟩ := own_shape hown1
      have hb0 : Below w.heap.size w (w.alloc (.cells #[.int .u8 ((n : Int) % 128 + 128)] 5)) := (Below.refl _ _).alloc (Nat.le_refl _) _
      have hown0 := (World.ownsRow_lit (base := w.heap.size) (e := 5) (size := 1) w #[.int .u8 ((n : Int) % 128 + 128)] 1 (Nat.le_refl _) (by decide) rfl)
      have e0 : (bv [UInt8.ofNat (n % 128 + 128)]) = (#[Value.int .u8 ((n : Int) % 128 + 128)] : Array Value).toList := by
        have : (n % 128 + 128) % 256 = n % 128 + 128 := by omega
        simp [bv, this]
      rw [← e0] at hown0
      have hown2 := hown0.kept (row := none) (w' := w1) ⟨hbel1.os, hbel1.tape, hbel1.output, hbel1.size, fun b hb _ => hbel1.block b hb⟩ (by simp [Value.ownBlock])
      have E0 := Lib.hid e0
      clear e0 hown0
      go_wp2_with (at_builtin; refine wl_appB rfl _ _ rfl w.heap.size _ [UInt8.ofNat (n % 128 + 128)] rfl hown2 _ _ rfl (Bt.of_own hown1) ?_ ?_ ?_; rotate_right; intro v' w2 hown3 hgrow3)
      · go_ret
        refine ⟨_, rfl, ?_, ?_⟩
        · rw [putL_big h1]
          exact hown3
        · exact below_own (below_tr hb0 hbel1) hown2 hgrow3
      · simp; omega
      · have := hbel1.size; simp at this; omega
end Go.Proofs.YtpcipfnahknngaaGreatDoor

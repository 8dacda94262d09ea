/- Contracts of package pack: Put, PutText, Join, Take, TakeText. No statement of the seat. -/
import Derived.Test.YtpcipfnahknngaaGreatDoorSlc
namespace Go.Proofs.YtpcipfnahknngaaGreatDoor
open Go.RowKit

/-- the bytes of a number -/
def putL (n : Nat) : List UInt8 := if n < 128 then [UInt8.ofNat n] else UInt8.ofNat (n % 128 + 128) :: putL (n / 128)
termination_by n
decreasing_by omega

theorem putL_small {n : Nat} (h : n < 128) : putL n = [UInt8.ofNat n] := by rw [putL, if_pos h]
theorem putL_big {n : Nat} (h : ¬ n < 128) : putL n = UInt8.ofNat (n % 128 + 128) :: putL (n / 128) := by rw [putL, if_neg h]

theorem or128_all : ∀ k : Fin 256, bits BinOp.or IntKind.u8 ((k.val : Nat) : Int) 128 = ((k.val % 128 + 128 : Nat) : Int) := by decide +kernel
theorem or128 (m : Nat) : bits BinOp.or IntKind.u8 ((m : Int) % 256) 128 = ((m % 128 + 128 : Nat) : Int) := by
  have h := or128_all ⟨m % 256, Nat.mod_lt _ (by decide)⟩
  have e0 : ((m % 256 : Nat) : Int) = (m : Int) % 256 := by omega
  simp only [e0] at h
  have e : m % 256 % 128 = m % 128 := by omega
  rw [e] at h
  exact h

theorem plen {m k n : Nat} (h1 : k = 0 ∨ 1 ≤ m) (h2 : m * 128 ^ k ≤ n) (hn : n < 18446744073709551616) : k ≤ 9 := by
  rcases Nat.lt_or_ge 9 k with h | h
  · exfalso
    have h3 : 128 ^ 10 ≤ 128 ^ k := Nat.pow_le_pow_right (by decide) h
    have h4 : 1 * 128 ^ k ≤ m * 128 ^ k := Nat.mul_le_mul_right _ (by omega)
    have h5 : (128 : Nat) ^ 10 = 1180591620717411303424 := by decide
    omega
  · exact h

/-- behind an append: what was there is as it was -/
theorem below_app {w wr w1 : World} {e : TypeId} {sz n : Nat} {v : Value} {xs : List Value} {o : Obj} (hbel : Below w.heap.size w wr) (hown : wr.ownsRow w.heap.size e sz v n xs) (hgrow : (wr.alloc o).grownBy w1 v.ownBlock) : Below w.heap.size w w1 :=
  (hbel.alloc hbel.size o).grown hgrow (by have := hbel.size; simp; omega) (fun k hk => (hown.lt k hk).1)

set_option maxRecDepth 100000 in
set_option maxHeartbeats 800000 in
theorem put_any (n : Nat) (hn : n < 18446744073709551616) (w : World) :
    Calls Tryz.prog 36 #[.int .u64 n] w fun e w' => ∃ v, e = .returned v ∧ w'.ownsRow w.heap.size 5 1 v (putL n).length (bv (putL n)) ∧ Below w.heap.size w w' := by
  have HN := Lib.hid hn
  clear hn
  go_enter Tryz.func36, Tryz.ntmps36
  go_wp2
  go_loopw [0, 3] (fun t v wr => ∃ (m : Nat) (p : List UInt8), t = .int .u64 m ∧ putL n = p ++ putL m ∧ wr.ownsRow w.heap.size 5 1 v p.length (bv p) ∧ Below w.heap.size w wr ∧ (p.length = 0 ∨ 1 ≤ m) ∧ m * 128 ^ p.length ≤ n) (fun t _ _ => (intOf t).toNat)
  case atStart => exact ⟨n, [], rfl, by simp, World.ownsRow_nil _ _ _ _, Below.refl _ _, by simp, by simp⟩
  case round =>
    obtain ⟨m, p, rfl, hp, hown, hbel, hp1, hpl⟩ := hrel
    have HP := Lib.hid hp
    have hk := plen hp1 hpl HN.out
    have HL := Lib.hid hpl
    clear hp hpl hp1
    by_cases h : m < 128
    · go_wp2_with (at_builtin; refine wl_appB rfl _ _ rfl w.heap.size _ p rfl (hown.alloc _) _ _ rfl (Bt.one wr _ ?_ ?_) ?_ ?_ ?_; rotate_right; intro v' w1 hown1 hgrow1)
      · go_ret
        refine ⟨_, rfl, ?_, below_app hbel hown hgrow1⟩
        rw [HP.out, putL_small h]
        simpa using hown1
      · omega
      · omega
      · simp; omega
      · have := hbel.size; simp; omega
    · go_wp2_with (at_builtin; refine wl_appB rfl _ _ rfl w.heap.size _ p rfl (hown.alloc _) _ _ rfl (Bt.one wr _ ?_ ?_) ?_ ?_ ?_; rotate_right; intro v' w1 hown1 hgrow1)
      · go_roundw
        case rel =>
          refine ⟨m / 128, p ++ [UInt8.ofNat (m % 128 + 128)], by go_num, ?_, ?_, below_app hbel hown hgrow1, Or.inr ?_, ?_⟩
          · rw [HP.out, putL_big h]; simp
          · rw [or128, Int.toNat_natCast] at hown1; exact hown1
          · omega
          · rw [List.length_append, List.length_singleton, Nat.pow_succ, Nat.mul_comm (128 ^ p.length), ← Nat.mul_assoc]; exact Nat.le_trans (Nat.mul_le_mul_right _ (by omega)) HL.out
        case measure => simp [intOf]; omega
      · rw [or128]; omega
      · rw [or128]; omega
      · simp; omega
      · have := hbel.size; simp; omega

/-- a number's bytes, read from a place on: the number, how many bytes -/
def takeR : List UInt8 → Nat → Nat → Option (Nat × Nat)
  | [], _, _ => none
  | x :: r, i, n =>
    if (i = 9 ∧ 1 < x.toNat) ∨ (0 < i ∧ x.toNat = 0) then none
    else if x.toNat < 128 then some (n + x.toNat % 128 * 128 ^ i, i + 1) else takeR r (i + 1) (n + x.toNat % 128 * 128 ^ i)

/-- what Take answers: the number, the next place, the errno -/
def takeT (b : List UInt8) (at_ : Nat) : Nat × Nat × Nat :=
  if b.length < at_ then (0, 0, 2) else
  match takeR (b.drop at_) 0 0 with
  | none => (0, 0, 4)
  | some (n, k) => (n, at_ + k, 0)

/-- what the first k bytes bring -/
def pv (r : List UInt8) : Nat → Nat
  | 0 => 0
  | k + 1 => pv r k + (r.getD k 0).toNat % 128 * 128 ^ k
theorem pv_lt (r : List UInt8) (k : Nat) : pv r k < 128 ^ k := by
  induction k with
  | zero => simp [pv]
  | succ k ih =>
    have h1 : (r.getD k 0).toNat % 128 * 128 ^ k ≤ 127 * 128 ^ k := Nat.mul_le_mul_right _ (by omega)
    show pv r k + _ < 128 ^ (k + 1)
    rw [Nat.pow_succ]
    omega
theorem pv_small (r : List UInt8) (k : Nat) (h : k ≤ 9) : pv r k < 9223372036854775808 :=
  Nat.lt_of_lt_of_le (pv_lt r k) (Nat.le_trans (Nat.pow_le_pow_right (by decide) h) (by decide))
theorem takeR_step (r : List UInt8) (k n : Nat) (h : k < r.length) :
    takeR (r.drop k) k n = if (k = 9 ∧ 1 < (r[k]).toNat) ∨ (0 < k ∧ (r[k]).toNat = 0) then none
      else if (r[k]).toNat < 128 then some (n + (r[k]).toNat % 128 * 128 ^ k, k + 1) else takeR (r.drop (k + 1)) (k + 1) (n + (r[k]).toNat % 128 * 128 ^ k) := by
  rw [List.drop_eq_getElem_cons h, takeR]

theorem and127_all : ∀ k : Fin 256, bits BinOp.and IntKind.u8 ((k.val : Nat) : Int) 127 = ((k.val % 128 : Nat) : Int) := by decide +kernel
theorem and127 (x : Nat) (hx : x < 256) : bits BinOp.and IntKind.u8 (x : Int) 127 = ((x % 128 : Nat) : Int) := and127_all ⟨x, hx⟩
theorem wrap_u64_nat (n : Nat) (h : n < 18446744073709551616) : IntKind.u64.wrap (n : Int) = (n : Int) := by
  simp only [IntKind.wrap_u64]
  omega
theorem pow128 (k : Nat) : (128 : Nat) ^ k = 2 ^ (7 * k) := by rw [Nat.pow_mul]
theorem pv_step_lt (x k : Nat) (hk : k ≤ 9) (h9 : k = 9 → x ≤ 1) : x % 128 * 128 ^ k < 18446744073709551616 := by
  rcases Nat.lt_or_ge k 9 with h | h
  · have h1 : 128 ^ k ≤ 128 ^ 8 := Nat.pow_le_pow_right (by decide) (by omega)
    have h2 : x % 128 * 128 ^ k ≤ 127 * 128 ^ 8 := Nat.mul_le_mul (by omega) h1
    exact Nat.lt_of_le_of_lt h2 (by decide)
  · have e : k = 9 := by omega
    subst e
    have h2 : x % 128 * 128 ^ 9 ≤ 1 * 128 ^ 9 := Nat.mul_le_mul_right _ (by have := h9 rfl; omega)
    exact Nat.lt_of_le_of_lt h2 (by decide)
theorem pvor (r : List UInt8) (k x : Nat) (hx : x < 256) (hk : k ≤ 9) (h9 : k = 9 → x ≤ 1) :
    bits BinOp.or IntKind.u64 (pv r k : Int) (IntKind.u64.wrap (IntKind.u64.wrap (bits BinOp.and IntKind.u8 (x : Int) 127) * 2 ^ (7 * k))) = ((pv r k + x % 128 * 128 ^ k : Nat) : Int) := by
  have h1 := pv_step_lt x k hk h9
  have h2 := pv_lt r k
  have h3 := pv_small r k hk
  rw [and127 x hx, wrap_u64_nat _ (by omega)]
  have e1 : ((x % 128 : Nat) : Int) * 2 ^ (7 * k) = ((x % 128 * 128 ^ k : Nat) : Int) := by
    rw [pow128]; simp
  rw [e1, wrap_u64_nat _ h1, bits_or_u64_nat _ _ (by omega) h1]
  congr 1
  rw [pow128] at h2 ⊢
  rw [Nat.or_comm, Nat.mul_comm, ← Nat.two_pow_add_eq_or_of_lt h2, Nat.add_comm]

set_option maxRecDepth 100000 in
set_option maxHeartbeats 1600000 in
theorem take39 (v : Value) (b : List UInt8) (at_ : Nat) (w : World) (hv : Bt w v b) (hb : b.length ≤ 140737488351232) (hat : at_ ≤ 140737488351232) :
    Calls Tryz.prog 39 #[v, .int .i64 at_] w fun e w' => e = .returned (.tuple #[.int .u64 (takeT b at_).1, .int .i64 (takeT b at_).2.1, .int .i64 (takeT b at_).2.2]) ∧ w' = w := by
  obtain ⟨y1, y2, ao, cap, rfl, y3, y4, y7, y5⟩ := hv
  unfold maxLen at y4
  clear y1 y2 y7
  by_cases hgt : b.length < at_
  · have ht : takeT b at_ = (0, 0, 2) := by unfold takeT; rw [if_pos hgt]
    rw [ht]
    go_enter Tryz.func39, Tryz.ntmps39
    go_wp2
    go_ret3
    exact ⟨rfl, rfl⟩
  by_cases heq : b.length = at_
  · have hcap : cap = at_ ∨ at_ < cap := by omega
    have ht : takeT b at_ = (0, 0, 4) := by
      unfold takeT
      rw [if_neg (by omega), List.drop_of_length_le (by omega)]
      rfl
    rw [ht]
    have hle : b.length ≤ at_ := by omega
    have hge : at_ ≤ b.length := by omega
    clear y5 heq
    go_enter Tryz.func39, Tryz.ntmps39
    go_wp2
    all_goals
      refine wp_loop_rounds 1 ?_
      rw [rounds_succ]
      go_wp2
      go_ret3
      exact ⟨rfl, rfl⟩
  · obtain ⟨g, off, rfl, hc⟩ := y5.resolve_left (by omega)
    have hlt : at_ < b.length := by omega
    have hcap : at_ < cap := by omega
    have hne : ¬ cap = at_ := by omega
    obtain ⟨r, hr⟩ : ∃ r, r = b.drop at_ := ⟨_, rfl⟩
    have hrl : r.length = b.length - at_ := by rw [hr]; simp
    have hcell : ∀ k, (h : k < r.length) → w.cell? ⟨g, off + at_ + k, none⟩ = some (.int .u8 (r[k]).toNat) := by
      intro k h
      have h1 := hc (at_ + k) _ (bv_get b (at_ + k) (by omega))
      rw [Nat.add_assoc, h1]
      simp [hr]
    have HC := Lib.hid hcell
    have ht : takeT b at_ = (match takeR r 0 0 with | none => (0, 0, 4) | some (n, k) => (n, at_ + k, 0)) := by
      unfold takeT
      rw [if_neg hgt, ← hr]
    have HT := Lib.hid ht
    have HRL := Lib.hid hrl
    have hd : decide (b.length < at_) = false := by simp; omega
    have hrl2 : r.length ≤ b.length - at_ := by omega
    have hrl3 : b.length - at_ ≤ r.length := by omega
    clear hc hcell ht hr hrl heq hgt
    go_enter Tryz.func39, Tryz.ntmps39
    go_wp2
    go_loopg [4, 5, 6, 21] r.length (fun gk n _ _ i wr => w = wr ∧ ∃ k : Nat, gk = r.length - k ∧ k ≤ r.length ∧ k ≤ 9 ∧ i = .int .i64 k ∧ n = .int .u64 (pv r k) ∧ takeR r 0 0 = takeR (r.drop k) k (pv r k))
    case atStart => exact ⟨rfl, 0, rfl, Nat.zero_le _, by omega, rfl, rfl, rfl⟩
    case round =>
      obtain ⟨rfl, k, rfl, hk, hk9, rfl, rfl, hrel⟩ := hrel
      have HR := Lib.hid hrel
      clear hrel
      by_cases hlt2 : k < r.length
      · have hcl := HC.out k hlt2
        have HS := Lib.hid (takeR_step r k (pv r k) hlt2)
        obtain ⟨x, hx⟩ : ∃ x : Nat, x = (r[k]).toNat := ⟨_, rfl⟩
        have hx256 : x < 256 := by rw [hx]; exact (r[k]).toNat_lt
        have HX := Lib.hid hx
        rw [← hx] at hcl
        clear hx
        have HK : Hid (takeR r 0 0 = if (k = 9 ∧ 1 < x) ∨ (0 < k ∧ x = 0) then none else if x < 128 then some (pv r k + x % 128 * 128 ^ k, k + 1) else takeR (r.drop (k + 1)) (k + 1) (pv r k + x % 128 * 128 ^ k)) :=
          Lib.hid (by rw [HR.out, HS.out, ← HX.out])
        have HP : Hid (pv r (k + 1) = pv r k + x % 128 * 128 ^ k) := Lib.hid (by rw [pv, HX.out]; simp [List.getD, hlt2])
        by_cases hk_9 : k = 9
        · subst hk_9
          by_cases hx1 : 1 < x
          · have ht : takeT b at_ = (0, 0, 4) := by rw [HT.out, HK.out, if_pos (Or.inl ⟨rfl, hx1⟩)]
            have HT4 := Lib.hid ht
            clear ht
            go_wp2
            rw [HT4.out]
            go_ret3
            exact ⟨rfl, rfl⟩
          · by_cases hx0 : x = 0
            · have ht : takeT b at_ = (0, 0, 4) := by rw [HT.out, HK.out, if_pos (Or.inr ⟨by omega, hx0⟩)]
              have HT4 := Lib.hid ht
              clear ht
              subst hx0
              go_wp2
              rw [HT4.out]
              go_ret3
              exact ⟨rfl, rfl⟩
            · have hx_1 : x = 1 := by omega
              have hgood : ¬ ((9 = 9 ∧ 1 < x) ∨ (0 < 9 ∧ x = 0)) := by omega
              have ht : takeT b at_ = (pv r 9 + x % 128 * 128 ^ 9, at_ + (9 + 1), 0) := by rw [HT.out, HK.out, if_neg hgood, if_pos (by omega)]
              have e9 := pvor r 9 x hx256 hk9 (by omega)
              rw [show ((2 : Int) ^ (7 * 9)) = 9223372036854775808 from by decide] at e9
              have HT4 := Lib.hid ht
              have E9 := Lib.hid e9
              have hxb : ((x : Int) == 0) = false := by simp; omega
              clear e9 ht hgood hx_1 hx0
              have hxp : 0 < x := by simp at hxb; omega
              go_wp2
              rw [HT4.out]
              go_ret3
              refine ⟨?_, rfl⟩
              rw [← E9.out]
              rfl
        · have hd9 : ((k : Int) == 9) = false := by simp; omega
          have hk9' : ¬ ((k : Int) = 9) := by omega
          go_wp2
          all_goals first
            | (have hx0 : 0 < k ∧ x = 0 := by
                 have hh : ((x : Int) == 0) = true := (by assumption)
                 simp at hh; omega
               have ht : takeT b at_ = (0, 0, 4) := by rw [HT.out, HK.out, if_pos (Or.inr hx0)]
               rw [ht]; go_ret3; exact ⟨rfl, rfl⟩)
            | (have hx0 : ¬ (0 < k ∧ x = 0) := by
                 first
                 | omega
                 | (have hh : ((x : Int) == 0) = false := (by assumption); simp at hh; omega)
               have hgood : ¬ ((k = 9 ∧ 1 < x) ∨ (0 < k ∧ x = 0)) := by omega
               have hlt128 : x < 128 := by omega
               have ht : takeT b at_ = (pv r k + x % 128 * 128 ^ k, at_ + (k + 1), 0) := by rw [HT.out, HK.out, if_neg hgood, if_pos hlt128]
               rw [ht, ← pvor r k x hx256 hk9 (by omega)]; go_ret3; exact ⟨by go_num, rfl⟩)
            | (have hx0 : ¬ (0 < k ∧ x = 0) := by omega
               have hgood : ¬ ((k = 9 ∧ 1 < x) ∨ (0 < k ∧ x = 0)) := by omega
               have hge128 : ¬ x < 128 := by omega
               go_roundg (r.length - (k + 1))
               case measure => omega
               case rel => exact ⟨rfl, k + 1, rfl, by omega, by omega, by go_num, by rw [HP.out, ← pvor r k x hx256 hk9 (by omega)], by rw [HK.out, if_neg hgood, if_neg hge128, HP.out]⟩)
      · have hkl : k = r.length := by omega
        have ht : takeT b at_ = (0, 0, 4) := by
          rw [HT.out, HR.out, List.drop_of_length_le (by omega)]
          rfl
        have HT4 := Lib.hid ht
        clear ht
        go_wp2
        rw [HT4.out]
        go_ret3
        exact ⟨rfl, rfl⟩
end Go.Proofs.YtpcipfnahknngaaGreatDoor

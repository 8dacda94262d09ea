/- Plain mathematics of the numbers' bytes: what Take reads is what Put writes. No program. -/
import Derived.Test.YtpcipfnahknngaaGreatDoorTy
namespace Go.Proofs.YtpcipfnahknngaaGreatDoor

/-- what a row of bytes is worth -/
def val : List UInt8 → Nat
  | [] => 0
  | x :: r => x.toNat % 128 + 128 * val r

theorem val_putL (n : Nat) : val (putL n) = n := by
  induction n using Nat.strongRecOn with
  | _ n ih =>
    by_cases h : n < 128
    · rw [putL_small h]
      simp [val]
      omega
    · rw [putL_big h, val, ih (n / 128) (by omega)]
      have : (n % 128 + 128) % 256 = n % 128 + 128 := by omega
      simp [this]
      omega

theorem val_snoc (l : List UInt8) (x : UInt8) : val (l ++ [x]) = val l + x.toNat % 128 * 128 ^ l.length := by
  induction l with
  | nil => simp [val]
  | cons y l ih =>
    simp only [List.cons_append, val, ih, List.length_cons, Nat.pow_succ]
    rw [Nat.mul_add, Nat.add_assoc]
    congr 2
    rw [Nat.mul_comm (128 ^ l.length) 128, ← Nat.mul_assoc, ← Nat.mul_assoc, Nat.mul_comm 128]

theorem pv_val (r : List UInt8) (k : Nat) (h : k ≤ r.length) : pv r k = val (r.take k) := by
  induction k with
  | zero => simp [pv, val]
  | succ k ih =>
    rw [pv, ih (by omega), List.take_succ_eq_append_getElem (by omega), val_snoc]
    simp [List.getD, show k < r.length by omega, show min k r.length = k by omega]

/-- a row that Put writes -/
def canon : List UInt8 → Prop
  | [] => False
  | [x] => x.toNat < 128
  | x :: y :: r => 128 ≤ x.toNat ∧ canon (y :: r) ∧ val (y :: r) ≠ 0

theorem putL_val : ∀ l : List UInt8, canon l → putL (val l) = l
  | [], h => h.elim
  | [x], h => by
    have h1 : x.toNat < 128 := h
    have e : val [x] = x.toNat := by simp [val]; omega
    rw [e, putL_small h1]
    simp
  | x :: y :: r, h => by
    obtain ⟨h1, h2, h3⟩ := h
    have ih := putL_val (y :: r) h2
    have e : val (x :: y :: r) = x.toNat % 128 + 128 * val (y :: r) := rfl
    have hx := x.toNat_lt
    rw [putL_big (by omega)]
    have e1 : val (x :: y :: r) / 128 = val (y :: r) := by omega
    have e2 : val (x :: y :: r) % 128 + 128 = x.toNat := by omega
    rw [e1, e2, ih]
    simp

theorem putL_inj {m n : Nat} (h : putL m = putL n) : m = n := by rw [← val_putL m, h, val_putL]

theorem canon_of : ∀ (l : List UInt8) (k : Nat), l.length = k + 1 → (∀ j (_ : j < k) (h2 : j < l.length), 128 ≤ (l[j]).toNat) → (∀ h : k < l.length, (l[k]).toNat < 128) → (k = 0 ∨ ∀ h : k < l.length, (l[k]).toNat ≠ 0) → canon l ∧ (k ≠ 0 → val l ≠ 0)
  | [], k, h, _, _, _ => by simp at h
  | [x], k, h, h1, h2, h3 => by
    have hk : k = 0 := by simpa using h.symm
    subst hk
    exact ⟨h2 (by simp), by simp⟩
  | x :: y :: r, 0, h, _, _, _ => by simp at h
  | x :: y :: r, k + 1, h, h1, h2, h3 => by
    have hx : 128 ≤ x.toNat := h1 0 (by omega) (by simp)
    have hne : ∀ h : k + 1 < (x :: y :: r).length, ((x :: y :: r)[k + 1]).toNat ≠ 0 := by
      rcases h3 with h3 | h3
      · omega
      · exact h3
    have ih := canon_of (y :: r) k (by simpa using h) (fun j hj hj2 => by have := h1 (j + 1) (by omega) (by simp at hj2 ⊢; omega); simpa using this)
      (fun hk => by have := h2 (by simp at hk ⊢; omega); simpa using this) (Or.inr fun hk => by have := hne (by simp at hk ⊢; omega); simpa using this)
    have hv : val (y :: r) ≠ 0 := by
      by_cases hk0 : k = 0
      · subst hk0
        have hr : r = [] := List.eq_nil_of_length_eq_zero (by simpa using h)
        subst hr
        have a1 := hne (by simp)
        have a2 := h2 (by simp)
        simp at a1 a2
        simp [val]
        omega
      · exact ih.2 hk0
    refine ⟨⟨hx, ih.1, hv⟩, fun _ => ?_⟩
    have e : val (x :: y :: r) = x.toNat % 128 + 128 * val (y :: r) := rfl
    omega

/-- WHERE A BYTE BELOW 128 STANDS BEHIND k OF 128 OR MORE: a number that was read is one that Put writes so .. -/
theorem take_good (r : List UInt8) (k : Nat) (hk : k < r.length) (hk9 : k ≤ 9) (h1 : ∀ j (h : j < r.length), j < k → 128 ≤ (r[j]).toNat) (h2 : (r[k]).toNat < 128)
    (hg : ¬ ((k = 9 ∧ 1 < (r[k]).toNat) ∨ (0 < k ∧ (r[k]).toNat = 0))) : pv r (k + 1) < 18446744073709551616 ∧ putL (pv r (k + 1)) = r.take (k + 1) := by
  constructor
  · have a1 := pv_lt r k
    have a2 := pv_small r k hk9
    show pv r k + (r.getD k 0).toNat % 128 * 128 ^ k < _
    have e : r.getD k 0 = r[k] := by simp [List.getD, hk]
    rw [e]
    rcases Nat.lt_or_ge k 9 with h | h
    · have a3 := pv_lt r (k + 1)
      have a4 : pv r (k + 1) = pv r k + (r.getD k 0).toNat % 128 * 128 ^ k := rfl
      rw [e] at a4
      rw [← a4]
      exact Nat.lt_of_lt_of_le a3 (Nat.le_trans (Nat.pow_le_pow_right (by decide) (show k + 1 ≤ 9 by omega)) (by decide))
    · have hk_9 : k = 9 := by omega
      have hx : (r[k]).toNat ≤ 1 := by omega
      have : (r[k]).toNat % 128 * 128 ^ k ≤ 1 * 128 ^ k := Nat.mul_le_mul_right _ (by omega)
      have e9 : (128 : Nat) ^ k = 9223372036854775808 := by rw [hk_9]
      rw [e9] at this ⊢
      omega
  · rw [pv_val r (k + 1) (by omega)]
    refine putL_val _ (canon_of (r.take (k + 1)) k (by rw [List.length_take]; omega) (fun j hj hj2 => ?_) (fun h => ?_) ?_).1
    · have := h1 j (by omega) hj
      simpa using this
    · simpa using h2
    · by_cases h0 : k = 0
      · exact Or.inl h0
      · refine Or.inr fun h => ?_
        have : (r[k]).toNat ≠ 0 := by omega
        simpa using this

/-- .. and one that Take refuses is none. -/
theorem take_bad (r : List UInt8) (k : Nat) (hk : k < r.length) (hk9 : k ≤ 9)
    (hg : (k = 9 ∧ 1 < (r[k]).toNat) ∨ (0 < k ∧ (r[k]).toNat = 0)) (h2 : (r[k]).toNat < 128) : putL (pv r (k + 1) % 18446744073709551616) ≠ r.take (k + 1) := by
  intro h
  have hv := congrArg val h
  rw [val_putL, ← pv_val r (k + 1) (by omega)] at hv
  have a4 : pv r (k + 1) = pv r k + (r.getD k 0).toNat % 128 * 128 ^ k := rfl
  have e : r.getD k 0 = r[k] := by simp [List.getD, hk]
  rw [e] at a4
  rcases hg with ⟨rfl, hx⟩ | ⟨h0, hx⟩
  · have : 2 * 128 ^ 9 ≤ (r[9]).toNat % 128 * 128 ^ 9 := Nat.mul_le_mul_right _ (by omega)
    have e9 : (128 : Nat) ^ 9 = 9223372036854775808 := by decide
    rw [e9] at this a4
    omega
  · have h3 : pv r (k + 1) = pv r k := by rw [a4, hx]; simp
    have h4 := pv_lt r k
    have h5 := pv_small r k hk9
    have h6 : (putL (pv r (k + 1) % 18446744073709551616)).length = k + 1 := by rw [h]; simp; omega
    have hlen : ∀ k n, 0 < k → n < 128 ^ k → (putL n).length ≤ k := by
      intro k
      induction k with
      | zero => intro n h; omega
      | succ k ih =>
        intro n _ hn
        by_cases hs : n < 128
        · rw [putL_small hs]; simp
        · have hk0 : 0 < k := by
            rcases Nat.eq_zero_or_pos k with rfl | h
            · simp at hn; omega
            · exact h
          rw [putL_big hs, List.length_cons]
          have := ih (n / 128) hk0 (by rw [Nat.pow_succ] at hn; omega)
          omega
    have h7 := hlen k (pv r k) h0 h4
    rw [h3, Nat.mod_eq_of_lt (by omega)] at h6
    omega
end Go.Proofs.YtpcipfnahknngaaGreatDoor

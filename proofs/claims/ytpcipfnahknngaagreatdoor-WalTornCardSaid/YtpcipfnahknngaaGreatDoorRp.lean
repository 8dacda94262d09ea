/- What Record writes Parse reads; Record and Parse at whatever entry and bytes. No statement of the seat. -/
import Derived.Test.YtpcipfnahknngaaGreatDoorKn2
namespace Go.Proofs.YtpcipfnahknngaaGreatDoor
open Go.RowKit Go.Maps

theorem takeR_putL (n : Nat) : ∀ (i acc : Nat) (r : List UInt8), n * 128 ^ i < 18446744073709551616 → (i = 0 ∨ n ≠ 0) → takeR (putL n ++ r) i acc = some (acc + n * 128 ^ i, i + (putL n).length) := by
  induction n using Nat.strongRecOn with
  | _ n ih =>
    intro i acc r hlt hi
    have hi9 : n ≠ 0 → i ≤ 9 := fun h0 => by
      refine Nat.le_of_not_lt fun h => ?_
      have h1 : 128 ^ 10 ≤ 128 ^ i := Nat.pow_le_pow_right (by decide) h
      have h2 : 128 ^ i ≤ n * 128 ^ i := Nat.le_mul_of_pos_left _ (by omega)
      have h3 : (128 ^ 10 : Nat) = 1180591620717411303424 := by decide
      omega
    have h9 : i = 9 → n ≤ 1 := fun h => by
      subst h
      have h3 : (128 ^ 9 : Nat) = 9223372036854775808 := by decide
      rw [h3] at hlt
      omega
    by_cases h : n < 128
    · rw [putL_small h]
      have e : (UInt8.ofNat n).toNat = n := by simp; omega
      simp only [List.cons_append, List.nil_append, takeR, e, List.length_singleton]
      rw [if_neg, if_pos h, Nat.mod_eq_of_lt h]
      rintro (⟨h1, h2⟩ | ⟨h1, h2⟩)
      · have := h9 h1; omega
      · rcases hi with hi | hi
        · omega
        · exact hi h2
    · rw [putL_big h]
      have e : (UInt8.ofNat (n % 128 + 128)).toNat = n % 128 + 128 := by simp; omega
      have hp : n / 128 * 128 ^ (i + 1) ≤ n * 128 ^ i := by
        rw [Nat.pow_succ, Nat.mul_comm (128 ^ i) 128, ← Nat.mul_assoc]
        exact Nat.mul_le_mul_right _ (Nat.div_mul_le_self n 128)
      simp only [List.cons_append, takeR, e, List.length_cons]
      rw [if_neg, if_neg (by omega), ih (n / 128) (by omega) (i + 1) _ r (by omega) (Or.inr (by omega))]
      · have e2 : (n % 128 + 128) % 128 = n % 128 := by omega
        rw [e2]
        have e3 : n * 128 ^ i = n % 128 * 128 ^ i + n / 128 * 128 ^ (i + 1) := by
          rw [Nat.pow_succ, Nat.mul_comm (128 ^ i) 128, ← Nat.mul_assoc, ← Nat.add_mul]
          congr 1
          omega
        rw [e3]
        congr 2 <;> omega
      · rintro (⟨h1, h2⟩ | ⟨h1, h2⟩)
        · have := h9 h1; omega
        · omega
theorem takeT_at (a c : List UInt8) (n : Nat) (hn : n < 18446744073709551616) : takeT (a ++ (putL n ++ c)) a.length = (n, a.length + (putL n).length, 0) := by
  unfold takeT
  rw [if_neg (by simp), List.drop_left' rfl, takeR_putL n 0 0 c (by omega) (Or.inl rfl)]
  simp
theorem parseT_recL (x : Ent) (hx : x.ok) (h0 : x.i ≠ 0) (hl : x.b.length ≤ 2000) : parseT (recL x) = some x := by
  obtain ⟨i, t, b⟩ := x
  obtain ⟨h1, h2, _⟩ := hx
  have e1 := takeT_at [] (putL t ++ (putL b.length ++ b)) i h1
  have e2 := takeT_at (putL i) (putL b.length ++ b) t h2
  have e3 := takeT_at (putL i ++ putL t) b b.length (by simp only at hl; omega)
  have r1 : recL ⟨i, t, b⟩ = [] ++ (putL i ++ (putL t ++ (putL b.length ++ b))) := by simp [recL, putText]
  have r2 : recL ⟨i, t, b⟩ = putL i ++ (putL t ++ (putL b.length ++ b)) := by simp [recL, putText]
  have r3 : recL ⟨i, t, b⟩ = (putL i ++ putL t) ++ (putL b.length ++ b) := by simp [recL, putText]
  rw [← r1] at e1
  rw [← r2] at e2
  rw [← r3] at e3
  simp only [List.length_nil, Nat.zero_add] at e1
  simp only [List.length_append] at e3
  have hlen : (recL ⟨i, t, b⟩).length = (putL i).length + (putL t).length + ((putL b.length).length + b.length) := by rw [r3]; simp; omega
  simp only at hl
  have e4 : takeTextT (recL ⟨i, t, b⟩) ((putL i).length + (putL t).length) = (b, (recL ⟨i, t, b⟩).length, 0) := by
    unfold takeTextT
    rw [e3]
    simp only
    rw [if_neg (by rw [hlen]; omega)]
    have hd : (recL ⟨i, t, b⟩).drop ((putL i).length + (putL t).length + (putL b.length).length) = b := by
      rw [r3, ← List.append_assoc]
      exact List.drop_left' (by simp; omega)
    rw [hd, List.take_of_length_le (Nat.le_refl _), hlen]
    congr 2
    omega
  unfold parseT
  rw [e1]
  simp only
  rw [e2]
  simp only
  rw [e4]
  simp only
  have h0' : i ≠ 0 := h0
  simp [h0', hl]

theorem record7_any (x : Ent) (u : Value) (w : World) (hx : x.ok) (hu : Bt w u x.b) :
    Calls Tryz.prog 7 #[.agg #[.int .u64 x.i, .int .u64 x.t, u]] w fun e w' => ∃ v, e = .returned (.tuple #[v, .int .i64 (recE x).1]) ∧ w'.ownsRow w.heap.size 5 1 v (recE x).2.length (bv (recE x).2) ∧ Below w.heap.size w w' := by
  by_cases h0 : x.i = 0
  · have e0 : recE x = (2, []) := by unfold recE; rw [if_pos h0]
    rw [e0, h0]
    refine (record7_arg x.t u w).mono ?_
    rintro e w' ⟨rfl, hb⟩
    exact ⟨_, rfl, World.ownsRow_nil _ _ _ _, hb⟩
  · by_cases hl : 2000 < x.b.length
    · have e0 : recE x = (3, []) := by unfold recE; rw [if_neg h0, if_pos hl]
      rw [e0]
      refine (record7_long x u w hu h0 hl).mono ?_
      rintro e w' ⟨rfl, hb⟩
      exact ⟨_, rfl, World.ownsRow_nil _ _ _ _, hb⟩
    · have e0 : recE x = (0, recL x) := by unfold recE; rw [if_neg h0, if_neg hl]
      rw [e0]
      exact record7 x u w hx hu h0 (by omega)

/-- which entry bytes are; the errno -/
def parZ (b : List UInt8) : Ent := (parseT b).getD ⟨0, 0, []⟩
def parE (b : List UInt8) : Nat := if (parseT b).isSome then 0 else 4
theorem parse9_z (v : Value) (b : List UInt8) (w : World) (hv : Bt w v b) (hb : b.length ≤ 140737488351232) :
    Calls Tryz.prog 9 #[v] w fun e w' => ∃ uo uc, e = .returned (.tuple #[.agg #[.int .u64 (parZ b).i, .int .u64 (parZ b).t, .slice uo (parZ b).b.length uc], .int .i64 (parE b)]) ∧ Bt w' (.slice uo (parZ b).b.length uc) (parZ b).b ∧ Below w.heap.size w w' := by
  cases hp : parseT b with
  | none =>
    have e1 : parZ b = ⟨0, 0, []⟩ := by unfold parZ; rw [hp]; rfl
    have e2 : parE b = 4 := by unfold parE; rw [hp]; rfl
    rw [e1, e2]
    refine (parse9_no v b w hv hb hp).mono ?_
    rintro e w' ⟨rfl, hb⟩
    exact ⟨none, 0, rfl, Bt.nil _, hb⟩
  | some x =>
    have e1 : parZ b = x := by unfold parZ; rw [hp]; rfl
    have e2 : parE b = 0 := by unfold parE; rw [hp]; rfl
    rw [e1, e2]
    refine (parse9_yes v b x w hv hb hp).mono ?_
    rintro e w' ⟨en, rfl, ⟨u, rfl, hu⟩, hb⟩
    have hu2 := hu
    obtain ⟨_, _, uo, uc, rfl, _⟩ := hu2
    exact ⟨uo, uc, rfl, hu, hb⟩
theorem rparse10_z (v : Value) (b : List UInt8) (w : World) (hv : Bt w v b) (hb : b.length ≤ 140737488351232) :
    Calls Tryz.prog 10 #[v] w fun e w' => ∃ uo uc, e = .returned (.tuple #[.agg #[.int .u64 (parZ b).i, .int .u64 (parZ b).t, .slice uo (parZ b).b.length uc], .int .i64 (parE b)]) ∧ Bt w' (.slice uo (parZ b).b.length uc) (parZ b).b ∧ Below w.heap.size w w' := by
  refine (rparse10 v b w hv hb).mono ?_
  rintro e w' ⟨hp, hb⟩
  rw [parse_same] at hp
  unfold ParO at hp
  cases hq : parseT b with
  | none =>
    have e1 : parZ b = ⟨0, 0, []⟩ := by unfold parZ; rw [hq]; rfl
    have e2 : parE b = 4 := by unfold parE; rw [hq]; rfl
    rw [hq] at hp
    rw [e1, e2]
    exact ⟨none, 0, hp, Bt.nil _, hb⟩
  | some x =>
    have e1 : parZ b = x := by unfold parZ; rw [hq]; rfl
    have e2 : parE b = 0 := by unfold parE; rw [hq]; rfl
    rw [hq] at hp
    rw [e1, e2]
    obtain ⟨u, rfl, hu⟩ := hp
    have hu2 := hu
    obtain ⟨_, _, uo, uc, rfl, _⟩ := hu2
    exact ⟨uo, uc, rfl, hu, hb⟩
theorem sameE_refl (x : Ent) : sameE x x = true := by simp [sameE]
end Go.Proofs.YtpcipfnahknngaaGreatDoor

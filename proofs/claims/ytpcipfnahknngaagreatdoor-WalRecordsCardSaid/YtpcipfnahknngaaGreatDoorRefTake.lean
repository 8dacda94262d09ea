/- Contract of the reference's Take. No statement of the seat. -/
import Derived.Test.YtpcipfnahknngaaGreatDoorRefPack
import Derived.Test.YtpcipfnahknngaaGreatDoorVal
namespace Go.Proofs.YtpcipfnahknngaaGreatDoor
open Go.RowKit

/-- modulo 2^64 -/
def m64 (n : Nat) : Nat := n % 18446744073709551616
theorem wrap_m64 (n : Nat) : IntKind.u64.wrap (n : Int) = (m64 n : Int) := by
  unfold m64
  simp only [IntKind.wrap_u64]
  omega
theorem m64_add (a b : Nat) : m64 (m64 a + m64 b) = m64 (a + b) := by unfold m64; omega
theorem m64_mul (a b : Nat) : m64 (a * m64 b) = m64 (a * b) := by unfold m64; rw [Nat.mul_mod_mod]
theorem m64_mul' (a b : Nat) : m64 (m64 a * b) = m64 (a * b) := by unfold m64; rw [Nat.mod_mul_mod]
theorem m64_step (r : List UInt8) (k x : Nat) (hx : x = (r.getD k 0).toNat) :
    IntKind.u64.wrap ((m64 (pv r k) : Int) + IntKind.u64.wrap ((x : Int) % 128 * (m64 (128 ^ k) : Int))) = (m64 (pv r (k + 1)) : Int) := by
  have e : pv r (k + 1) = pv r k + x % 128 * 128 ^ k := by rw [hx]; rfl
  have e1 : (x : Int) % 128 * (m64 (128 ^ k) : Int) = ((x % 128 * m64 (128 ^ k) : Nat) : Int) := by simp
  rw [e1, wrap_m64, m64_mul, ← Int.natCast_add, wrap_m64, m64_add, e]
theorem m64_weight (k : Nat) : IntKind.u64.wrap ((m64 (128 ^ k) : Int) * 128) = (m64 (128 ^ (k + 1)) : Int) := by
  have e1 : (m64 (128 ^ k) : Int) * 128 = ((m64 (128 ^ k) * 128 : Nat) : Int) := by simp
  rw [e1, wrap_m64, m64_mul', Nat.pow_succ]

/-- behind bytes of 128 or more -/
theorem take_run (r : List UInt8) : ∀ k, k ≤ 9 → k ≤ r.length → (∀ j (h : j < r.length), j < k → 128 ≤ (r[j]).toNat) → takeR r 0 0 = takeR (r.drop k) k (pv r k)
  | 0, _, _, _ => rfl
  | k + 1, h9, hk, hb => by
    rw [take_run r k (by omega) (by omega) (fun j h hj => hb j h (by omega)), takeR_step r k _ (by omega)]
    have hx := hb k (by omega) (by omega)
    rw [if_neg (by omega), if_neg (by omega)]
    have e : pv r (k + 1) = pv r k + (r[k]).toNat % 128 * 128 ^ k := by simp [pv, List.getD, show k < r.length by omega]
    rw [e]
theorem take_ten (r : List UInt8) (hk : 10 ≤ r.length) (hb : ∀ j (h : j < r.length), j < 10 → 128 ≤ (r[j]).toNat) : takeR r 0 0 = none := by
  rw [take_run r 9 (by omega) (by omega) (fun j h hj => hb j h (by omega)), takeR_step r 9 _ (by omega), if_pos]
  have := hb 9 (by omega) (by omega)
  omega
/-- .. a byte below 128, and what Put says is the same: taken -/
theorem take_yes (r : List UInt8) (k : Nat) (hk : k < r.length) (hk9 : k ≤ 9) (hb : ∀ j (h : j < r.length), j < k → 128 ≤ (r[j]).toNat) (hx : (r[k]).toNat < 128)
    (he : putL (m64 (pv r (k + 1))) = r.take (k + 1)) : takeR r 0 0 = some (m64 (pv r (k + 1)), k + 1) := by
  rw [take_run r k hk9 (by omega) hb, takeR_step r k _ hk]
  by_cases hbad : (k = 9 ∧ 1 < (r[k]).toNat) ∨ (0 < k ∧ (r[k]).toNat = 0)
  · exact absurd he (take_bad r k hk hk9 hbad hx)
  · have hg := take_good r k hk hk9 hb hx hbad
    rw [if_neg hbad, if_pos hx]
    have e : pv r (k + 1) = pv r k + (r[k]).toNat % 128 * 128 ^ k := by simp [pv, List.getD, hk]
    have e2 : m64 (pv r (k + 1)) = pv r (k + 1) := Nat.mod_eq_of_lt hg.1
    rw [e2, e]
theorem take_no (r : List UInt8) (k : Nat) (hk : k < r.length) (hk9 : k ≤ 9) (hb : ∀ j (h : j < r.length), j < k → 128 ≤ (r[j]).toNat) (hx : (r[k]).toNat < 128)
    (he : putL (m64 (pv r (k + 1))) ≠ r.take (k + 1)) : takeR r 0 0 = none := by
  rw [take_run r k hk9 (by omega) hb, takeR_step r k _ hk]
  by_cases hbad : (k = 9 ∧ 1 < (r[k]).toNat) ∨ (0 < k ∧ (r[k]).toNat = 0)
  · rw [if_pos hbad]
  · have hg := take_good r k hk hk9 hb hx hbad
    have e2 : m64 (pv r (k + 1)) = pv r (k + 1) := Nat.mod_eq_of_lt hg.1
    rw [e2] at he
    exact absurd hg.2 he

theorem tx_toList (l : List UInt8) : (tx l).toList = l := by
  have : ∀ s : ByteArray, s.toList = s.data.toList := by
    intro s
    exact ByteArray.toList_eq s
  rw [this, tx_list]

set_option maxRecDepth 100000 in
set_option maxHeartbeats 1600000 in
theorem rtake41 (v : Value) (b : List UInt8) (at_ : Nat) (w : World) (hv : Bt w v b) (hb : b.length ≤ 140737488351232) (hat : at_ ≤ 140737488351232) :
    Calls Tryz.prog 41 #[v, .int .i64 at_] w fun e w' => e = .returned (.tuple #[.int .u64 (takeT b at_).1, .int .i64 (takeT b at_).2.1, .int .i64 (takeT b at_).2.2]) ∧ Below w.heap.size w w' := by
  have hv0 := hv
  obtain ⟨y1, y2, ao, cap, rfl, y3, y4, y7, y5⟩ := hv0
  unfold maxLen at y4
  clear y1 y2 y7
  by_cases hgt : b.length < at_
  · have ht : takeT b at_ = (0, 0, 2) := by unfold takeT; rw [if_pos hgt]
    rw [ht]
    clear hv
    go_enter Tryz.func41, Tryz.ntmps41
    go_wp2
    go_ret3
    exact ⟨rfl, Below.refl _ _⟩
  by_cases heq : b.length = at_
  · have ht : takeT b at_ = (0, 0, 4) := by
      unfold takeT
      rw [if_neg (by omega), List.drop_of_length_le (by omega)]
      rfl
    rw [ht]
    have hle : b.length ≤ at_ := by omega
    have hge : at_ ≤ b.length := by omega
    clear y5 heq hv
    go_enter Tryz.func41, Tryz.ntmps41
    go_wp2
    refine wp_loop_rounds 1 ?_
    rw [rounds_succ]
    go_wp2
    go_ret3
    exact ⟨rfl, Below.refl _ _⟩
  · obtain ⟨g, off, rfl, hc⟩ := y5.resolve_left (by omega)
    have hlt : at_ < b.length := by omega
    obtain ⟨r, hr⟩ : ∃ r, r = b.drop at_ := ⟨_, rfl⟩
    have hrl : r.length = b.length - at_ := by rw [hr]; simp
    have hcell : ∀ k, (h : k < r.length) → w.cell? ⟨g, off + (at_ + k), none⟩ = some (.int .u8 (r[k]).toNat) := by
      intro k h
      rw [hc (at_ + k) _ (bv_get b (at_ + k) (by omega))]
      simp [hr]
    have HC := Lib.hid hcell
    have ht : takeT b at_ = (match takeR r 0 0 with | none => (0, 0, 4) | some (n, k) => (n, at_ + k, 0)) := by
      unfold takeT
      rw [if_neg hgt, ← hr]
      cases takeR r 0 0 <;> rfl
    have HT := Lib.hid ht
    have HRL := Lib.hid hrl
    have HRR := Lib.hid hr
    have HV := Lib.hid hv
    have hd : decide (b.length < at_) = false := by simp; omega
    have hrl2 : r.length ≤ b.length - at_ := by omega
    have hrl3 : b.length - at_ ≤ r.length := by omega
    clear hc hcell ht hr hrl heq hgt hv
    go_enter Tryz.func41, Tryz.ntmps41
    go_wp2
    go_loopg [4, 5, 6, 7, 8, 9] r.length (fun gk _ _ _ n m i wr => w = wr ∧ ∃ k : Nat, gk = r.length - k ∧ k ≤ r.length ∧ k ≤ 10 ∧ i = .int .i64 ((at_ + k : Nat)) ∧ n = .int .u64 (m64 (pv r k)) ∧ m = .int .u64 (m64 (128 ^ k)) ∧ ∀ j (h : j < r.length), j < k → 128 ≤ (r[j]).toNat)
    case atStart => exact ⟨rfl, 0, rfl, Nat.zero_le _, by omega, rfl, rfl, rfl, fun j h hj => by omega⟩
    case round =>
      obtain ⟨rfl, k, rfl, hk, hk9, rfl, rfl, rfl, hbig⟩ := hrel
      have HBG := Lib.hid hbig
      clear hbig
      by_cases hlt2 : k < r.length
      · by_cases hk10 : k < 10
        · have hcl := HC.out k hlt2
          obtain ⟨x, hx⟩ : ∃ x : Nat, x = (r[k]).toNat := ⟨_, rfl⟩
          have hx256 : x < 256 := by rw [hx]; exact (r[k]).toNat_lt
          have HX := Lib.hid hx
          rw [← hx] at hcl
          clear hx
          by_cases hx128 : x < 128
          · have hB : Bt w (.slice (some ⟨g, off + at_, none⟩) (k + 1) (cap - at_)) (r.take (k + 1)) := by
              have hlen : (r.take (k + 1)).length = k + 1 := by rw [List.length_take]; omega
              refine ⟨by simp, bv_one _, some ⟨g, off + at_, none⟩, cap - at_, by rw [hlen], by omega, by unfold maxLen; omega, (fun h => by cases h), Or.inr ⟨g, off + at_, rfl, fun j u hj => ?_⟩⟩
              have hjn : j < k + 1 := by
                have := (List.getElem?_eq_some_iff.1 hj).1
                rw [bv_length, hlen] at this
                exact this
              rw [bv_get _ j (by omega)] at hj
              cases hj
              have := HC.out j (by omega)
              rw [Nat.add_assoc, this]
              simp
            have HB := Lib.hid hB
            have hc0 := conv_str w.drew _ _ (hB.below ((Below.refl _ _).drew) (Nat.le_refl _))
            have HM : Hid (IntKind.u64.wrap ((m64 (pv r k) : Int) + IntKind.u64.wrap ((x : Int) % 128 * (m64 (128 ^ k) : Int))) = (m64 (pv r (k + 1)) : Int)) :=
              Lib.hid (m64_step r k x (by rw [HX.out]; simp [List.getD, hlt2]))
            clear hB
            have hsl := fun W => cut_run W 23 5 Tryz.underlying23 Tryz.sizeOf5 g off b.length cap .i64 .i64 (at_ : Int) ((at_ : Int) + (k : Int) + 1) at_ (at_ + (k + 1)) rfl (by omega) (by omega) (by omega) (by omega)
            simp only [Nat.add_sub_cancel_left] at hsl
            have hwr : IntKind.i64.wrap ((at_ : Int) + (k : Int) + 1) = (at_ : Int) + (k : Int) + 1 := IntWalk.i64_in _ (by omega)
            go_wp2
            go_region_with (go_at_call 38; go_must (refine (rput38 9 (m64 (pv r (k + 1))) _ _ HM.out (Nat.lt_of_lt_of_le (Nat.mod_lt _ (by decide)) (by decide)) (by omega) (Nat.mod_lt _ (by decide))).mono ?_; rintro e w1 ⟨v1, rfl, hown1, hbel1⟩; obtain ⟨ao1, cap1, rfl⟩ := own_shape hown1; have hcs := conv_str w1 _ _ (Bt.of_own hown1); have hcs2 := conv_str w1 _ _ (HB.out.below (((Below.refl w.heap.size w).drew).trans (hbel1.mono (Nat.le_refl _))) (Nat.le_refl _))))
            all_goals go_wp2
            all_goals first
              | (have he : ((tx (putL (m64 (pv r (k + 1))))).toList == (tx (List.take (k + 1) r)).toList) = true := (by assumption)
                 rw [tx_toList, tx_toList, beq_iff_eq] at he
                 have ht : takeT b at_ = (m64 (pv r (k + 1)), at_ + (k + 1), 0) := by rw [HT.out, take_yes r k hlt2 (by omega) HBG.out (by rw [← HX.out]; exact hx128) he]
                 rw [ht, ← HM.out]
                 go_ret3
                 exact ⟨by go_num, by first | exact ((Below.refl w.heap.size w).drew).trans (hbel1.mono (Nat.le_refl _)) | exact (Below.refl w.heap.size w).drew⟩)
              | (have he : ((tx (putL (m64 (pv r (k + 1))))).toList == (tx (List.take (k + 1) r)).toList) = false := (by assumption)
                 rw [tx_toList, tx_toList, beq_eq_false_iff_ne] at he
                 have ht : takeT b at_ = (0, 0, 4) := by rw [HT.out, take_no r k hlt2 (by omega) HBG.out (by rw [← HX.out]; exact hx128) he]
                 rw [ht]
                 go_ret3
                 exact ⟨rfl, ((Below.refl w.heap.size w).drew).trans (hbel1.mono (Nat.le_refl _))⟩)
          · go_wp2
            go_roundg (r.length - (k + 1))
            case measure => omega
            case rel =>
              refine ⟨rfl, k + 1, rfl, by omega, by omega, by go_num, ?_, ?_, ?_⟩
              · rw [m64_step r k x (by rw [HX.out]; simp [List.getD, hlt2])]
              · rw [m64_weight]
              · intro j hj hjk
                rcases Nat.lt_or_ge j k with h | h
                · exact HBG.out j hj h
                · have e : j = k := by omega
                  subst e
                  rw [← HX.out]; omega
        · have ht : takeT b at_ = (0, 0, 4) := by rw [HT.out, take_ten r (by omega) (fun j h hj => HBG.out j h (by omega))]
          have HTT := Lib.hid ht
          clear ht
          go_wp2
          rw [HTT.out]
          go_ret3
          exact ⟨rfl, Below.refl _ _⟩
      · have ht : takeT b at_ = (0, 0, 4) := by
          rw [HT.out]
          rcases Nat.lt_or_ge k 10 with h | h
          · rw [take_run r k (by omega) hk HBG.out, List.drop_of_length_le (by omega)]
            rfl
          · rw [take_ten r (by omega) (fun j h2 hj => HBG.out j h2 (by omega))]
        have HTT := Lib.hid ht
        clear ht
        go_wp2
        rw [HTT.out]
        go_ret3
        exact ⟨rfl, Below.refl _ _⟩
end Go.Proofs.YtpcipfnahknngaaGreatDoor

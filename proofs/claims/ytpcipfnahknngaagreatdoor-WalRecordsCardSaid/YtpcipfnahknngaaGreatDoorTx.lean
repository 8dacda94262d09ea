/- Contracts of pack.TakeText, PutText, and of the reference's. No statement of the seat. -/
import Derived.Test.YtpcipfnahknngaaGreatDoorPack
namespace Go.Proofs.YtpcipfnahknngaaGreatDoor
open Go.RowKit

theorem takeR_le : ∀ (r : List UInt8) (i n m k : Nat), takeR r i n = some (m, k) → i < k ∧ k ≤ i + r.length
  | [], _, _, _, _, h => by simp [takeR] at h
  | x :: r, i, n, m, k, h => by
    rw [takeR] at h
    split at h
    · cases h
    split at h
    · cases h
      simp
    · have := takeR_le r (i + 1) _ m k h
      simp
      omega

/-- what a Take that went well tells of places -/
theorem takeT_ok {b : List UInt8} {at_ n nx : Nat} (h : takeT b at_ = (n, nx, 0)) : at_ < nx ∧ nx ≤ b.length := by
  unfold takeT at h
  split at h
  · cases h
  · cases hr : takeR (b.drop at_) 0 0 with
    | none => rw [hr] at h; cases h
    | some p =>
      obtain ⟨m, k⟩ := p
      rw [hr] at h
      cases h
      have := takeR_le _ _ _ _ _ hr
      simp at this
      omega
theorem takeT_bad {b : List UInt8} {at_ n nx e : Nat} (h : takeT b at_ = (n, nx, e)) (he : e ≠ 0) : n = 0 ∧ nx = 0 ∧ (e = 2 ∨ e = 4) := by
  unfold takeT at h
  split at h
  · cases h; simp
  · cases hr : takeR (b.drop at_) 0 0 with
    | none => rw [hr] at h; cases h; simp
    | some p => rw [hr] at h; cases h; omega

/-- what TakeText answers: the text, the next place, the errno -/
def takeTextT (b : List UInt8) (at_ : Nat) : List UInt8 × Nat × Nat :=
  match takeT b at_ with
  | (n, nx, 0) => if 4096 < n ∨ b.length - nx < n then ([], 0, 4) else ((b.drop nx).take n, nx + n, 0)
  | (_, _, e + 1) => ([], 0, e + 1)

set_option maxRecDepth 100000 in
theorem none80 (e : Int) (w : World) : Calls Tryz.prog 80 #[.int .i64 e] w fun r w' => r = .returned (.tuple #[.string (tx []), .int .i64 0, .int .i64 e]) ∧ w' = w := by
  go_enter Tryz.func80, Tryz.ntmps80
  go_wp2
  go_ret3
  exact ⟨rfl, rfl⟩

set_option maxRecDepth 100000 in
set_option maxHeartbeats 1600000 in
theorem taketext40 (v : Value) (b : List UInt8) (at_ : Nat) (w : World) (hv : Bt w v b) (hb : b.length ≤ 140737488351232) (hat : at_ ≤ 140737488351232) :
    Calls Tryz.prog 40 #[v, .int .i64 at_] w fun e w' => e = .returned (.tuple #[.string (tx (takeTextT b at_).1), .int .i64 (takeTextT b at_).2.1, .int .i64 (takeTextT b at_).2.2]) ∧ w' = w := by
  have hc := take39 v b at_ w hv hb hat
  have hv0 := hv
  obtain ⟨y1, y2, ao, cap, rfl, y3, y4, y7, y5⟩ := hv0
  unfold maxLen at y4
  clear y1 y2
  obtain ⟨n, nx, e, ht⟩ : ∃ n nx e, takeT b at_ = (n, nx, e) := ⟨_, _, _, rfl⟩
  rw [ht] at hc
  cases e with
  | succ e =>
    have hx : takeTextT b at_ = ([], 0, e + 1) := by unfold takeTextT; rw [ht]
    have hb2 := takeT_bad ht (by omega)
    rw [hx]
    have hne : ((((e + 1 : Nat) : Int)) != 0) = true := by simp; omega
    have HC := Lib.hid hc
    clear hc hv ht y5 y7
    go_enter Tryz.func40, Tryz.ntmps40
    go_wp2_with (first | (go_at_call 39; refine HC.out.mono ?_; rintro e w' ⟨rfl, rfl⟩) | (go_at_call 80; refine (none80 _ _).mono ?_; rintro e w' ⟨rfl, rfl⟩))
    go_ret3
    exact ⟨rfl, rfl⟩
  | zero =>
    obtain ⟨hlt, hnx⟩ := takeT_ok ht
    have hx : takeTextT b at_ = if 4096 < n ∨ b.length - nx < n then ([], 0, 4) else ((b.drop nx).take n, nx + n, 0) := by unfold takeTextT; rw [ht]
    have HX := Lib.hid hx
    have HC := Lib.hid hc
    clear hc ht hx
    obtain ⟨g, off, rfl, hcell⟩ := y5.resolve_left (by omega)
    by_cases h1 : 4096 < n
    · have HX2 := HX.out
      rw [if_pos (Or.inl h1)] at HX2
      rw [HX2]
      clear HX2 hcell hv
      go_enter Tryz.func40, Tryz.ntmps40
      go_wp2_with (first | (go_at_call 39; refine HC.out.mono ?_; rintro e w' ⟨rfl, rfl⟩) | (go_at_call 80; refine (none80 _ _).mono ?_; rintro e w' ⟨rfl, rfl⟩))
      go_ret3
      exact ⟨rfl, rfl⟩
    by_cases h2 : b.length - nx < n
    · have HX2 := HX.out
      rw [if_pos (Or.inr h2)] at HX2
      rw [HX2]
      clear HX2 hcell hv
      go_enter Tryz.func40, Tryz.ntmps40
      go_wp2_with (first | (go_at_call 39; refine HC.out.mono ?_; rintro e w' ⟨rfl, rfl⟩) | (go_at_call 80; refine (none80 _ _).mono ?_; rintro e w' ⟨rfl, rfl⟩))
      go_ret3
      exact ⟨rfl, rfl⟩
    · have HX2 := HX.out
      rw [if_neg (by omega)] at HX2
      rw [HX2]
      have h3 : (n : Int) ≤ 4096 := by omega
      have h4 : (n : Int) ≤ (b.length : Int) - (nx : Int) := by omega
      rcases Nat.lt_or_ge nx cap with hcap | hcap
      · have hne : ¬ cap = nx := by omega
        have hB : Bt w (.slice (some ⟨g, off + nx, none⟩) n (cap - nx)) ((b.drop nx).take n) := by
          have hlen : ((b.drop nx).take n).length = n := by simp; omega
          refine ⟨by simp, bv_one _, some ⟨g, off + nx, none⟩, cap - nx, by rw [hlen], by omega, by unfold maxLen; omega, (fun h => by cases h), Or.inr ⟨g, off + nx, rfl, fun j u hj => ?_⟩⟩
          have hjn : j < n := by
            have := (List.getElem?_eq_some_iff.1 hj).1
            rw [bv_length, hlen] at this
            exact this
          rw [bv_get _ j (by omega)] at hj
          cases hj
          have := hcell (nx + j) _ (bv_get b (nx + j) (by omega))
          rw [Nat.add_assoc, this]
          simp
        have hcs := conv_str w _ _ hB
        clear HX2 hcell hv hB
        go_enter Tryz.func40, Tryz.ntmps40
        go_wp2_with (first | (go_at_call 39; refine HC.out.mono ?_; rintro e w' ⟨rfl, rfl⟩) | (go_at_call 80; refine (none80 _ _).mono ?_; rintro e w' ⟨rfl, rfl⟩))
        go_ret3
        exact ⟨rfl, rfl⟩
      · have hn0 : n = 0 := by omega
        have hcn : cap = nx := by omega
        subst hn0 hcn
        have hcs := conv_str w (.slice (some ⟨g, off, none⟩) 0 0) [] ⟨rfl, bv_one _, some ⟨g, off, none⟩, 0, rfl, Nat.le_refl _, Nat.zero_le _, (fun h => by cases h), Or.inl rfl⟩
        have hb2 : ((b.drop cap).take 0) = [] := rfl
        rw [hb2]
        clear HX2 hcell hv
        go_enter Tryz.func40, Tryz.ntmps40
        go_wp2_with (first | (go_at_call 39; refine HC.out.mono ?_; rintro e w' ⟨rfl, rfl⟩) | (go_at_call 80; refine (none80 _ _).mono ?_; rintro e w' ⟨rfl, rfl⟩))
        go_ret3
        exact ⟨rfl, rfl⟩

end Go.Proofs.YtpcipfnahknngaaGreatDoor

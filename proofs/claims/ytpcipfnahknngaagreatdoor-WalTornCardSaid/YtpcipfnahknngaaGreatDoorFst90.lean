/- Contract of frame.First. No statement of the seat. -/
import Derived.Test.YtpcipfnahknngaaGreatDoorRga
import Derived.BigQuiet
import Derived.Deep.QuietTactic
import Derived.Deep.RegionLaw
import Derived.Deep.RegionHeld3
import Derived.IntWalk
namespace Go.Proofs.YtpcipfnahknngaaGreatDoor
open Go.RowKit

theorem taketext40i (v : Value) (b : List UInt8) (a : Int) (at_ : Nat) (ha : a = at_) (w : World) (hv : Bt w v b) (hb : b.length ≤ 140737488351232) (hat : at_ ≤ 140737488351232) :
    Calls Tryz.prog 40 #[v, .int .i64 a] w fun e w' => e = .returned (.tuple #[.string (tx (takeTextT b at_).1), .int .i64 (takeTextT b at_).2.1, .int .i64 (takeTextT b at_).2.2]) ∧ w' = w := by
  subst ha
  exact taketext40 v b at_ w hv hb hat

/-- a cut of bytes -/
theorem Bt.cut {w : World} {g off n cap : Nat} {b : List UInt8} (h : Bt w (.slice (some ⟨g, off, none⟩) n cap) b) (i j : Nat) (hij : i ≤ j) (hj : j ≤ b.length) (hi : i < cap) :
    Bt w (.slice (some ⟨g, off + i, none⟩) (j - i) (cap - i)) ((b.drop i).take (j - i)) := by
  obtain ⟨h1, h2, ao, cap', hv, h3, h4, h6, h5⟩ := h
  cases hv
  have hl : ((b.drop i).take (j - i)).length = j - i := by simp; omega
  refine ⟨by simp, bv_one _, some ⟨g, off + i, none⟩, cap - i, by rw [hl], by rw [hl]; omega, by omega, (fun h => by cases h), ?_⟩
  rw [hl]
  rcases h5 with h5 | ⟨g', off', e, hc⟩
  · exact Or.inl (by omega)
  · cases e
    refine Or.inr ⟨g, off + i, rfl, fun k u hk => ?_⟩
    have hkl : k < j - i := by
      have := (List.getElem?_eq_some_iff.1 hk).1
      rw [bv_length, hl] at this
      exact this
    rw [bv_get _ k (by omega)] at hk
    cases hk
    have := hc (i + k) _ (bv_get b (i + k) (by omega))
    rw [Nat.add_assoc, this]
    simp

theorem takeTextT_le {b : List UInt8} {at_ nx : Nat} {s : List UInt8} (h : takeTextT b at_ = (s, nx, 0)) : at_ < nx ∧ nx ≤ b.length ∧ s.length ≤ 4096 := by
  unfold takeTextT at h
  obtain ⟨n, k, e, ht⟩ : ∃ n k e, takeT b at_ = (n, k, e) := ⟨_, _, _, rfl⟩
  rw [ht] at h
  cases e with
  | succ e => cases h
  | zero =>
    obtain ⟨h1, h2⟩ := takeT_ok ht
    simp only at h
    split at h
    · cases h
    · cases h
      simp
      omega

theorem firstT_le {b r : List UInt8} {m : Nat} (h : firstT b = some (r, m)) : 5 < m ∧ m ≤ b.length ∧ r.length ≤ 4096 := by
  unfold firstT at h
  split at h
  · obtain ⟨s, nx, e, ht⟩ : ∃ s nx e, takeTextT b 1 = (s, nx, e) := ⟨_, _, _, rfl⟩
    rw [ht] at h
    cases e with
    | succ e => cases h
    | zero =>
      obtain ⟨h1, h2, h3⟩ := takeTextT_le ht
      simp only at h
      split at h
      · cases h
      · rename_i hn
        cases h
        have := not_or.1 hn
        omega
  · cases h

theorem firstT_cases {b : List UInt8} (hf : firstT b = none) : b.head? ≠ some 90 ∨ (∃ s nx e, takeTextT b 1 = (s, nx, e + 1)) ∨
    (∃ s nx, takeTextT b 1 = (s, nx, 0) ∧ b.length - nx < 4) ∨ (∃ s nx, takeTextT b 1 = (s, nx, 0) ∧ ¬ b.length - nx < 4 ∧ (b.drop nx).take 4 ≠ fourN ((b.drop 1).take (nx - 1))) := by
  unfold firstT at hf
  split at hf
  · obtain ⟨s, nx, e, ht⟩ : ∃ s nx e, takeTextT b 1 = (s, nx, e) := ⟨_, _, _, rfl⟩
    rw [ht] at hf
    cases e with
    | succ e => exact Or.inr (Or.inl ⟨s, nx, e, ht⟩)
    | zero =>
      simp only at hf
      split at hf
      · rename_i h
        by_cases h4 : b.length - nx < 4
        · exact Or.inr (Or.inr (Or.inl ⟨s, nx, ht, h4⟩))
        · exact Or.inr (Or.inr (Or.inr ⟨s, nx, ht, h4, h.resolve_left h4⟩))
      · cases hf
  · exact Or.inl (by assumption)
theorem firstT_some {b r : List UInt8} {m : Nat} (hf : firstT b = some (r, m)) : b.head? = some 90 ∧ ∃ nx, m = nx + 4 ∧ takeTextT b 1 = (r, nx, 0) ∧ ¬ b.length - nx < 4 ∧ (b.drop nx).take 4 = fourN ((b.drop 1).take (nx - 1)) := by
  unfold firstT at hf
  split at hf
  · rename_i h0
    obtain ⟨s, nx, e, ht⟩ : ∃ s nx e, takeTextT b 1 = (s, nx, e) := ⟨_, _, _, rfl⟩
    rw [ht] at hf
    cases e with
    | succ e => cases hf
    | zero =>
      simp only at hf
      split at hf
      · cases hf
      · rename_i h
        cases hf
        obtain ⟨h1, h2⟩ := not_or.1 h
        exact ⟨h0, nx, rfl, ht, h1, Classical.not_not.1 h2⟩
  · cases hf

set_option maxRecDepth 100000 in
set_option maxHeartbeats 1600000 in
theorem first90_mark (v : Value) (b : List UInt8) (w : World) (hv : Bt w v b) (hf : b.head? ≠ some 90) :
    Calls Tryz.prog 90 #[v] w fun e w' => e = .returned (.tuple #[.slice none 0 0, .int .i64 0, .bool false]) ∧ w' = w := by
  obtain ⟨y1, y2, ao, cap, rfl, y3, y4, y7, y5⟩ := hv
  unfold maxLen at y4
  clear y1 y2
  by_cases h0 : b.length = 0
  · have hb0 : b = [] := List.eq_nil_of_length_eq_zero h0
    subst hb0
    clear h0 y5 y7 hf
    go_enter Tryz.func90, Tryz.ntmps90
    go_wp2
    go_ret3
    exact ⟨rfl, rfl⟩
  · obtain ⟨g, off, rfl, hcell⟩ := y5.resolve_left h0
    obtain ⟨x, c0, h90⟩ : ∃ x : Nat, w.cell? ⟨g, off, none⟩ = some (.int .u8 x) ∧ x ≠ 90 := by
      have c0 := hcell 0 _ (bv_get b 0 (by omega))
      rw [Nat.add_zero] at c0
      refine ⟨_, c0, fun h => hf ?_⟩
      have e : b[0]'(by omega) = 90 := UInt8.toNat_inj.1 h
      cases b with
      | nil => simp at h0
      | cons x t => simpa using e
    have hne : (((b.length : Nat) : Int) == 0) = false := by rw [beq_eq_false_iff_ne]; omega
    have hlt : (0 : Int) < (b.length : Int) := by omega
    have h91 : ((x : Int) != 90) = true := by rw [bne_iff_ne]; omega
    clear hcell y7 y5 hf h0 h90
    go_enter Tryz.func90, Tryz.ntmps90
    go_wp2
    go_ret3
    exact ⟨rfl, rfl⟩

/-- the first byte -/
theorem mark_cell {w : World} {v : Value} {b : List UInt8} (hv : Bt w v b) (hf : b.head? = some 90) : 0 < b.length ∧ ∃ g off cap, v = .slice (some ⟨g, off, none⟩) b.length cap ∧ b.length ≤ cap ∧ cap ≤ maxLen ∧ w.cell? ⟨g, off, none⟩ = some (.int .u8 90) := by
  obtain ⟨y1, y2, ao, cap, rfl, y3, y4, y7, y5⟩ := hv
  have h0 : b.length ≠ 0 := fun h => by
    have := List.eq_nil_of_length_eq_zero h
    subst this
    cases hf
  obtain ⟨g, off, rfl, hcell⟩ := y5.resolve_left h0
  refine ⟨by omega, g, off, cap, rfl, y3, y4, ?_⟩
  have c0 := hcell 0 _ (bv_get b 0 (by omega))
  rw [Nat.add_zero] at c0
  rw [c0]
  cases b with
  | nil => cases hf
  | cons x t =>
    simp at hf
    subst hf
    rfl

set_option maxRecDepth 100000 in
set_option maxHeartbeats 1600000 in
theorem first90_text (v : Value) (b : List UInt8) (s : List UInt8) (nx e : Nat) (w : World) (hv : Bt w v b) (hb : b.length ≤ 140737488351232) (hf : b.head? = some 90) (ht : takeTextT b 1 = (s, nx, e)) (hbad : e ≠ 0 ∨ b.length - nx < 4) (hnx : nx ≤ b.length) :
    Calls Tryz.prog 90 #[v] w fun e w' => e = .returned (.tuple #[.slice none 0 0, .int .i64 0, .bool false]) ∧ ∃ q, w' = w.drewN q := by
  have hc := taketext40i v b 1 1 rfl w hv hb (by omega)
  rw [ht] at hc
  obtain ⟨h0, g, off, cap, rfl, y3, y4, c0⟩ := mark_cell hv hf
  unfold maxLen at y4
  have hne : (((b.length : Nat) : Int) == 0) = false := by rw [beq_eq_false_iff_ne]; omega
  have hlt : (0 : Int) < (b.length : Int) := by omega
  have HC := Lib.hid hc
  have HV := Lib.hid hv
  clear hc hf ht hv
  by_cases he : e = 0
  · subst he
    have h4 : b.length - nx < 4 := hbad.resolve_left (fun h => h rfl)
    have hd : decide ((b.length : Int) - (nx : Int) < 4) = true := decide_eq_true (by omega)
    clear hbad
    go_enter Tryz.func90, Tryz.ntmps90
    go_wp2_with (go_at_call 40; refine HC.out.mono ?_; rintro e w' ⟨rfl, rfl⟩)
    go_quiet (fail)
    go_wp2
    go_ret3
    exact ⟨rfl, _, rfl⟩
  · have hne2 : (((e : Nat) : Int) != 0) = true := by rw [bne_iff_ne]; omega
    clear hbad he
    go_enter Tryz.func90, Tryz.ntmps90
    go_wp2_with (go_at_call 40; refine HC.out.mono ?_; rintro e w' ⟨rfl, rfl⟩)
    go_quiet (fail)
    go_wp2
    go_ret3
    exact ⟨rfl, _, rfl⟩

set_option maxRecDepth 100000 in
set_option maxHeartbeats 1600000 in
theorem first90_four (v : Value) (b : List UInt8) (s : List UInt8) (nx : Nat) (w : World) (hv : Bt w v b) (hb : b.length ≤ 140737488351232) (hf : b.head? = some 90) (ht : takeTextT b 1 = (s, nx, 0)) (h4 : ¬ b.length - nx < 4)
    (hbad : (b.drop nx).take 4 ≠ fourN ((b.drop 1).take (nx - 1))) :
    Calls Tryz.prog 90 #[v] w fun e w' => e = .returned (.tuple #[.slice none 0 0, .int .i64 0, .bool false]) ∧ Below w.heap.size w w' := by
  have hc := taketext40i v b 1 1 rfl w hv hb (by omega)
  rw [ht] at hc
  obtain ⟨hn1, hn2, _⟩ := takeTextT_le ht
  obtain ⟨h0, g, off, cap, rfl, y3, y4, c0⟩ := mark_cell hv hf
  unfold maxLen at y4
  have hne : (((b.length : Nat) : Int) == 0) = false := by rw [beq_eq_false_iff_ne]; omega
  have hlt : (0 : Int) < (b.length : Int) := by omega
  have hd : decide ((b.length : Int) - (nx : Int) < 4) = false := decide_eq_false (by omega)
  have hd2 : ¬ ((b.length : Int) - (nx : Int) < 4) := by omega
  have hcn : ¬ cap = nx := by omega
  have hc1 : ¬ cap = 1 := by omega
  have hB1 := hv.cut nx (nx + 4) (by omega) (by omega) (by omega)
  have hB2 := hv.cut 1 nx (by omega) (by omega) (by omega)
  rw [Nat.add_sub_cancel_left] at hB1
  have hsm : sameB ((b.drop nx).take 4) (fourN ((b.drop 1).take (nx - 1))) = false := by
    unfold sameB
    rw [beq_eq_false_iff_ne]
    exact hbad
  have hl2 : ((b.drop 1).take (nx - 1)).length ≤ 140737488351232 := by simp; omega
  have HS := Lib.hid hsm
  have HC := Lib.hid hc
  have H1 := Lib.hid hB1
  have H2 := Lib.hid hB2
  have HL := Lib.hid hl2
  clear hc hf ht hv hB1 hB2 hsm hbad hl2 h4
  go_enter Tryz.func90, Tryz.ntmps90
  go_wp2_with (go_at_call 40; refine HC.out.mono ?_; rintro e w1 ⟨rfl, hw1⟩; have hw2 := hw1.symm; subst hw2)
  have s1 : IntKind.i64.wrap ((b.length : Int) - (nx : Int)) = (b.length : Int) - (nx : Int) := IntWalk.i64_in _ (by omega)
  have s2 : IntKind.i64.wrap ((nx : Int) + 4) = (nx : Int) + 4 := IntWalk.i64_in _ (by omega)
  have s3 : (0 : Int) ≤ (nx : Int) + 4 := by omega
  have s4 : ((nx : Int) + 4).toNat = nx + 4 := by omega
  have s5 : nx + 4 - nx = 4 := by omega
  have t1 : (0 : Int) ≤ (nx : Int) := by omega
  have t2 : (nx : Int) ≤ (nx : Int) + 4 := by omega
  have t3 : (nx : Int) + 4 ≤ (cap : Int) := by omega
  have t4 : (1 : Int) ≤ (nx : Int) := by omega
  have t5 : (nx : Int) ≤ (cap : Int) := by omega
  go_region_held3 (fun W => Below w.heap.size w W) (first | exact (Below.refl _ _).drew | exact hb3 | exact hb2)
    (first
      | (go_at_call 111; (with_reducible refine (four111 _ ((b.drop 1).take (nx - 1)) _ (H2.out.below (Below.refl _ _).drew (Nat.le_refl _)) HL.out).mono ?_); rintro e w2 ⟨g2, rfl, hB3, b2⟩; have hb2 : Below w.heap.size w w2 := (Below.refl _ _).drew.trans b2)
      | (go_at_call 57; (with_reducible refine (equal57 _ _ ((b.drop nx).take 4) (fourN ((b.drop 1).take (nx - 1))) _ (H1.out.below hb2 (Nat.le_refl _)) hB3).mono ?_); rw [HS.out]; rintro e w3 ⟨rfl, q3, rfl⟩; have hb3 : Below w.heap.size w (w2.drewN q3) := hb2.trans ⟨rfl, rfl, rfl, Nat.le_refl _, fun _ _ => rfl⟩))
  all_goals (
    go_wp2
    go_ret3
    exact ⟨rfl, hb3⟩)
set_option maxRecDepth 100000 in
set_option maxHeartbeats 1600000 in
theorem first90_good (v : Value) (b : List UInt8) (s : List UInt8) (nx : Nat) (w : World) (hv : Bt w v b) (hb : b.length ≤ 140737488351232) (hf : b.head? = some 90) (ht : takeTextT b 1 = (s, nx, 0)) (h4 : ¬ b.length - nx < 4)
    (hgood : (b.drop nx).take 4 = fourN ((b.drop 1).take (nx - 1))) :
    Calls Tryz.prog 90 #[v] w fun e w' => ∃ u, e = .returned (.tuple #[u, .int .i64 (nx + 4 : Nat), .bool true]) ∧ Bt w' u s ∧ Below w.heap.size w w' := by
  have hc := taketext40i v b 1 1 rfl w hv hb (by omega)
  rw [ht] at hc
  obtain ⟨hn1, hn2, hsl⟩ := takeTextT_le ht
  obtain ⟨h0, g, off, cap, rfl, y3, y4, c0⟩ := mark_cell hv hf
  unfold maxLen at y4
  have hne : (((b.length : Nat) : Int) == 0) = false := by rw [beq_eq_false_iff_ne]; omega
  have hlt : (0 : Int) < (b.length : Int) := by omega
  have hd : decide ((b.length : Int) - (nx : Int) < 4) = false := decide_eq_false (by omega)
  have hd2 : ¬ ((b.length : Int) - (nx : Int) < 4) := by omega
  have hcn : ¬ cap = nx := by omega
  have hc1 : ¬ cap = 1 := by omega
  have hB1 := hv.cut nx (nx + 4) (by omega) (by omega) (by omega)
  have hB2 := hv.cut 1 nx (by omega) (by omega) (by omega)
  rw [Nat.add_sub_cancel_left] at hB1
  have hsm : sameB ((b.drop nx).take 4) (fourN ((b.drop 1).take (nx - 1))) = true := by
    unfold sameB
    rw [hgood, beq_self_eq_true]
  have hl2 : ((b.drop 1).take (nx - 1)).length ≤ 140737488351232 := by simp; omega
  have HS := Lib.hid hsm
  have HC := Lib.hid hc
  have H1 := Lib.hid hB1
  have H2 := Lib.hid hB2
  have HL := Lib.hid hl2
  clear hc hf ht hv hB1 hB2 hsm hgood hl2 h4
  go_enter Tryz.func90, Tryz.ntmps90
  go_wp2_with (go_at_call 40; refine HC.out.mono ?_; rintro e w1 ⟨rfl, hw1⟩; have hw2 := hw1.symm; subst hw2)
  have s1 : IntKind.i64.wrap ((b.length : Int) - (nx : Int)) = (b.length : Int) - (nx : Int) := IntWalk.i64_in _ (by omega)
  have s2 : IntKind.i64.wrap ((nx : Int) + 4) = (nx : Int) + 4 := IntWalk.i64_in _ (by omega)
  have s3 : (0 : Int) ≤ (nx : Int) + 4 := by omega
  have s4 : ((nx : Int) + 4).toNat = nx + 4 := by omega
  have s5 : nx + 4 - nx = 4 := by omega
  have t1 : (0 : Int) ≤ (nx : Int) := by omega
  have t2 : (nx : Int) ≤ (nx : Int) + 4 := by omega
  have t3 : (nx : Int) + 4 ≤ (cap : Int) := by omega
  have t4 : (1 : Int) ≤ (nx : Int) := by omega
  have t5 : (nx : Int) ≤ (cap : Int) := by omega
  go_region_held3 (fun W => Below w.heap.size w W) (first | exact (Below.refl _ _).drew | exact hb3 | exact hb2)
    (first
      | (go_at_call 111; (with_reducible refine (four111 _ ((b.drop 1).take (nx - 1)) _ (H2.out.below (Below.refl _ _).drew (Nat.le_refl _)) HL.out).mono ?_); rintro e w2 ⟨g2, rfl, hB3, b2⟩; have hb2 : Below w.heap.size w w2 := (Below.refl _ _).drew.trans b2)
      | (go_at_call 57; (with_reducible refine (equal57 _ _ ((b.drop nx).take 4) (fourN ((b.drop 1).take (nx - 1))) _ (H1.out.below hb2 (Nat.le_refl _)) hB3).mono ?_); rw [HS.out]; rintro e w3 ⟨rfl, q3, rfl⟩; have hb3 : Below w.heap.size w (w2.drewN q3) := hb2.trans ⟨rfl, rfl, rfl, Nat.le_refl _, fun _ _ => rfl⟩))
  clear s1 s2 s3 s4 s5 t1 t2 t3 t4 t5
  go_wp2_with (with_reducible refine wl_bytes rfl _ rfl s rfl (by omega) ?_; intro g5 c5 w5 hB5 b5)
  go_ret3
  exact ⟨_, rfl, hB5, hb3.trans (b5.mono hb3.size)⟩

/-- what First tells -/
theorem first90 (v : Value) (b : List UInt8) (w : World) (hv : Bt w v b) (hb : b.length ≤ 140737488351232) :
    Calls Tryz.prog 90 #[v] w fun e w' => Below w.heap.size w w' ∧ match firstT b with
      | none => e = .returned (.tuple #[.slice none 0 0, .int .i64 0, .bool false])
      | some (r, m) => ∃ u, e = .returned (.tuple #[u, .int .i64 m, .bool true]) ∧ Bt w' u r := by
  cases hf : firstT b with
  | none =>
    simp only
    by_cases h0 : b.head? = some 90
    · rcases firstT_cases hf with h | ⟨s, nx, e, ht⟩ | ⟨s, nx, ht, h4⟩ | ⟨s, nx, ht, h4, h5⟩
      · exact absurd h0 h
      · have hnx : nx ≤ b.length := by
          unfold takeTextT at ht
          obtain ⟨n, k, e2, ht2⟩ : ∃ n k e2, takeT b 1 = (n, k, e2) := ⟨_, _, _, rfl⟩
          rw [ht2] at ht
          cases e2 with
          | succ e2 => simp only [Prod.mk.injEq] at ht; omega
          | zero =>
            simp only at ht
            split at ht
            · simp only [Prod.mk.injEq] at ht; omega
            · simp only [Prod.mk.injEq] at ht; omega
        exact (first90_text v b s nx (e + 1) w hv hb h0 ht (Or.inl (by omega)) hnx).mono fun e w' ⟨h1, q, h2⟩ => ⟨by rw [h2]; exact ⟨rfl, rfl, rfl, Nat.le_refl _, fun _ _ => rfl⟩, h1⟩
      · exact (first90_text v b s nx 0 w hv hb h0 ht (Or.inr h4) (takeTextT_le ht).2.1).mono fun e w' ⟨h1, q, h2⟩ => ⟨by rw [h2]; exact ⟨rfl, rfl, rfl, Nat.le_refl _, fun _ _ => rfl⟩, h1⟩
      · exact (first90_four v b s nx w hv hb h0 ht h4 h5).mono fun e w' ⟨h1, h2⟩ => ⟨h2, h1⟩
    · exact (first90_mark v b w hv h0).mono fun e w' ⟨h1, h2⟩ => ⟨by rw [h2]; exact Below.refl _ _, h1⟩
  | some p =>
    obtain ⟨r, m⟩ := p
    obtain ⟨h0, nx, rfl, ht, h4, h5⟩ := firstT_some hf
    exact (first90_good v b r nx w hv hb h0 ht h4 h5).mono fun e w' ⟨u, h1, h2, h3⟩ => ⟨h3, u, h1, h2⟩
end Go.Proofs.YtpcipfnahknngaaGreatDoor

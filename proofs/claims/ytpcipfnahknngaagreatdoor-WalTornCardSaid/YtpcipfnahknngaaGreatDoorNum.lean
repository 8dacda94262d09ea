/- Contract of wal.number of a segment's name. No statement of the seat. -/
import Derived.Test.YtpcipfnahknngaaGreatDoorWr3
import Derived.LaidEql
import Derived.Lib.AtoiErrMem
namespace Go.Proofs.YtpcipfnahknngaaGreatDoor
open Go.RowKit

theorem decFrom_snoc (l : List UInt8) (acc m : Nat) (c : UInt8) (d : Nat) (h : Lib.decFrom acc l = some m) (hc : Lib.digitVal c = some d) : Lib.decFrom acc (l ++ [c]) = some (m * 10 + d) := by
  induction l generalizing acc with
  | nil =>
    simp only [Lib.decFrom, Option.some.injEq] at h
    subst h
    simp [Lib.decFrom, hc]
  | cons x l ih =>
    simp only [List.cons_append, Lib.decFrom] at h ⊢
    cases hx : Lib.digitVal x with
    | none => rw [hx] at h; cases h
    | some e =>
      rw [hx] at h
      exact ih _ h
theorem digit_of (k : Nat) (hk : k < 10) : Lib.digitVal (UInt8.ofNat (48 + k)) = some k := by
  have h : (UInt8.ofNat (48 + k)).toNat = 48 + k := by rw [UInt8.toNat_ofNat']; omega
  unfold Lib.digitVal
  rw [h, if_pos (by omega)]
  congr 1
  omega
theorem pad_dec : ∀ (k v acc : Nat), v < 10 ^ k → Lib.decFrom acc ((Lib.decDigits (10 ^ k + v)).drop 1) = some (acc * 10 ^ k + v) := by
  intro k
  induction k with
  | zero =>
    intro v acc hv
    have : v = 0 := by simpa using hv
    subst this
    rw [Lib.decDigits_one (by decide)]
    simp [Lib.decFrom]
  | succ k ih =>
    intro v acc hv
    have hp : 0 < 10 ^ k := Nat.pow_pos (by decide)
    have h10 : ¬ 10 ^ (k + 1) + v < 10 := by rw [Nat.pow_succ]; omega
    rw [Lib.decDigits, dif_neg h10]
    have e1 : (10 ^ (k + 1) + v) / 10 = 10 ^ k + v / 10 := by rw [Nat.pow_succ]; omega
    have e2 : (10 ^ (k + 1) + v) % 10 = v % 10 := by rw [Nat.pow_succ]; omega
    rw [e1, e2]
    have hl : 1 ≤ (Lib.decDigits (10 ^ k + v / 10)).length := by rw [Lib.decDigits_length]; exact Lib.nDigits_pos _
    rw [List.drop_append_of_le_length hl, decFrom_snoc _ _ _ _ _ (ih (v / 10) acc (by rw [Nat.pow_succ] at hv; omega)) (digit_of (v % 10) (by omega))]
    congr 1
    rw [Nat.pow_succ, ← Nat.mul_assoc]
    omega
theorem atoi_dec (l : List UInt8) (m : Nat) (h0 : l ≠ []) (h : Lib.decFrom 0 l = some m) : Lib.atoi l = some (m : Int) := by
  cases l with
  | nil => exact absurd rfl h0
  | cons x l =>
    have hx : 48 ≤ x.toNat := by
      simp only [Lib.decFrom] at h
      cases hd : Lib.digitVal x with
      | none => rw [hd] at h; cases h
      | some e =>
        unfold Lib.digitVal at hd
        split at hd
        · omega
        · cases hd
    have h1 : (x == 45) = false := by rw [beq_eq_false_iff_ne]; rintro rfl; exact absurd hx (by decide)
    have h2 : (x == 43) = false := by rw [beq_eq_false_iff_ne]; rintro rfl; exact absurd hx (by decide)
    have hd : Lib.decNat (x :: l) = some m := by
      unfold Lib.decNat
      simpa using h
    simp only [Lib.atoi]
    rw [h1, h2, hd]
    rfl
theorem seg_atoi (n : Nat) (hn : n ≤ 99999999) : Lib.atoi ((Lib.itoa (100000000 + n)).drop 1) = some (n : Int) := by
  have h9 := itoa9 n hn
  have e : Lib.itoa (100000000 + (n : Int)) = Lib.decDigits (10 ^ 8 + n) := by
    unfold Lib.itoa
    rw [if_neg (by omega)]
    congr 1
  rw [e] at h9 ⊢
  refine atoi_dec _ n (fun h => ?_) (by have := pad_dec 8 n 0 (by omega); simpa using this)
  have := congrArg List.length h
  rw [List.length_drop, h9] at this
  cases this

/-- strconv's two errors are there -/
def ErrV (w : World) : Prop := (∃ t p, w.cell? ⟨0, 0, none⟩ = some (.iface t p)) ∧ ∃ t p, w.cell? ⟨1, 0, none⟩ = some (.iface t p)
theorem ErrV.lo {w w' : World} {n m : Nat} (h : ErrV w) (hl : Lo n m w w') (hn : 2 < n) : ErrV w' := by
  have mv : ∀ {g : Nat} {v : Value}, g < n → w.cell? ⟨g, 0, none⟩ = some v → w'.cell? ⟨g, 0, none⟩ = some v := fun {g v} hg hc => by
    cases ho : w.heap[g]? with
    | none => simp [World.cell?, ho] at hc
    | some o =>
      cases o with
      | cells cur t fz => exact (World.cell?_of_block (a := ⟨g, 0, none⟩) (hl.block g cur t fz hg ho)).trans hc
      | _ => simp [World.cell?, ho] at hc
  obtain ⟨⟨t, p, h1⟩, t2, p2, h2⟩ := h
  exact ⟨⟨t, p, mv (by omega) h1⟩, t2, p2, mv (by omega) h2⟩

set_option maxRecDepth 100000 in
theorem is86_nil (t : TypeId) (p : Value) (w : World) : Calls Tryz.prog 86 #[.nilIface, .iface t p] w fun e w' => e = .returned (.bool false) ∧ w' = w := by
  have h := run_eql_iface_nil_left (P := Tryz.prog) (w := w) t p Tryz.underlying127
  go_enter Tryz.func86, Tryz.ntmps86
  go_wp2
  go_ret
  exact ⟨rfl, rfl⟩

theorem tx_eq (l : List UInt8) : (⟨l.toArray⟩ : ByteArray) = tx l := rfl
theorem seg_cut (n : Nat) : Lib.trimPrefix (segName n) [108, 111, 103, 46] = (Lib.itoa (100000000 + n)).drop 1 ∧ Lib.hasPrefix (segName n) [108, 111, 103, 46] = true := by
  have h : Lib.hasPrefix (segName n) [108, 111, 103, 46] = true := by simp [Lib.hasPrefix, segName]
  refine ⟨?_, h⟩
  unfold Lib.trimPrefix
  rw [h, if_pos rfl]
  rfl
theorem cut84_seg (n : Nat) (w : World) : Calls Tryz.prog 84 #[.string (tx (segName n)), .string ⟨#[108, 111, 103, 46]⟩] w fun e w' => e = .returned (.tuple #[.string (tx ((Lib.itoa (100000000 + n)).drop 1)), .bool true]) ∧ w' = w := by
  have h := Tryz.strings_CutPrefix (tx (segName n)) ⟨#[108, 111, 103, 46]⟩ w
  obtain ⟨h1, h2⟩ := seg_cut n
  rw [tx_list] at h
  have e : (⟨#[108, 111, 103, 46]⟩ : ByteArray).data.toList = [108, 111, 103, 46] := rfl
  rw [e, h1, h2] at h
  exact h
theorem atoi85_seg (n : Nat) (hn : n ≤ 99999999) (w : World) : Calls Tryz.prog 85 #[.string (tx ((Lib.itoa (100000000 + n)).drop 1))] w fun e w' => e = .returned (.tuple #[.int .i64 n, .nilIface]) ∧ Below w.heap.size w w' := by
  have h9 := itoa9 n hn
  refine (Tryz.strconv_Atoi _ (n : Int) (by rw [tx_size, List.length_drop, h9]; decide) (by rw [tx_list]; exact seg_atoi n hn) w).mono ?_
  rintro e w' ⟨rfl, t, rfl⟩
  exact ⟨rfl, Lib.bytesWorld_below _ _ _⟩

set_option maxRecDepth 100000 in
set_option maxHeartbeats 1600000 in
theorem number45_seg (n : Nat) (h1 : 1 ≤ n) (hn : n ≤ 99999999) (w : World) (htab : PowTab w) (hev : ErrV w) :
    Calls Tryz.prog 45 #[.string (tx (segName n))] w fun e w' => e = .returned (.int .i64 n) ∧ Below w.heap.size w w' := by
  obtain ⟨⟨t0, p0, c0⟩, t1, p1, c1⟩ := hev
  have HT := Lib.hid htab
  have hlt1 : (1 : Int) ≤ (n : Int) := by omega
  have hlt2 : (n : Int) ≤ 99999999 := by omega
  have hc := cut84_seg n
  have ha := atoi85_seg n hn
  obtain ⟨L, hL⟩ : ∃ L, L = (Lib.itoa (100000000 + n)).drop 1 := ⟨_, rfl⟩
  rw [← hL] at hc ha
  have HC := Lib.hid hc
  have HA := Lib.hid ha
  clear htab hc ha hL
  go_enter Tryz.func45, Tryz.ntmps45
  go_wp2_with (first
    | (go_at_call 84; (with_reducible refine (HC.out _).mono ?_); rintro e w1 ⟨rfl, hw1⟩; have hw2 := hw1.symm; subst hw2)
    | (go_at_call 85; (with_reducible refine (HA.out _).mono ?_); rintro e w2 ⟨rfl, b2⟩; have d0 := (b2.cell (p := ⟨0, 0, none⟩) (World.block_lt_of_cell? w _ c0)).trans c0; have d1 := (b2.cell (p := ⟨1, 0, none⟩) (World.block_lt_of_cell? w _ c1)).trans c1)
    | (go_at_call 86; (with_reducible refine (is86_nil _ _ _).mono ?_); rintro e w3 ⟨rfl, hw3⟩; have hw4 := hw3.symm; subst hw4)
    | (go_at_call 52; (with_reducible refine (name52i n _ rfl hn _ (HT.out.below b2 (Nat.le_refl _))).mono ?_); rintro e w5 ⟨rfl, b5⟩))
  go_ret
  exact ⟨rfl, b2.trans (b5.mono b2.size)⟩
end Go.Proofs.YtpcipfnahknngaaGreatDoor

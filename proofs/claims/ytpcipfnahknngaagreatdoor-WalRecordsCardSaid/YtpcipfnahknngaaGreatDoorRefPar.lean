/- Contracts of the reference's Parse, Same. No statement of the seat. -/
import Derived.Test.YtpcipfnahknngaaGreatDoorRefRec
import Derived.Test.YtpcipfnahknngaaGreatDoorDiskApp
namespace Go.Proofs.YtpcipfnahknngaaGreatDoor
open Go.RowKit

/-- what the reference makes of a record -/
def parseR (b : List UInt8) : Option Ent :=
  match takeT b 0 with
  | (i, a1, e1) => match takeT b a1 with
    | (t, a2, e2) => match takeTextT b a2 with
      | (s, _, e3) => if e1 = 0 ∧ e2 = 0 ∧ e3 = 0 ∧ i ≠ 0 ∧ s.length ≤ 2000 ∧ recL ⟨i, t, s⟩ = b then some ⟨i, t, s⟩ else none

theorem rtake41i (v : Value) (b : List UInt8) (a : Int) (at_ : Nat) (ha : a = at_) (w : World) (hv : Bt w v b) (hb : b.length ≤ 140737488351232) (hat : at_ ≤ 140737488351232) :
    Calls Tryz.prog 41 #[v, .int .i64 a] w fun e w' => e = .returned (.tuple #[.int .u64 (takeT b at_).1, .int .i64 (takeT b at_).2.1, .int .i64 (takeT b at_).2.2]) ∧ Below w.heap.size w w' := by
  subst ha; exact rtake41 v b at_ w hv hb hat

theorem first_low (r : List UInt8) : ∀ j, (∃ k, k < j ∧ ∃ h : k < r.length, (r[k]).toNat < 128 ∧ ∀ i (h : i < r.length), i < k → 128 ≤ (r[i]).toNat) ∨ (∀ i (h : i < r.length), i < j → 128 ≤ (r[i]).toNat)
  | 0 => Or.inr fun i _ hi => by omega
  | j + 1 => by
    rcases first_low r j with ⟨k, hk, h⟩ | h
    · exact Or.inl ⟨k, by omega, h⟩
    · by_cases hj : j < r.length
      · by_cases hx : (r[j]).toNat < 128
        · exact Or.inl ⟨j, by omega, hj, hx, h⟩
        · refine Or.inr fun i hi hij => ?_
          by_cases e : i = j
          · subst e; omega
          · exact h i hi (by omega)
      · exact Or.inr fun i hi hij => h i hi (by omega)
theorem takeR_good {r : List UInt8} {n m : Nat} (h : takeR r 0 0 = some (n, m)) : n < 18446744073709551616 ∧ 1 ≤ m ∧ m ≤ r.length ∧ putL n = r.take m := by
  rcases first_low r 10 with ⟨k, hk, hkl, hx, hb⟩ | hb
  · rw [take_run r k (by omega) (by omega) hb, takeR_step r k _ hkl] at h
    by_cases hbad : (k = 9 ∧ 1 < (r[k]).toNat) ∨ (0 < k ∧ (r[k]).toNat = 0)
    · rw [if_pos hbad] at h; cases h
    · rw [if_neg hbad, if_pos hx] at h
      have hg := take_good r k hkl (by omega) hb hx hbad
      have e : pv r (k + 1) = pv r k + (r[k]).toNat % 128 * 128 ^ k := by simp [pv, List.getD, hkl]
      rw [← e] at h
      cases h
      exact ⟨hg.1, by omega, by omega, hg.2⟩
  · by_cases hl : 10 ≤ r.length
    · rw [take_ten r hl hb] at h; cases h
    · rw [take_run r r.length (by omega) (Nat.le_refl _) (fun j hj hjr => hb j hj (by omega)), List.drop_length] at h
      simp [takeR] at h
theorem takeT_put {b : List UInt8} {at_ n nx : Nat} (h : takeT b at_ = (n, nx, 0)) : n < 18446744073709551616 ∧ at_ < nx ∧ nx ≤ b.length ∧ putL n = (b.drop at_).take (nx - at_) := by
  unfold takeT at h
  split at h
  · cases h
  · cases hr : takeR (b.drop at_) 0 0 with
    | none => rw [hr] at h; cases h
    | some p =>
      obtain ⟨n', k⟩ := p
      rw [hr] at h
      cases h
      obtain ⟨g1, g2, g3, g4⟩ := takeR_good hr
      rw [List.length_drop] at g3
      exact ⟨g1, by omega, by omega, by rw [g4]; congr 1; omega⟩
theorem takeT_lt (b : List UInt8) (at_ : Nat) : (takeT b at_).1 < 18446744073709551616 := by
  cases h : takeT b at_ with
  | mk n p =>
    obtain ⟨nx, e⟩ := p
    by_cases he : e = 0
    · subst he; exact (takeT_put h).1
    · have := takeT_bad h he
      show n < _
      omega
theorem takeTextT_len (b : List UInt8) (at_ : Nat) : (takeTextT b at_).1.length ≤ 4096 := by
  obtain ⟨n, nx, e, ht⟩ : ∃ n nx e, takeT b at_ = (n, nx, e) := ⟨_, _, _, rfl⟩
  unfold takeTextT
  rw [ht]
  cases e with
  | zero =>
    show List.length (if 4096 < n ∨ b.length - nx < n then (([] : List UInt8), 0, 4) else ((b.drop nx).take n, nx + n, 0)).1 ≤ 4096
    split
    · simp
    · simp; omega
  | succ e => simp

/-- two empty entries, laid one behind the other -/
def noE : Array Value := #[Value.int .u64 0, Value.int .u64 0, Value.slice none 0 0]
theorem boxes2 (w W : World) (h : Below (w.heap.size + 2) ((w.alloc (.cells #[Value.int .u64 0, Value.int .u64 0, Value.slice none 0 0] 25)).alloc (.cells #[Value.int .u64 0, Value.int .u64 0, Value.slice none 0 0] 25)) W) : Box W w.heap.size 25 #[Value.int .u64 0, Value.int .u64 0, Value.slice none 0 0] ∧ Box W (w.heap.size + 1) 25 #[Value.int .u64 0, Value.int .u64 0, Value.slice none 0 0] :=
  ⟨(Box.new w _ 25 _ rfl).below (B := w.heap.size + 1) (((Below.refl _ _).alloc (by simp) _).trans (h.mono (by omega))) (by omega), (Box.new (w.alloc (.cells #[Value.int .u64 0, Value.int .u64 0, Value.slice none 0 0] 25)) _ 25 _ (by simp)).below h (by omega)⟩

/-- what Record answers to any entry -/
def recE (x : Ent) : Nat × List UInt8 := if x.i = 0 then (2, []) else if 2000 < x.b.length then (3, []) else (0, recL x)
theorem rrecord8_any (x : Ent) (u : Value) (w : World) (hx : x.ok) (hu : Bt w u x.b) :
    Calls Tryz.prog 8 #[.agg #[.int .u64 x.i, .int .u64 x.t, u]] w fun e w' => ∃ v, e = .returned (.tuple #[v, .int .i64 (recE x).1]) ∧ w'.ownsRow w.heap.size 5 1 v (recE x).2.length (bv (recE x).2) ∧ Below w.heap.size w w' := by
  by_cases h0 : x.i = 0
  · have e0 : recE x = (2, []) := by unfold recE; rw [if_pos h0]
    rw [e0, h0]
    exact (rrecord8_arg x.t u w).mono fun e w' ⟨h1, h2⟩ => ⟨_, h1, World.ownsRow_nil _ _ _ _, h2⟩
  · by_cases hl : 2000 < x.b.length
    · have e0 : recE x = (3, []) := by unfold recE; rw [if_neg h0, if_pos hl]
      rw [e0]
      exact (rrecord8_long x u w hu h0 hl).mono fun e w' ⟨h1, h2⟩ => ⟨_, h1, World.ownsRow_nil _ _ _ _, h2⟩
    · have e0 : recE x = (0, recL x) := by unfold recE; rw [if_neg h0, if_neg hl]
      rw [e0]
      exact rrecord8 x u w hx hu h0 (by omega)

/-- how Parse ends -/
def ParO (o : Option Ent) (e : Ending) (w' : World) : Prop :=
  match o with
  | none => e = .returned (.tuple #[noEnt, .int .i64 4])
  | some x => ∃ u, e = .returned (.tuple #[.agg #[.int .u64 x.i, .int .u64 x.t, u], .int .i64 0]) ∧ Bt w' u x.b

theorem set3 {W : World} {g : Nat} {t : TypeId} {x y z : Value} (h : Box W g t #[x, y, z]) (a b c : Value) : Box (((W.setCell ⟨g, 0, none⟩ a).setCell ⟨g, 1, none⟩ b).setCell ⟨g, 2, none⟩ c) g t #[a, b, c] := ((h.set 0 a).set 1 b).set 2 c

set_option maxRecDepth 100000 in
set_option maxHeartbeats 3200000 in
theorem rparse10 (v : Value) (b : List UInt8) (w : World) (hv : Bt w v b) (hb : b.length ≤ 140737488351232) :
    Calls Tryz.prog 10 #[v] w fun e w' => ParO (parseR b) e w' ∧ Below w.heap.size w w' := by
  obtain ⟨i, a1, e1, h1⟩ : ∃ i a1 e1, takeT b 0 = (i, a1, e1) := ⟨_, _, _, rfl⟩
  obtain ⟨t, a2, e2, h2⟩ : ∃ i a1' e1, takeT b a1 = (i, a1', e1) := ⟨_, _, _, rfl⟩
  obtain ⟨s, a3, e3, h3⟩ : ∃ i a1 e1, takeTextT b a2 = (i, a1, e1) := ⟨_, _, _, rfl⟩
  have ha1 : a1 ≤ b.length := by have := takeT_le b 0; rw [h1] at this; exact this
  have ha2 : a2 ≤ b.length := by have := takeT_le b a1; rw [h2] at this; exact this
  obtain ⟨O, hO⟩ : ∃ O, O = parseR b := ⟨_, rfl⟩
  rw [← hO]
  unfold parseR at hO
  rw [h1] at hO
  simp only [h2, h3] at hO
  have hii : i < 18446744073709551616 := by have := takeT_lt b 0; rw [h1] at this; exact this
  have htt : t < 18446744073709551616 := by have := takeT_lt b a1; rw [h2] at this; exact this
  have hss : s.length ≤ 4096 := by have := takeTextT_len b a2; rw [h3] at this; exact this
  have hrec := fun W u hu => rrecord8_any ⟨i, t, s⟩ u W ⟨hii, htt, by show s.length ≤ _; omega⟩ hu
  obtain ⟨er, r, hre⟩ : ∃ er r, recE ⟨i, t, s⟩ = (er, r) := ⟨_, _, rfl⟩
  rw [hre] at hrec
  have HR := Lib.hid hrec
  have HRE := Lib.hid hre
  have HII := Lib.hid hii
  have HTT := Lib.hid htt
  clear hrec hre hii htt
  obtain ⟨W2, hW2⟩ : ∃ W2, W2 = (w.alloc (.cells #[Value.int .u64 0, Value.int .u64 0, Value.slice none 0 0] 25)).alloc (.cells #[Value.int .u64 0, Value.int .u64 0, Value.slice none 0 0] 25) := ⟨_, rfl⟩
  have hb2 : Below w.heap.size w W2 := by rw [hW2]; exact ((Below.refl _ _).alloc (by simp) _).alloc (by simp) _
  have hs2 : W2.heap.size = w.heap.size + 2 := by rw [hW2]; simp
  have hbx : ∀ W, Below W2.heap.size W2 W → Box W w.heap.size 25 #[Value.int .u64 0, Value.int .u64 0, Value.slice none 0 0] ∧ Box W (w.heap.size + 1) 25 #[Value.int .u64 0, Value.int .u64 0, Value.slice none 0 0] := fun W hW => boxes2 w W (by rw [hs2, hW2] at hW; exact hW)
  have c1 : ∀ W, Below W2.heap.size W2 W → _ := fun W hW => rtake41i v b 0 0 rfl W ((hv.below hb2 (Nat.le_refl _)).below hW (Nat.le_refl _)) hb (by omega)
  have c2 : ∀ W, Below W2.heap.size W2 W → _ := fun W hW => rtake41 v b a1 W ((hv.below hb2 (Nat.le_refl _)).below hW (Nat.le_refl _)) hb (by omega)
  have c3 : ∀ W, Below W2.heap.size W2 W → _ := fun W hW => rtaketext42 v b a2 W ((hv.below hb2 (Nat.le_refl _)).below hW (Nat.le_refl _)) hb (by omega)
  rw [h1] at c1
  rw [h2] at c2
  rw [h3] at c3
  have C1 := Lib.hid c1
  have C2 := Lib.hid c2
  have C3 := Lib.hid c3
  have HP := Lib.hid hO
  have BX := Lib.hid hbx
  have B2 := Lib.hid hb2
  have HW2 := Lib.hid hW2
  have HV := Lib.hid hv
  have hsz : (tx s).size = s.length := tx_size s
  have hr0 : Below W2.heap.size W2 W2 := Below.refl _ _
  have HS2 := Lib.hid hs2
  obtain ⟨y1, y2, ao, cap, rfl, y3, y4, y7, y5⟩ := hv
  clear c1 c2 c3 h1 h2 h3 hO hbx hb2 y1 y2 y3 y4 y7 y5 hs2
  go_enter Tryz.func10, Tryz.ntmps10
  clear hW2
  go_wp2_with (first
    | (go_at_call 41; rw [← HW2.out]; (with_reducible refine (C1.out _ (Below.refl _ _)).mono ?_); rintro e w3 ⟨rfl, hb3⟩; obtain ⟨p3, q3⟩ := BX.out _ hb3; have q30 := q3.cell 0 rfl; have q31 := q3.cell 1 rfl; have q32 := q3.cell 2 rfl; have p30 := p3.cell 0 rfl; have p31 := p3.cell 1 rfl; have p32 := p3.cell 2 rfl; have p33 := p3.froz)
    | (go_at_call 41; (with_reducible refine (C2.out _ hb3).mono ?_); rintro e w4 ⟨rfl, hb4⟩; have hb5 := hb3.trans (hb4.mono hb3.size); obtain ⟨p4, q4⟩ := BX.out _ hb5; have q40 := q4.cell 0 rfl; have q41 := q4.cell 1 rfl; have q42 := q4.cell 2 rfl; have p40 := p4.cell 0 rfl; have p41 := p4.cell 1 rfl; have p42 := p4.cell 2 rfl; have p43 := p4.froz)
    | (go_at_call 42; (with_reducible refine (C3.out _ hb5).mono ?_); rintro e w6 ⟨rfl, hb6⟩; have hb7 := hb5.trans (hb6.mono hb5.size); obtain ⟨p6, q6⟩ := BX.out _ hb7; have q60 := q6.cell 0 rfl; have q61 := q6.cell 1 rfl; have q62 := q6.cell 2 rfl; have p60 := p6.cell 0 rfl; have p61 := p6.cell 1 rfl; have p62 := p6.cell 2 rfl; have p63 := p6.froz)
    | (with_reducible refine wl_bytes2 rfl _ rfl s rfl (by omega) ?_; intro cap7 w7 hu7 hb8; have hb9 := hb7.trans (hb8.mono hb7.size))
    | (go_at_call 8; (with_reducible refine (HR.out _ _ (hu7.below ((Below.refl _ _).alloc (Nat.le_refl _) _) (Nat.le_refl _))).mono ?_); rintro e w10 ⟨v10, rfl, hown10, hb10⟩; obtain ⟨ao10, cap10, rfl⟩ := own_shape hown10
       have hb11 := (hb9.alloc hb9.size (Obj.cells #[Value.int .u64 i, Value.int .u64 t, Value.slice (some ⟨w6.heap.size, 0, none⟩) s.length cap7] 25)).trans (hb10.mono (by have := hb9.size; simp; omega))
       have hcr := conv_str w10 _ r (Bt.of_own hown10)
       have hcb := conv_str w10 _ b ((HV.out.below B2.out (Nat.le_refl _)).below hb11 (Nat.le_refl _))
       have hu10 := hu7.below ((Below.refl w7.heap.size _).alloc (Nat.le_refl _) (Obj.cells #[Value.int .u64 i, Value.int .u64 t, Value.slice (some ⟨w6.heap.size, 0, none⟩) s.length cap7] 25) |>.trans (hb10.mono (by simp))) (Nat.le_refl _)
       have z10 := (Box.new w7 w7.heap.size 25 #[Value.int .u64 i, Value.int .u64 t, Value.slice (some ⟨w6.heap.size, 0, none⟩) s.length cap7] rfl).below hb10 (by simp)
       have z0 := z10.cell 0 rfl
       have z1 := z10.cell 1 rfl
       have z2 := z10.cell 2 rfl
       obtain ⟨p10, q10⟩ := BX.out _ hb11; have q100 := q10.cell 0 rfl; have q101 := q10.cell 1 rfl; have q102 := q10.cell 2 rfl; have p100 := p10.cell 0 rfl; have p101 := p10.cell 1 rfl; have p102 := p10.cell 2 rfl; have p103 := p10.froz))
  · have HN : O = none := by
      have q := HP.out
      rw [if_neg (by rintro ⟨k1, k2, k3, k4, k5, k6⟩; have hh : ((e1 : Int) != 0) = true := (by assumption); simp [k1] at hh)] at q
      exact q
    have S := set3 p3 (.int .u64 0) (.int .u64 0) (.slice none 0 0)
    have r0 := S.cell 0 rfl
    have r1 := S.cell 1 rfl
    have r2 := S.cell 2 rfl
    exact bodyPost_ret (v := .tuple #[noEnt, .int .i64 4]) (by simp [noEnt, results, Tryz.results10, go_sem, r0, r1, r2]) rfl ⟨by rw [HN]; rfl, (((B2.out.trans (hb3.mono B2.out.size)).setCell (Nat.le_refl _) _).setCell (Nat.le_refl _) _).setCell (Nat.le_refl _) _⟩
  · have HN : O = none := by
      have q := HP.out
      rw [if_neg (by rintro ⟨k1, k2, k3, k4, k5, k6⟩; have hh : ((e2 : Int) != 0) = true := (by assumption); simp [k2] at hh)] at q
      exact q
    have S := set3 p4 (.int .u64 0) (.int .u64 0) (.slice none 0 0)
    have r0 := S.cell 0 rfl
    have r1 := S.cell 1 rfl
    have r2 := S.cell 2 rfl
    exact bodyPost_ret (v := .tuple #[noEnt, .int .i64 4]) (by simp [noEnt, results, Tryz.results10, go_sem, r0, r1, r2]) rfl ⟨by rw [HN]; rfl, (((B2.out.trans (hb5.mono B2.out.size)).setCell (Nat.le_refl _) _).setCell (Nat.le_refl _) _).setCell (Nat.le_refl _) _⟩
  · have HN : O = none := by
      have q := HP.out
      rw [if_neg (by rintro ⟨k1, k2, k3, k4, k5, k6⟩; have hh : ((e3 : Int) != 0) = true := (by assumption); simp [k3] at hh)] at q
      exact q
    have S := set3 p6 (.int .u64 0) (.int .u64 0) (.slice none 0 0)
    have r0 := S.cell 0 rfl
    have r1 := S.cell 1 rfl
    have r2 := S.cell 2 rfl
    exact bodyPost_ret (v := .tuple #[noEnt, .int .i64 4]) (by simp [noEnt, results, Tryz.results10, go_sem, r0, r1, r2]) rfl ⟨by rw [HN]; rfl, (((B2.out.trans (hb7.mono B2.out.size)).setCell (Nat.le_refl _) _).setCell (Nat.le_refl _) _).setCell (Nat.le_refl _) _⟩
  · have HN : O = none := by
      have q := HP.out
      rw [if_neg (by rintro ⟨k1, k2, k3, k4, k5, k6⟩; have hh : (!(tx r).toList == (tx b).toList) = true := (by assumption); rw [tx_toList, tx_toList] at hh; have e2 := HRE.out; unfold recE at e2; rw [if_neg k4, if_neg (by show ¬ 2000 < s.length; omega)] at e2; rw [k6] at e2; simp only [Prod.mk.injEq] at e2; rw [e2.2] at hh; simp at hh)] at q
      exact q
    have S := set3 p10 (.int .u64 0) (.int .u64 0) (.slice none 0 0)
    have r0 := S.cell 0 rfl
    have r1 := S.cell 1 rfl
    have r2 := S.cell 2 rfl
    exact bodyPost_ret (v := .tuple #[noEnt, .int .i64 4]) (by simp [noEnt, results, Tryz.results10, go_sem, r0, r1, r2]) rfl ⟨by rw [HN]; rfl, (((B2.out.trans (hb11.mono B2.out.size)).setCell (Nat.le_refl _) _).setCell (Nat.le_refl _) _).setCell (Nat.le_refl _) _⟩
  · have HN : O = some ⟨i, t, s⟩ := by
      have q := HP.out
      have g1 : ((e1 : Int) != 0) = false := (by assumption)
      have g2 : ((e2 : Int) != 0) = false := (by assumption)
      have g3 : ((e3 : Int) != 0) = false := (by assumption)
      have g4 : er = 0 := (by assumption)
      have g5 : (!(tx r).toList == (tx b).toList) = false := (by assumption)
      rw [tx_toList, tx_toList] at g5
      have g6 : r = b := by simpa using g5
      have e4 := HRE.out
      rw [g4, g6] at e4
      unfold recE at e4
      have hc : i ≠ 0 ∧ s.length ≤ 2000 ∧ recL ⟨i, t, s⟩ = b := by
        by_cases hi0 : i = 0
        · rw [if_pos hi0] at e4; simp at e4
        · by_cases hs0 : 2000 < s.length
          · rw [if_neg hi0, if_pos hs0] at e4; simp at e4
          · rw [if_neg hi0, if_neg hs0] at e4
            simp only [Prod.mk.injEq, true_and] at e4
            exact ⟨hi0, by omega, e4⟩
      rw [if_pos ⟨by simpa using g1, by simpa using g2, by simpa using g3, hc⟩] at q
      exact q
    have S := set3 p10 (.int .u64 i) (.int .u64 t) (.slice (some ⟨w6.heap.size, 0, none⟩) s.length cap7)
    have r0 := S.cell 0 rfl
    have r1 := S.cell 1 rfl
    have r2 := S.cell 2 rfl
    have hne : w.heap.size ≠ w6.heap.size := by have := hb7.size; have := HS2.out; omega
    refine bodyPost_ret (v := .tuple #[.agg #[.int .u64 i, .int .u64 t, .slice (some ⟨w6.heap.size, 0, none⟩) s.length cap7], .int .i64 0]) (by simp [results, Tryz.results10, go_sem, r0, r1, r2]) rfl ⟨?_, (((B2.out.trans (hb11.mono B2.out.size)).setCell (Nat.le_refl _) _).setCell (Nat.le_refl _) _).setCell (Nat.le_refl _) _⟩
    rw [HN]
    refine ⟨_, rfl, ?_⟩
    refine Bt.setCell (Bt.setCell (Bt.setCell hu10 _ _ ?_) _ _ ?_) _ _ ?_ <;> simp [Value.ownBlock] <;> omega
  · have HN : O = none := by
      have q := HP.out
      rw [if_neg (by rintro ⟨k1, k2, k3, k4, k5, k6⟩; have hh : ¬ er = 0 := (by assumption); have e2 := HRE.out; unfold recE at e2; rw [if_neg k4, if_neg (by show ¬ 2000 < s.length; omega)] at e2; simp only [Prod.mk.injEq] at e2; exact hh e2.1.symm)] at q
      exact q
    have S := set3 p10 (.int .u64 0) (.int .u64 0) (.slice none 0 0)
    have r0 := S.cell 0 rfl
    have r1 := S.cell 1 rfl
    have r2 := S.cell 2 rfl
    exact bodyPost_ret (v := .tuple #[noEnt, .int .i64 4]) (by simp [noEnt, results, Tryz.results10, go_sem, r0, r1, r2]) rfl ⟨by rw [HN]; rfl, (((B2.out.trans (hb11.mono B2.out.size)).setCell (Nat.le_refl _) _).setCell (Nat.le_refl _) _).setCell (Nat.le_refl _) _⟩
end Go.Proofs.YtpcipfnahknngaaGreatDoor

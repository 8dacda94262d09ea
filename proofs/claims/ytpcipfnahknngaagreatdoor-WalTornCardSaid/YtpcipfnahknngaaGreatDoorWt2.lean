/- WalTorn: the call. -/
import Derived.Test.YtpcipfnahknngaaGreatDoorWt3
namespace Go.Proofs.YtpcipfnahknngaaGreatDoor
open Go.RowKit Go.Maps

set_option maxRecDepth 1000000 in
set_option maxHeartbeats 6400000 in
theorem torn5_big (ls : List (List UInt8)) (sy : Int) (st : List Int) (la : Option Addr) (lc : Nat) (sa : Option Addr) (sc : Nat) (w : World) (htab : PowTab w) (hbig : 40 < ls.length ∨ 20 < st.length) :
    Calls Tryz.prog 5 #[.slice la ls.length lc, .int .i64 sy, .slice sa st.length sc] w fun e w' => e = .returned (.bool true) ∧ Below w.heap.size w w' := by
  have HK := Lib.hid (known6 w htab)
  clear htab
  by_cases h1 : 40 < ls.length
  · have hd1 : decide ((40 : Int) < (ls.length : Int)) = true := decide_eq_true (by omega)
    go_enter Tryz.func5, Tryz.ntmps5
    go_wp2_with (go_at_call 6; refine HK.out.mono ?_; rintro e w1 ⟨rfl, f1, b1⟩)
    go_ret
    exact ⟨rfl, b1⟩
  · have hd1 : decide ((40 : Int) < (ls.length : Int)) = false := decide_eq_false (by omega)
    have hd2 : decide ((20 : Int) < (st.length : Int)) = true := decide_eq_true (by omega)
    go_enter Tryz.func5, Tryz.ntmps5
    go_wp2_with (go_at_call 6; refine HK.out.mono ?_; rintro e w1 ⟨rfl, f1, b1⟩)
    go_ret
    exact ⟨rfl, b1⟩

theorem wrap64z (n : Nat) (h : n < 18446744073709551616) : IntKind.u64.wrap (n : Int) = (n : Int) := by
  simp [IntKind.wrap, IntKind.bits, IntKind.signed]
  omega
theorem wrap64s (n : Nat) (h : n < 1000) : IntKind.u64.wrap ((n : Int) + 1) = (n : Int) + 1 := by
  simp [IntKind.wrap, IntKind.bits, IntKind.signed]
  omega
set_option maxRecDepth 1000000 in
set_option maxHeartbeats 6400000 in
theorem torn5_small (ls : List (List UInt8)) (sy : Int) (st : List Int) (la : Option Addr) (lc : Nat) (sa : Option Addr) (sc : Nat) (w : World) (hls : Bts w (.slice la ls.length lc) ls) (hst : Sl w 1 (.slice sa st.length sc) st.length (iv st))
    (hr : ∀ z ∈ st, z ≤ 9223372036854775807) (hsy1 : -9223372036854775808 ≤ sy) (hsy2 : sy ≤ 9223372036854775807) (htab : PowTab w) (hev : ErrV w) (h40 : ls.length ≤ 40) (h20 : st.length ≤ 20) :
    Calls Tryz.prog 5 #[.slice la ls.length lc, .int .i64 sy, .slice sa st.length sc] w fun e w' => e = .returned (.bool true) ∧ Below w.heap.size w w' := by
  have hn2 : 2 < w.heap.size := htab.size
  have HK := Lib.hid (known6 w htab)
  have HLS := Lib.hid hls
  have HST := Lib.hid hst
  have HR := Lib.hid hr
  have HT := Lib.hid htab
  have HEV := Lib.hid hev
  have hd1 : decide ((40 : Int) < (ls.length : Int)) = false := decide_eq_false (by omega)
  have hd2 : decide ((20 : Int) < (st.length : Int)) = false := decide_eq_false (by omega)
  clear hls hst hr htab hev
  go_enter Tryz.func5, Tryz.ntmps5
  go_wp2_with (first
    | (go_at_call 6; refine HK.out.mono ?_; rintro e w1 ⟨rfl, f1, b1⟩)
    | (go_at_call 18; refine (new18 _).mono ?_; rintro e w2 ⟨rfl, hD2, b2⟩)
    | (go_at_call 11; refine (open11_new w.heap.size _ _ _ hD2 (Nat.le_trans b1.size b2.size) trivial).mono ?_; rintro e w3 ⟨q, rfl, hW3, b3⟩))
  have hmb : w.heap.size ≤ w1.heap.size := b1.size
  have hb13 : Below w.heap.size w w3 := (b1.trans (b2.mono b1.size)).trans (b3.mono (Nat.le_trans b1.size b2.size))
  have J0 : Hid (TnJ q (w1.heap.size + 1) w1.heap.size w ls sy 0 w3) := Lib.hid ⟨[], [], 0, hb13, hW3, Or.inl ⟨rfl, rfl, rfl, rfl⟩, fun j hj => absurd hj (Nat.not_lt_zero _), Or.inl (Int.le_refl _)⟩
  clear hD2 hW3 f1 hb13 b1 b2 b3 hd1 hd2
  go_loopw [10] (fun i wr => ∃ k : Nat, k ≤ ls.length ∧ i = .int .i64 k ∧ TnJ q (w1.heap.size + 1) w1.heap.size w ls sy k wr) (fun i _ => ls.length - (intOf i).toNat)
  case atStart => exact ⟨0, Nat.zero_le _, rfl, J0.out⟩
  case round =>
    obtain ⟨k, hk, rfl, D, ss, s, hbw, hwl, hlg, hbd, hsu⟩ := hrel
    by_cases hlt : k < ls.length
    · obtain ⟨g, off, uo, uc, rfl, _, hcell, huc1, huc2⟩ := HLS.out.at_ k hlt
      obtain ⟨c0, hbx⟩ := hcell wr hbw
      obtain ⟨b, hb⟩ : ∃ b, b = ls.getD k [] := ⟨_, rfl⟩
      have HBX := Lib.hid hbx
      rw [← hb] at c0 huc1
      unfold maxLen at huc2
      have HB := Lib.hid hb
      have HBW := Lib.hid hbw
      have HWL := Lib.hid hwl
      have HLG := Lib.hid hlg
      have HBD := Lib.hid hbd
      have HSU := Lib.hid hsu
      clear hcell hbx hb hbw hwl hlg hbd hsu
      by_cases h60 : 60 < b.length
      · have hd : decide ((60 : Int) < (b.length : Int)) = true := decide_eq_true (by omega)
        clear h60
        go_wp2_with fail
        go_ret
        exact ⟨rfl, HBW.out⟩
      · have hd : decide ((60 : Int) < (b.length : Int)) = false := decide_eq_false (by omega)
        have hbd2 : ∀ j, j < k + 1 → (ls.getD j []).length ≤ 60 := fun j hj => by
          by_cases hjk : j = k
          · rw [hjk, ← HB.out]; omega
          · exact HBD.out j (by omega)
        have hs1 := ents_seqn ls (k + 1) (by omega) hbd2
        rw [ents_succ] at hs1
        obtain ⟨D', ss', hap, hlg2⟩ := HLG.out.append (entT ls k) hs1 (by simp; omega)
        rw [← ents_succ] at hap hlg2
        have happ := torn_append q (w1.heap.size + 1) w1.heap.size w ls k D D' ss ss' s wr _ hmb HT.out hn2 HBW.out HWL.out HLG.out (by omega) hbd2 HBX.out hap
        rw [← HB.out] at happ
        have HAPP := Lib.hid happ
        have HBD2 := Lib.hid hbd2
        have HLG2 := Lib.hid hlg2
        have hq3 : Int.tdiv (k : Int) 3 = ((k / 3 : Nat) : Int) := by
          rw [Int.tdiv_eq_ediv_of_nonneg (by omega)]
          omega
        have hw1 : IntKind.i64.wrap ((k : Int) + 1) = (k : Int) + 1 := IntWalk.i64_in _ (by omega)
        have hw2 : IntKind.u64.wrap ((k : Int) + 1) = (k : Int) + 1 := wrap64s k (by omega)
        have hw3 : IntKind.i64.wrap ((k / 3 : Nat) : Int) = ((k / 3 : Nat) : Int) := IntWalk.i64_in _ (by omega)
        have hw4 : IntKind.u64.wrap ((k / 3 : Nat) : Int) = ((k / 3 : Nat) : Int) := wrap64z _ (by omega)
        clear h60 hbd2 hs1 hap hlg2 happ
        by_cases hsy : (k : Int) ≤ sy
        · have he : decide ((k : Int) ≤ sy) = true := decide_eq_true hsy
          have HSY : Hid (∀ W, Below w.heap.size w W → WlE w.heap.size W q (w1.heap.size + 1) w1.heap.size D' ss' (ents ls (k + 1)) → Calls Tryz.prog 13 #[.pointer (some ⟨q, 0, none⟩)] W fun e w' => e = .returned (.int .i64 0) ∧ Below w.heap.size w w' ∧ WlE w.heap.size w' q (w1.heap.size + 1) w1.heap.size (syncW nmT D') ss' (ents ls (k + 1))) :=
            Lib.hid fun W h1 h2 => torn_sync q (w1.heap.size + 1) w1.heap.size w ls (k + 1) D' ss' s W hmb HT.out HEV.out hn2 HLG2.out (by omega) HBD2.out h1 h2
          go_wp2_with (first
            | (go_at_call 12; (with_reducible refine HAPP.out.mono ?_); rintro e w4 ⟨rfl, hb4, hw4⟩)
            | (go_at_call 13; (with_reducible refine (HSY.out _ hb4 hw4).mono ?_); rintro e w5 ⟨rfl, hb5, hw5⟩))
          go_roundw
          case rel =>
            refine ⟨k + 1, by omega, by go_num, _, _, _, hb5, hw5, HLG2.out.sync (by simp; omega), HBD2.out, Or.inl (by simp)⟩
          case measure => simp [intOf]; omega
        · have he : decide ((k : Int) ≤ sy) = false := decide_eq_false hsy
          go_wp2_with (go_at_call 12; (with_reducible refine HAPP.out.mono ?_); rintro e w4 ⟨rfl, hb4, hw4⟩)
          go_roundw
          case rel =>
            refine ⟨k + 1, by omega, by go_num, _, _, _, hb4, hw4, HLG2.out, HBD2.out, ?_⟩
            rcases HSU.out with h | h
            · exact Or.inr (by omega)
            · exact Or.inr h
          case measure => simp [intOf]; omega
    · have hke : k = ls.length := by omega
      subst hke
      have hll : decide ((ls.length : Int) < (ls.length : Int)) = false := decide_eq_false (by omega)
      have hs0 := ents_seqn ls ls.length h40 hbd
      have hl40 : (ents ls ls.length).length ≤ 40 := by simp; omega
      have hcr := hlg.crash hs0 hl40 st
      obtain ⟨gs, hop⟩ := hcr.open_ hs0 hl40
      have hcrash := torn_crash q (w1.heap.size + 1) w1.heap.size w ls ls.length D ss s st sa sc wr hmb hlg h40 hbd hbw hwl HST.out HR.out
      generalize crashT st D = D1 at hcrash hcr hop
      have hop1 : ∀ W, Below w.heap.size w W → Dp W (w1.heap.size + 1) w1.heap.size D1 → Calls Tryz.prog 11 #[.pointer (some ⟨w1.heap.size + 1, 0, none⟩)] W fun e w' => ∃ q2, e = .returned (.tuple #[.pointer (some ⟨q2, 0, none⟩), .int .i64 0]) ∧ Below w.heap.size w w' ∧ WlE w.heap.size w' q2 (w1.heap.size + 1) w1.heap.size (openT nmT D1).1 (openT nmT D1).2.1 (openT nmT D1).2.2 :=
        fun W x1 x2 => torn_open1 (w1.heap.size + 1) w1.heap.size w _ D1 s W hmb HT.out HEV.out hn2 hcr hs0 hl40 x1 x2
      generalize openT nmT D1 = T at hop1 hop
      obtain ⟨D2, ss2, a⟩ := T
      simp only at hop1 hop
      have hop2 := fun W q2 (x1 : Below w.heap.size w W) (x2 : WlE w.heap.size W q2 (w1.heap.size + 1) w1.heap.size D2 ss2 a) => torn_open2 (w1.heap.size + 1) w1.heap.size q2 w _ a D2 ss2 s gs W hmb HT.out HEV.out hn2 hop hs0 x1 x2
      have hsa : Seqn a := by rw [hop.row]; exact hop.seqn hs0
      have hen := fun W q2 (x1 : Lg q2 (w1.heap.size + 1) W a) => torn_entries q2 (w1.heap.size + 1) a W x1 hsa
      have hlo := fun W (x1 : Dp W (w1.heap.size + 1) w1.heap.size D2) => torn_loose (w1.heap.size + 1) w1.heap.size _ a D2 ss2 s gs W hop hs0 x1
      have hal : a.length ≤ ls.length := by
        obtain ⟨t, ht⟩ := hop.pre
        have := congrArg List.length ht
        simp at this
        omega
      have hae : ∀ i (h : i < a.length), a[i] = entT ls i := by
        intro i hi
        obtain ⟨t, ht⟩ := hop.pre
        have h1 : (ents ls ls.length)[i]'(by simp; omega) = entT ls i := ents_get ls ls.length i (by simp; omega)
        simp only [ht] at h1
        rw [List.getElem_append_left hi] at h1
        exact h1
      have hsure := hop.sure
      have hz2 : RowKit.wrap64 (sy + 1) = sy + 1 ∨ RowKit.wrap64 (sy + 1) ≤ 0 := by
        unfold RowKit.wrap64
        omega
      have hm : min (ls.length : Int) (max 0 (RowKit.wrap64 (sy + 1))) ≤ (a.length : Int) := by omega
      have HCRA := Lib.hid hcrash
      have HOP1 := Lib.hid hop1
      have HOP2 := Lib.hid hop2
      have HEN := Lib.hid hen
      have HLO := Lib.hid hlo
      have HAE := Lib.hid hae
      clear hs0 hl40 hcr hop hcrash hop1 hop2 hen hlo hae hbw hwl hlg hbd hsu hsure hz2
      go_wp2_with (first
        | (go_at_call 24; (with_reducible refine HCRA.out.mono ?_); rintro e w4 ⟨rfl, hb4, hd4⟩)
        | (go_at_call 11; (with_reducible refine (HOP1.out _ hb4 hd4).mono ?_); rintro e w5 ⟨q2, rfl, hb5, hw5⟩)
        | (go_at_call 11; (with_reducible refine (HOP2.out _ _ hb5 hw5).mono ?_); rintro e w6 ⟨q3, rfl, hb6, hl2, hl3, hd6⟩)
        | (go_at_call 15; (with_reducible refine (HEN.out _ _ hl2).mono ?_); rintro e w7 ⟨a7, c7, rfl, he7, b7⟩)
        | (go_at_call 15; (with_reducible refine (HEN.out _ _ (hl3.below b7 (Nat.le_refl _))).mono ?_); rintro e w8 ⟨a8, c8, rfl, he8, b8⟩)
        | (go_at_call 33; (with_reducible refine (HLO.out _ ((hd6.below b7 (Nat.le_refl _)).below b8 (Nat.le_refl _))).mono ?_); rintro e w9 ⟨a9, c9, rfl, b9⟩))
      · rename (¬ ls.length < a.length) ∧ _ => hx
        clear hx
        clear hm HCRA HOP1 HOP2 HEN HLO hd4 hw5 hl2 hl3 hd6 hll
        have hb9 : Below w.heap.size w w9 := ((hb6.trans (b7.mono hb6.size)).trans (b8.mono (Nat.le_trans hb6.size b7.size))).trans (b9.mono (Nat.le_trans hb6.size (Nat.le_trans b7.size b8.size)))
        have b79 : Below w7.heap.size w7 w9 := b8.trans (b9.mono b8.size)
        have HB9 := Lib.hid hb9
        have HE7 := Lib.hid he7
        have HE8 := Lib.hid he8
        have HB79 := Lib.hid b79
        have HB89 := Lib.hid b9
        clear hb9 he7 he8 b79 b9 b8 b7 hb6 hb5 hb4
        go_loopw [15] (fun i wr => ∃ k : Nat, k ≤ a.length ∧ i = .int .i64 k ∧ Below w9.heap.size w9 wr) (fun i _ => a.length - (intOf i).toNat)
        case atStart => exact ⟨0, Nat.zero_le _, rfl, Below.refl _ _⟩
        case round =>
          rename World => wz
          obtain ⟨k, hk, rfl, hbz⟩ := hrel
          by_cases hlt2 : k < a.length
          · have hbwz : Below w.heap.size w wz := HB9.out.trans (hbz.mono HB9.out.size)
            obtain ⟨g, off, uo, uc, rfl, _, hcell, huc1, huc2⟩ := HLS.out.at_ k (by omega)
            obtain ⟨g7, uo7, uc7, rfl, c70, c71, c72, hb7⟩ := HE7.out.at_ k hlt2
            obtain ⟨g8, uo8, uc8, rfl, c80, c81, c82, hb8⟩ := HE8.out.at_ k hlt2
            have hak := HAE.out k hlt2
            rw [hak] at c70 c71 c72 hb7 c80 c81 c82 hb8
            have bz7 : Below w7.heap.size w7 wz := HB79.out.trans (hbz.mono HB79.out.size)
            have bz8 : Below w8.heap.size w8 wz := HB89.out.trans (hbz.mono HB89.out.size)
            have mv7 : ∀ {p : Addr} {v : Value}, w7.cell? p = some v → wz.cell? p = some v := fun {p v} h => (bz7.cell (World.block_lt_of_cell? w7 _ h)).trans h
            have mv8 : ∀ {p : Addr} {v : Value}, w8.cell? p = some v → wz.cell? p = some v := fun {p v} h => (bz8.cell (World.block_lt_of_cell? w8 _ h)).trans h
            obtain ⟨b, hb⟩ : ∃ b, b = ls.getD k [] := ⟨_, rfl⟩
            have hbe : (entT ls k).b = b := hb.symm
            rw [hbe] at c72 c82 hb7 hb8
            obtain ⟨cx, hbx⟩ := hcell wz hbwz
            rw [← hb] at cx hbx
            have hex : entT ls k = ⟨k + 1, k / 3, b⟩ := by rw [hb]; rfl
            rw [hex] at c70 c71 c80 c81
            have d70 := mv7 c70
            have d71 := mv7 c71
            have d72 := mv7 c72
            have d80 := mv8 c80
            have d81 := mv8 c81
            have d82 := mv8 c82
            have t7 := hb7.1.below bz7 (Nat.le_refl _)
            have t8 := hb8.1.below bz8 (Nat.le_refl _)
            have HS1 : Hid (∀ W, Below wz.heap.size wz W → Calls Tryz.prog 17 #[.agg #[.int .u64 ((k : Int) + 1), .int .u64 ((k : Int) / 3), .slice uo7 b.length uc7], .agg #[.int .u64 ((k : Int) + 1), .int .u64 ((k : Int) / 3), .slice uo8 b.length uc8]] W fun e w' => e = .returned (.bool true) ∧ Below wz.heap.size wz w') := Lib.hid fun W h => by
              have := same17 ⟨k + 1, k / 3, b⟩ ⟨k + 1, k / 3, b⟩ _ _ W (t7.below h (Nat.le_refl _)) (t8.below h (Nat.le_refl _))
              rw [sameE_refl] at this
              exact this.mono fun e w' ⟨h1, h2⟩ => ⟨h1, h.trans (h2.mono h.size)⟩
            have HS2 : Hid (∀ W, Below wz.heap.size wz W → Calls Tryz.prog 17 #[.agg #[.int .u64 ((k : Int) + 1), .int .u64 ((k : Int) / 3), .slice uo7 b.length uc7], .agg #[.int .u64 ((k : Int) + 1), .int .u64 ((k : Int) / 3), .slice uo b.length uc]] W fun e w' => e = .returned (.bool true) ∧ Below wz.heap.size wz w') := Lib.hid fun W h => by
              have := same17 ⟨k + 1, k / 3, b⟩ ⟨k + 1, k / 3, b⟩ _ _ W (t7.below h (Nat.le_refl _)) (hbx.1.below h (Nat.le_refl _))
              rw [sameE_refl] at this
              exact this.mono fun e w' ⟨h1, h2⟩ => ⟨h1, h.trans (h2.mono h.size)⟩
            have HS : Hid (∀ W, Below wz.heap.size wz W → Below wz.heap.size wz W ∧ W.cell? ⟨g7, k * 3, none⟩ = some (.int .u64 ((k : Int) + 1)) ∧ W.cell? ⟨g7, k * 3 + 1, none⟩ = some (.int .u64 ((k : Int) / 3)) ∧ W.cell? ⟨g7, k * 3 + 2, none⟩ = some (.slice uo7 b.length uc7) ∧
                W.cell? ⟨g8, k * 3, none⟩ = some (.int .u64 ((k : Int) + 1)) ∧ W.cell? ⟨g8, k * 3 + 1, none⟩ = some (.int .u64 ((k : Int) / 3)) ∧ W.cell? ⟨g8, k * 3 + 2, none⟩ = some (.slice uo8 b.length uc8) ∧ W.cell? ⟨g, off + k, none⟩ = some (.slice uo b.length uc)) := Lib.hid fun W h => by
              have mv : ∀ {p : Addr} {v : Value}, wz.cell? p = some v → W.cell? p = some v := fun {p v} h2 => (h.cell (World.block_lt_of_cell? wz _ h2)).trans h2
              exact ⟨h, mv d70, mv d71, mv d72, mv d80, mv d81, mv d82, mv cx⟩
            have HBZ := Lib.hid hbz
            have hq3 : Int.tdiv (k : Int) 3 = (k : Int) / 3 := Int.tdiv_eq_ediv_of_nonneg (by omega)
            have hkl : k < ls.length := by omega
            unfold maxLen at huc2
            have huc1' : b.length ≤ uc := by rw [hb]; exact huc1
            clear hcell hb7 hb8 hak bz7 bz8 mv7 mv8 hb hbe cx hbx hex c70 c71 c72 c80 c81 c82 d70 d71 d72 d80 d81 d82 t7 t8 hbz hbwz huc1
            have hv1 : IntKind.i64.wrap ((k : Int) + 1) = (k : Int) + 1 := IntWalk.i64_in _ (by omega)
            have hv2 : IntKind.u64.wrap ((k : Int) + 1) = (k : Int) + 1 := wrap64s k (by omega)
            have hv3 : IntKind.i64.wrap ((k : Int) / 3) = (k : Int) / 3 := IntWalk.i64_in _ (by omega)
            have hv4 : IntKind.u64.wrap ((k : Int) / 3) = (k : Int) / 3 := wrap64z (k / 3) (by omega)
            go_wp2_with fail
            go_region_held3 (fun W => Below wz.heap.size wz W ∧ W.cell? ⟨g7, k * 3, none⟩ = some (.int .u64 ((k : Int) + 1)) ∧ W.cell? ⟨g7, k * 3 + 1, none⟩ = some (.int .u64 ((k : Int) / 3)) ∧ W.cell? ⟨g7, k * 3 + 2, none⟩ = some (.slice uo7 b.length uc7) ∧
                W.cell? ⟨g8, k * 3, none⟩ = some (.int .u64 ((k : Int) + 1)) ∧ W.cell? ⟨g8, k * 3 + 1, none⟩ = some (.int .u64 ((k : Int) / 3)) ∧ W.cell? ⟨g8, k * 3 + 2, none⟩ = some (.slice uo8 b.length uc8) ∧ W.cell? ⟨g, off + k, none⟩ = some (.slice uo b.length uc))
              (first | exact HS.out _ ((Below.refl _ _).drew) | exact HS.out _ hb10 | exact HS.out _ hb11)
              (first
                | (go_at_call 17; (with_reducible refine (HS1.out _ (Below.refl wz.heap.size wz).drew).mono ?_); rintro e w10 ⟨rfl, hb10⟩)
                | (go_at_call 17; (with_reducible refine (HS2.out _ hb10).mono ?_); rintro e w11 ⟨rfl, hb11⟩))
            all_goals (
              go_wp2_with fail
              go_roundw
              case rel => exact ⟨k + 1, by omega, by go_num, HBZ.out.trans (hb11.mono HBZ.out.size)⟩
              case measure => simp [intOf]; omega)
          · have hke2 : k = a.length := by omega
            have HBZ := Lib.hid hbz
            clear hbz
            go_wp2_with fail
            go_ret
            exact ⟨rfl, HB9.out.trans (HBZ.out.mono HB9.out.size)⟩

theorem torn5 (ls : List (List UInt8)) (sy : Int) (st : List Int) (la : Option Addr) (lc : Nat) (sa : Option Addr) (sc : Nat) (w : World) (hls : Bts w (.slice la ls.length lc) ls) (hst : Sl w 1 (.slice sa st.length sc) st.length (iv st))
    (hr : ∀ z ∈ st, z ≤ 9223372036854775807) (hsy1 : -9223372036854775808 ≤ sy) (hsy2 : sy ≤ 9223372036854775807) (htab : PowTab w) (hev : ErrV w) :
    Calls Tryz.prog 5 #[.slice la ls.length lc, .int .i64 sy, .slice sa st.length sc] w fun e w' => e = .returned (.bool true) ∧ Below w.heap.size w w' := by
  by_cases h : 40 < ls.length ∨ 20 < st.length
  · exact torn5_big ls sy st la lc sa sc w htab h
  · exact torn5_small ls sy st la lc sa sc w hls hst hr hsy1 hsy2 htab hev (by omega) (by omega)
end Go.Proofs.YtpcipfnahknngaaGreatDoor

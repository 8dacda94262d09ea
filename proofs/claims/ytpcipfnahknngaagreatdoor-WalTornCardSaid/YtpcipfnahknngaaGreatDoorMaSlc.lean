/- Texts of seat wal in one: Slc Pack Tx Ty Val. No statement of the seat. -/
import Derived.Test.YtpcipfnahknngaaGreatDoorBase
import Derived.WalkSpells
import Derived.BigQuiet
import Derived.Deep.QuietTactic
import Derived.Lib.AppendZeros
/- Contracts of the library's slices.Clone, Equal, Grow, Concat at bytes. No statement of the seat. -/
namespace Go.Proofs.YtpcipfnahknngaaGreatDoor
open Go.RowKit

set_option maxRecDepth 100000 in
set_option maxHeartbeats 800000 in
theorem clone56 (v : Value) (l : List UInt8) (w : World) (hv : Bt w v l) (hl : l.length ≤ 140737488351232) :
    Calls Tryz.prog 56 #[v] w fun e w' => ∃ v', e = .returned v' ∧ w'.ownsRow w.heap.size 5 1 v' l.length (bv l) ∧ Below w.heap.size w w' := by
  have hv0 := hv
  obtain ⟨y1, y2, ao, cap, rfl, y3, y4, y7, y5⟩ := hv0
  cases ao with
  | none =>
    have hn : l.length = 0 := by
      rcases y5 with y5 | ⟨g, off, y5, _⟩
      · exact y5
      · cases y5
    have hl0 : l = [] := List.eq_nil_of_length_eq_zero hn
    subst hl0
    obtain rfl := y7 rfl
    have heq := Lib.run_eql_slice_nil (P := Tryz.prog) w 23 5 none 0 0 0 0 Tryz.underlying23
    show Calls Tryz.prog 56 #[.slice none 0 0] w _
    clear hv y5
    go_enter Tryz.func56, Tryz.ntmps56
    go_wp2
    go_ret
    exact ⟨_, rfl, World.ownsRow_nil _ _ _ _, Below.refl _ _⟩
  | some ad =>
    clear y5
    have heq := Lib.run_eql_slice_nil (P := Tryz.prog) w 23 5 (some ad) l.length cap 0 0 Tryz.underlying23
    go_enter Tryz.func56, Tryz.ntmps56
    go_wp2_with (at_builtin; refine wl_appB rfl _ _ rfl w.heap.size _ [] rfl ?_ _ l rfl (hv.below ((Below.refl _ _).alloc (Nat.le_refl _) _) (Nat.le_refl _)) ?_ ?_ ?_; rotate_right; intro v' w1 hown1 hgrow1)
    · go_ret
      refine ⟨_, rfl, by simpa using hown1, ((Below.refl _ _).alloc (Nat.le_refl _) _).grown hgrow1 (by simp) ?_⟩
      intro k hk
      cases hk
      exact Nat.le_refl _
    · exact World.ownsRow_made (w := w) #[] 0 (Nat.le_refl _) (by decide) rfl
    · simp; omega
    · simp

/-- two rows of bytes are one, or not -/
def sameB (l m : List UInt8) : Bool := l == m

theorem take_ne (l m : List UInt8) (k : Nat) (h1 : k < l.length) (h2 : k < m.length) (h : (l[k]).toNat ≠ (m[k]).toNat) : sameB l m = false := by
  unfold sameB
  rw [beq_eq_false_iff_ne]
  rintro rfl
  exact h rfl

set_option maxRecDepth 100000 in
set_option maxHeartbeats 800000 in
theorem equal57 (v u : Value) (l m : List UInt8) (w : World) (hv : Bt w v l) (hu : Bt w u m) :
    Calls Tryz.prog 57 #[v, u] w fun e w' => e = .returned (.bool (sameB l m)) ∧ ∃ q, w' = w.drewN q := by
  obtain ⟨y1, y2, ao, cap, rfl, y3, y4, y7, y5⟩ := hv
  obtain ⟨z1, z2, bo, dap, rfl, z3, z4, z7, z5⟩ := hu
  unfold maxLen at y4 z4
  clear y1 y2 z1 z2 y7 z7
  by_cases hne : l.length = m.length
  · rcases z5 with z5 | ⟨g2, off2, rfl, c2⟩
    · have hm0 : m = [] := List.eq_nil_of_length_eq_zero z5
      have hl0 : l = [] := List.eq_nil_of_length_eq_zero (by omega)
      subst hm0 hl0
      clear hne z5 y5
      go_enter Tryz.func57, Tryz.ntmps57
      go_wp2
      refine wp_loop_rounds 1 ?_
      rw [rounds_succ]
      go_wp2
      go_ret
      exact ⟨rfl, 0, rfl⟩
    rcases y5 with y5 | ⟨g1, off1, rfl, c1⟩
    · have hl0 : l = [] := List.eq_nil_of_length_eq_zero y5
      have hm0 : m = [] := List.eq_nil_of_length_eq_zero (by omega)
      subst hm0 hl0
      clear hne y5 c2
      go_enter Tryz.func57, Tryz.ntmps57
      go_wp2
      refine wp_loop_rounds 1 ?_
      rw [rounds_succ]
      go_wp2
      go_ret
      exact ⟨rfl, 0, rfl⟩
    have HE := Lib.hid hne
    have hle : m.length ≤ l.length := by omega
    have hge : l.length ≤ m.length := by omega
    have hb : ((l.length : Int) != (m.length : Int)) = false := by simp [hne]
    clear hne
    have C1 := Lib.hid c1
    have C2 := Lib.hid c2
    clear c1 c2
    go_enter Tryz.func57, Tryz.ntmps57
    go_wp2
    clear hb
    go_loopw [13] (fun i wr => ∃ k : Nat, k ≤ l.length ∧ i = .int .i64 k ∧ (∃ q, wr = w.drewN q) ∧ l.take k = m.take k) (fun i _ => l.length - (intOf i).toNat)
    case atStart => exact ⟨0, Nat.zero_le _, rfl, ⟨0, rfl⟩, by simp⟩
    case round =>
      obtain ⟨k, hk, rfl, ⟨q, rfl⟩, ht⟩ := hrel
      have HT := Lib.hid ht
      clear ht
      by_cases hlt : k < l.length
      · have d1 := C1.out k _ (bv_get l k hlt)
        have d2 := C2.out k _ (bv_get m k (by omega))
        go_wp2
        go_quiet (fail)
        go_wp2
        · have hh : (((l[k]).toNat : Int) != ((m[k]).toNat : Int)) = true := by assumption
          go_ret
          refine ⟨?_, _, World.drewN_drewN _ _ _⟩
          rw [take_ne l m k hlt (by omega) (by simp at hh; omega)]
          rfl
        · have hh : (((l[k]).toNat : Int) != ((m[k]).toNat : Int)) = false := by assumption
          go_roundw
          case rel =>
            refine ⟨k + 1, by omega, by go_num, ⟨_, rfl⟩, ?_⟩
            have e1 : l[k] = m[k] := UInt8.toNat_inj.1 (by simp at hh; omega)
            rw [List.take_succ_eq_append_getElem hlt, List.take_succ_eq_append_getElem (by omega), HT.out, e1]
          case measure => simp [intOf]; omega
      · go_wp2
        go_ret
        have hkl : k = l.length := by omega
        subst hkl
        refine ⟨?_, q, rfl⟩
        have h1 := HT.out
        rw [List.take_length, ← HE.out.symm, List.take_length] at h1
        rw [h1]
        simp [sameB]
  · have hs : sameB l m = false := by
      unfold sameB
      rw [beq_eq_false_iff_ne]
      rintro rfl
      exact hne rfl
    have hne' : ¬ ((l.length : Int) = (m.length : Int)) := by omega
    clear hne
    go_enter Tryz.func57, Tryz.ntmps57
    go_wp2
    all_goals first
      | (exfalso; have hh : ((l.length : Int) != (m.length : Int)) = false := (by assumption); simp at hh; omega)
      | (go_ret; exact ⟨by rw [hs]; rfl, 0, rfl⟩)

theorem own_trans {w w1 w2 : World} {B : Nat} (h1 : Below B w w1) (h2 : Below w1.heap.size w1 w2) (h : B ≤ w.heap.size) : Below B w w2 :=
  h1.trans (h2.mono (Nat.le_trans h h1.size))

set_option maxRecDepth 100000 in
set_option maxHeartbeats 800000 in
theorem grow97 (n : Nat) (w : World) (hn : n ≤ 140737488351232) :
    Calls Tryz.prog 97 #[.slice none 0 0, .int .i64 n] w fun e w' => ∃ v', e = .returned v' ∧ w'.ownsRow w.heap.size 5 1 v' 0 (bv []) ∧ Below w.heap.size w w' := by
  by_cases h0 : 0 < n
  · obtain ⟨i0, hi, hz0, hz1, hz2⟩ := info_parts info5
    have hr := Lib.run_append_nil_zeros (P := Tryz.prog) w 23 3 23 5 i0 (.int .u8 0) .i64 .i64 Tryz.underlying23 Tryz.underlying3 hi hz0 n h0 (by omega) (by omega) (by rw [hz2]; omega)
    have hge := grownCap_ge w n 0 5
    have hle := grownCap_le_maxLen w n 0 5 (by unfold maxLen; omega)
    go_enter Tryz.func97, Tryz.ntmps97
    go_wp2_with (refine Lib.wpList_append_run w rfl _ _ 23 3 rfl _ _ rfl rfl _ _ hr ?_)
    go_ret
    refine ⟨_, rfl, ?_, ((Below.refl _ _).drew).alloc (Nat.le_refl _) _⟩
    exact World.ownsRow_made (w := w.drew) _ _ (Nat.le_refl _) hle (by simp [Builtin.zeroCells]; omega)
  · have hn0 : n = 0 := by omega
    subst hn0
    clear h0
    show Calls Tryz.prog 97 #[.slice none 0 0, .int .i64 0] w _
    go_enter Tryz.func97, Tryz.ntmps97
    go_wp2
    go_ret
    exact ⟨_, rfl, World.ownsRow_nil _ _ _ _, Below.refl _ _⟩

/-- v is a slice of byte slices -/
def Bts (w : World) (v : Value) (ls : List (List UInt8)) : Prop :=
  ∃ vs, Sl w 1 v ls.length vs ∧ ∀ k (h : k < ls.length), ∃ u, vs[k]? = some u ∧ Bt w u ls[k]

/-- the first k rows, one behind the other; how many bytes these are -/
def fk (ls : List (List UInt8)) (k : Nat) : List UInt8 := (ls.take k).flatten
def fn (ls : List (List UInt8)) (k : Nat) : Nat := (fk ls k).length
theorem fk_succ (ls : List (List UInt8)) (k : Nat) (h : k < ls.length) : fk ls (k + 1) = fk ls k ++ ls[k] := by
  unfold fk
  rw [List.take_succ_eq_append_getElem h, List.flatten_append]
  simp
theorem fn_succ (ls : List (List UInt8)) (k : Nat) (h : k < ls.length) : fn ls (k + 1) = fn ls k + ls[k].length := by
  unfold fn
  rw [fk_succ ls k h, List.length_append]
theorem fk_all (ls : List (List UInt8)) : fk ls ls.length = ls.flatten := by unfold fk; rw [List.take_length]
theorem fn_le (ls : List (List UInt8)) (k : Nat) : fn ls k ≤ ls.flatten.length := by
  unfold fn fk
  have : ls.flatten = (ls.take k).flatten ++ (ls.drop k).flatten := by rw [← List.flatten_append, List.take_append_drop]
  rw [this, List.length_append]
  omega

set_option maxRecDepth 100000 in
set_option maxHeartbeats 1600000 in
theorem concat69 (v : Value) (ls : List (List UInt8)) (w : World) (hv : Bts w v ls) (hl : ls.flatten.length ≤ 140737488351232) :
    Calls Tryz.prog 69 #[v] w fun e w' => ∃ v', e = .returned v' ∧ w'.ownsRow w.heap.size 5 1 v' ls.flatten.length (bv ls.flatten) ∧ Below w.heap.size w w' := by
  obtain ⟨vs, ⟨y1, y2, ao, cap, rfl, y3, y4, y7, y5⟩, he⟩ := hv
  unfold maxLen at y4
  clear y1 y2 y7
  have HE := Lib.hid he
  have Y5 := Lib.hid y5
  have HL := Lib.hid hl
  clear he y5 hl
  go_enter Tryz.func69, Tryz.ntmps69
  go_wp2
  go_loop [3, 11] (fun s i => ∃ k : Nat, k ≤ ls.length ∧ i = .int .i64 k ∧ s = .int .i64 (fn ls k)) (fun _ i => ls.length - (intOf i).toNat)
  case atStart => exact ⟨0, Nat.zero_le _, rfl, by simp [fn, fk]⟩
  case round =>
    obtain ⟨k, hk, rfl, rfl⟩ := hrel
    by_cases hlt : k < ls.length
    · obtain ⟨u, hu1, hu2⟩ := HE.out k hlt
      obtain ⟨x1, x2, bo, dap, rfl, x3, x4, x7, x5⟩ := hu2
      clear x1 x2 x5 x7
      obtain ⟨g, off, rfl, hc⟩ := Y5.out.resolve_left (by omega)
      have d1 := hc k _ hu1
      have f1 := fn_succ ls k hlt
      have f2 : fn ls k + ls[k].length ≤ 140737488351232 := by have a1 := fn_le ls (k + 1); have a2 := HL.out; omega
      have F1 := Lib.hid f1
      clear f1 hc hu1
      go_wp2
      go_round
      case rel => exact ⟨k + 1, by omega, by go_num, by rw [F1.out]; go_num⟩
      case measure => simp [intOf]; omega
    · have hkl : k = ls.length := by omega
      have f2 : fn ls k ≤ 140737488351232 := by have a1 := fn_le ls k; have a2 := HL.out; omega
      have HK := Lib.hid hkl
      clear hkl
      go_wp2_with (go_at_call 97; refine (grow97 (fn ls k) _ f2).mono ?_; rintro e w1 ⟨v', rfl, hown, hbel⟩)
      go_loopw [6, 27] (fun v i wr => ∃ j : Nat, j ≤ ls.length ∧ i = .int .i64 j ∧ wr.ownsRow w.heap.size 5 1 v (fk ls j).length (bv (fk ls j)) ∧ Below w.heap.size w wr) (fun _ i _ => ls.length - (intOf i).toNat)
      case atStart => exact ⟨0, Nat.zero_le _, rfl, hown, hbel⟩
      case round =>
        obtain ⟨j, hj, rfl, hown1, hbel1⟩ := hrel
        by_cases hlt : j < ls.length
        · obtain ⟨u, hu1, hu2⟩ := HE.out j hlt
          have hu3 := hu2.below hbel1 (Nat.le_refl _)
          obtain ⟨g, off, rfl, hc⟩ := Y5.out.resolve_left (by omega)
          have d0 := hc j _ hu1
          have d1 : wr.cell? ⟨g, off + j, none⟩ = some u := by
            rw [hbel1.cell (p := ⟨g, off + j, none⟩) (World.block_lt_of_cell? w _ d0)]; exact d0
          have F1 := Lib.hid (fk_succ ls j hlt)
          have f2 : (fk ls j).length + ls[j].length ≤ 140737488351232 := by have a1 := fn_le ls (j + 1); have a2 := HL.out; have a3 := fn_succ ls j hlt; unfold fn at a1 a3; omega
          clear hc hu1 hu2
          go_wp2_with (at_builtin; refine wl_appB rfl _ _ rfl w.heap.size _ (fk ls j) rfl hown1 _ ls[j] rfl hu3 (by omega) hbel1.size ?_; intro v2 w2 hown2 hgrow2)
          go_roundw
          case rel => exact ⟨j + 1, by omega, by go_num, by rw [F1.out]; exact hown2, hbel1.grown hgrow2 hbel1.size (fun b hb => (hown1.lt b hb).1)⟩
          case measure => simp [intOf]; omega
        · go_wp2
          have hjl : j = ls.length := by omega
          subst hjl
          go_ret
          rw [fk_all] at hown1
          exact ⟨_, rfl, hown1, hbel1⟩

set_option maxRecDepth 100000 in
theorem join35 (v : Value) (ls : List (List UInt8)) (w : World) (hv : Bts w v ls) (hl : ls.flatten.length ≤ 140737488351232) :
    Calls Tryz.prog 35 #[v] w fun e w' => ∃ v', e = .returned v' ∧ w'.ownsRow w.heap.size 5 1 v' ls.flatten.length (bv ls.flatten) ∧ Below w.heap.size w w' := by
  have hb := concat69 v ls w hv hl
  obtain ⟨vs, ⟨y1, y2, ao, cap, rfl, y3, y4, y7, y5⟩, he⟩ := hv
  go_enter Tryz.func35, Tryz.ntmps35
  go_wp2_with (go_at_call 69; refine hb.mono ?_; rintro e w1 ⟨v', rfl, hown, hbel⟩)
  go_ret
  exact ⟨_, rfl, hown, hbel⟩
end Go.Proofs.YtpcipfnahknngaaGreatDoor

/- Contracts of package pack: Put, PutText, Join, Take, TakeText. No statement of the seat. -/
namespace Go.Proofs.YtpcipfnahknngaaGreatDoor
open Go.RowKit

/-- the bytes of a number -/
def putL (n : Nat) : List UInt8 := if n < 128 then [UInt8.ofNat n] else UInt8.ofNat (n % 128 + 128) :: putL (n / 128)
termination_by n
decreasing_by omega

theorem putL_small {n : Nat} (h : n < 128) : putL n = [UInt8.ofNat n] := by rw [putL, if_pos h]
theorem putL_big {n : Nat} (h : ¬ n < 128) : putL n = UInt8.ofNat (n % 128 + 128) :: putL (n / 128) := by rw [putL, if_neg h]

theorem or128_all : ∀ k : Fin 256, bits BinOp.or IntKind.u8 ((k.val : Nat) : Int) 128 = ((k.val % 128 + 128 : Nat) : Int) := by decide +kernel
theorem or128 (m : Nat) : bits BinOp.or IntKind.u8 ((m : Int) % 256) 128 = ((m % 128 + 128 : Nat) : Int) := by
  have h := or128_all ⟨m % 256, Nat.mod_lt _ (by decide)⟩
  have e0 : ((m % 256 : Nat) : Int) = (m : Int) % 256 := by omega
  simp only [e0] at h
  have e : m % 256 % 128 = m % 128 := by omega
  rw [e] at h
  exact h

theorem plen {m k n : Nat} (h1 : k = 0 ∨ 1 ≤ m) (h2 : m * 128 ^ k ≤ n) (hn : n < 18446744073709551616) : k ≤ 9 := by
  rcases Nat.lt_or_ge 9 k with h | h
  · exfalso
    have h3 : 128 ^ 10 ≤ 128 ^ k := Nat.pow_le_pow_right (by decide) h
    have h4 : 1 * 128 ^ k ≤ m * 128 ^ k := Nat.mul_le_mul_right _ (by omega)
    have h5 : (128 : Nat) ^ 10 = 1180591620717411303424 := by decide
    omega
  · exact h

/-- behind an append: what was there is as it was -/
theorem below_app {w wr w1 : World} {e : TypeId} {sz n : Nat} {v : Value} {xs : List Value} {o : Obj} (hbel : Below w.heap.size w wr) (hown : wr.ownsRow w.heap.size e sz v n xs) (hgrow : (wr.alloc o).grownBy w1 v.ownBlock) : Below w.heap.size w w1 :=
  (hbel.alloc hbel.size o).grown hgrow (by have := hbel.size; simp; omega) (fun k hk => (hown.lt k hk).1)

set_option maxRecDepth 100000 in
set_option maxHeartbeats 800000 in
theorem put_any (n : Nat) (hn : n < 18446744073709551616) (w : World) :
    Calls Tryz.prog 36 #[.int .u64 n] w fun e w' => ∃ v, e = .returned v ∧ w'.ownsRow w.heap.size 5 1 v (putL n).length (bv (putL n)) ∧ Below w.heap.size w w' := by
  have HN := Lib.hid hn
  clear hn
  go_enter Tryz.func36, Tryz.ntmps36
  go_wp2
  go_loopw [0, 3] (fun t v wr => ∃ (m : Nat) (p : List UInt8), t = .int .u64 m ∧ putL n = p ++ putL m ∧ wr.ownsRow w.heap.size 5 1 v p.length (bv p) ∧ Below w.heap.size w wr ∧ (p.length = 0 ∨ 1 ≤ m) ∧ m * 128 ^ p.length ≤ n) (fun t _ _ => (intOf t).toNat)
  case atStart => exact ⟨n, [], rfl, by simp, World.ownsRow_nil _ _ _ _, Below.refl _ _, by simp, by simp⟩
  case round =>
    obtain ⟨m, p, rfl, hp, hown, hbel, hp1, hpl⟩ := hrel
    have HP := Lib.hid hp
    have hk := plen hp1 hpl HN.out
    have HL := Lib.hid hpl
    clear hp hpl hp1
    by_cases h : m < 128
    · go_wp2_with (at_builtin; refine wl_appB rfl _ _ rfl w.heap.size _ p rfl (hown.alloc _) _ _ rfl (Bt.one wr _ ?_ ?_) ?_ ?_ ?_; rotate_right; intro v' w1 hown1 hgrow1)
      · go_ret
        refine ⟨_, rfl, ?_, below_app hbel hown hgrow1⟩
        rw [HP.out, putL_small h]
        simpa using hown1
      · omega
      · omega
      · simp; omega
      · have := hbel.size; simp; omega
    · go_wp2_with (at_builtin; refine wl_appB rfl _ _ rfl w.heap.size _ p rfl (hown.alloc _) _ _ rfl (Bt.one wr _ ?_ ?_) ?_ ?_ ?_; rotate_right; intro v' w1 hown1 hgrow1)
      · go_roundw
        case rel =>
          refine ⟨m / 128, p ++ [UInt8.ofNat (m % 128 + 128)], by go_num, ?_, ?_, below_app hbel hown hgrow1, Or.inr ?_, ?_⟩
          · rw [HP.out, putL_big h]; simp
          · rw [or128, Int.toNat_natCast] at hown1; exact hown1
          · omega
          · rw [List.length_append, List.length_singleton, Nat.pow_succ, Nat.mul_comm (128 ^ p.length), ← Nat.mul_assoc]; exact Nat.le_trans (Nat.mul_le_mul_right _ (by omega)) HL.out
        case measure => simp [intOf]; omega
      · rw [or128]; omega
      · rw [or128]; omega
      · simp; omega
      · have := hbel.size; simp; omega

/-- a number's bytes, read from a place on: the number, how many bytes -/
def takeR : List UInt8 → Nat → Nat → Option (Nat × Nat)
  | [], _, _ => none
  | x :: r, i, n =>
    if (i = 9 ∧ 1 < x.toNat) ∨ (0 < i ∧ x.toNat = 0) then none
    else if x.toNat < 128 then some (n + x.toNat % 128 * 128 ^ i, i + 1) else takeR r (i + 1) (n + x.toNat % 128 * 128 ^ i)

/-- what Take answers: the number, the next place, the errno -/
def takeT (b : List UInt8) (at_ : Nat) : Nat × Nat × Nat :=
  if b.length < at_ then (0, 0, 2) else
  match takeR (b.drop at_) 0 0 with
  | none => (0, 0, 4)
  | some (n, k) => (n, at_ + k, 0)

/-- what the first k bytes bring -/
def pv (r : List UInt8) : Nat → Nat
  | 0 => 0
  | k + 1 => pv r k + (r.getD k 0).toNat % 128 * 128 ^ k
theorem pv_lt (r : List UInt8) (k : Nat) : pv r k < 128 ^ k := by
  induction k with
  | zero => simp [pv]
  | succ k ih =>
    have h1 : (r.getD k 0).toNat % 128 * 128 ^ k ≤ 127 * 128 ^ k := Nat.mul_le_mul_right _ (by omega)
    show pv r k + _ < 128 ^ (k + 1)
    rw [Nat.pow_succ]
    omega
theorem pv_small (r : List UInt8) (k : Nat) (h : k ≤ 9) : pv r k < 9223372036854775808 :=
  Nat.lt_of_lt_of_le (pv_lt r k) (Nat.le_trans (Nat.pow_le_pow_right (by decide) h) (by decide))
theorem takeR_step (r : List UInt8) (k n : Nat) (h : k < r.length) :
    takeR (r.drop k) k n = if (k = 9 ∧ 1 < (r[k]).toNat) ∨ (0 < k ∧ (r[k]).toNat = 0) then none
      else if (r[k]).toNat < 128 then some (n + (r[k]).toNat % 128 * 128 ^ k, k + 1) else takeR (r.drop (k + 1)) (k + 1) (n + (r[k]).toNat % 128 * 128 ^ k) := by
  rw [List.drop_eq_getElem_cons h, takeR]

theorem and127_all : ∀ k : Fin 256, bits BinOp.and IntKind.u8 ((k.val : Nat) : Int) 127 = ((k.val % 128 : Nat) : Int) := by decide +kernel
theorem and127 (x : Nat) (hx : x < 256) : bits BinOp.and IntKind.u8 (x : Int) 127 = ((x % 128 : Nat) : Int) := and127_all ⟨x, hx⟩
theorem wrap_u64_nat (n : Nat) (h : n < 18446744073709551616) : IntKind.u64.wrap (n : Int) = (n : Int) := by
  simp only [IntKind.wrap_u64]
  omega
theorem pow128 (k : Nat) : (128 : Nat) ^ k = 2 ^ (7 * k) := by rw [Nat.pow_mul]
theorem pv_step_lt (x k : Nat) (hk : k ≤ 9) (h9 : k = 9 → x ≤ 1) : x % 128 * 128 ^ k < 18446744073709551616 := by
  rcases Nat.lt_or_ge k 9 with h | h
  · have h1 : 128 ^ k ≤ 128 ^ 8 := Nat.pow_le_pow_right (by decide) (by omega)
    have h2 : x % 128 * 128 ^ k ≤ 127 * 128 ^ 8 := Nat.mul_le_mul (by omega) h1
    exact Nat.lt_of_le_of_lt h2 (by decide)
  · have e : k = 9 := by omega
    subst e
    have h2 : x % 128 * 128 ^ 9 ≤ 1 * 128 ^ 9 := Nat.mul_le_mul_right _ (by have := h9 rfl; omega)
    exact Nat.lt_of_le_of_lt h2 (by decide)
theorem pvor (r : List UInt8) (k x : Nat) (hx : x < 256) (hk : k ≤ 9) (h9 : k = 9 → x ≤ 1) :
    bits BinOp.or IntKind.u64 (pv r k : Int) (IntKind.u64.wrap (IntKind.u64.wrap (bits BinOp.and IntKind.u8 (x : Int) 127) * 2 ^ (7 * k))) = ((pv r k + x % 128 * 128 ^ k : Nat) : Int) := by
  have h1 := pv_step_lt x k hk h9
  have h2 := pv_lt r k
  have h3 := pv_small r k hk
  rw [and127 x hx, wrap_u64_nat _ (by omega)]
  have e1 : ((x % 128 : Nat) : Int) * 2 ^ (7 * k) = ((x % 128 * 128 ^ k : Nat) : Int) := by
    rw [pow128]; simp
  rw [e1, wrap_u64_nat _ h1, bits_or_u64_nat _ _ (by omega) h1]
  congr 1
  rw [pow128] at h2 ⊢
  rw [Nat.or_comm, Nat.mul_comm, ← Nat.two_pow_add_eq_or_of_lt h2, Nat.add_comm]

set_option maxRecDepth 100000 in
set_option maxHeartbeats 1600000 in
theorem take39 (v : Value) (b : List UInt8) (at_ : Nat) (w : World) (hv : Bt w v b) (hb : b.length ≤ 140737488351232) (hat : at_ ≤ 140737488351232) :
    Calls Tryz.prog 39 #[v, .int .i64 at_] w fun e w' => e = .returned (.tuple #[.int .u64 (takeT b at_).1, .int .i64 (takeT b at_).2.1, .int .i64 (takeT b at_).2.2]) ∧ w' = w := by
  obtain ⟨y1, y2, ao, cap, rfl, y3, y4, y7, y5⟩ := hv
  unfold maxLen at y4
  clear y1 y2 y7
  by_cases hgt : b.length < at_
  · have ht : takeT b at_ = (0, 0, 2) := by unfold takeT; rw [if_pos hgt]
    rw [ht]
    go_enter Tryz.func39, Tryz.ntmps39
    go_wp2
    go_ret3
    exact ⟨rfl, rfl⟩
  by_cases heq : b.length = at_
  · have hcap : cap = at_ ∨ at_ < cap := by omega
    have ht : takeT b at_ = (0, 0, 4) := by
      unfold takeT
      rw [if_neg (by omega), List.drop_of_length_le (by omega)]
      rfl
    rw [ht]
    have hle : b.length ≤ at_ := by omega
    have hge : at_ ≤ b.length := by omega
    clear y5 heq
    go_enter Tryz.func39, Tryz.ntmps39
    go_wp2
    all_goals
      refine wp_loop_rounds 1 ?_
      rw [rounds_succ]
      go_wp2
      go_ret3
      exact ⟨rfl, rfl⟩
  · obtain ⟨g, off, rfl, hc⟩ := y5.resolve_left (by omega)
    have hlt : at_ < b.length := by omega
    have hcap : at_ < cap := by omega
    have hne : ¬ cap = at_ := by omega
    obtain ⟨r, hr⟩ : ∃ r, r = b.drop at_ := ⟨_, rfl⟩
    have hrl : r.length = b.length - at_ := by rw [hr]; simp
    have hcell : ∀ k, (h : k < r.length) → w.cell? ⟨g, off + at_ + k, none⟩ = some (.int .u8 (r[k]).toNat) := by
      intro k h
      have h1 := hc (at_ + k) _ (bv_get b (at_ + k) (by omega))
      rw [Nat.add_assoc, h1]
      simp [hr]
    have HC := Lib.hid hcell
    have ht : takeT b at_ = (match takeR r 0 0 with | none => (0, 0, 4) | some (n, k) => (n, at_ + k, 0)) := by
      unfold takeT
      rw [if_neg hgt, ← hr]
    have HT := Lib.hid ht
    have HRL := Lib.hid hrl
    have hd : decide (b.length < at_) = false := by simp; omega
    have hrl2 : r.length ≤ b.length - at_ := by omega
    have hrl3 : b.length - at_ ≤ r.length := by omega
    clear hc hcell ht hr hrl heq hgt
    go_enter Tryz.func39, Tryz.ntmps39
    go_wp2
    go_loopg [4, 5, 6, 21] r.length (fun gk n _ _ i wr => w = wr ∧ ∃ k : Nat, gk = r.length - k ∧ k ≤ r.length ∧ k ≤ 9 ∧ i = .int .i64 k ∧ n = .int .u64 (pv r k) ∧ takeR r 0 0 = takeR (r.drop k) k (pv r k))
    case atStart => exact ⟨rfl, 0, rfl, Nat.zero_le _, by omega, rfl, rfl, rfl⟩
    case round =>
      obtain ⟨rfl, k, rfl, hk, hk9, rfl, rfl, hrel⟩ := hrel
      have HR := Lib.hid hrel
      clear hrel
      by_cases hlt2 : k < r.length
      · have hcl := HC.out k hlt2
        have HS := Lib.hid (takeR_step r k (pv r k) hlt2)
        obtain ⟨x, hx⟩ : ∃ x : Nat, x = (r[k]).toNat := ⟨_, rfl⟩
        have hx256 : x < 256 := by rw [hx]; exact (r[k]).toNat_lt
        have HX := Lib.hid hx
        rw [← hx] at hcl
        clear hx
        have HK : Hid (takeR r 0 0 = if (k = 9 ∧ 1 < x) ∨ (0 < k ∧ x = 0) then none else if x < 128 then some (pv r k + x % 128 * 128 ^ k, k + 1) else takeR (r.drop (k + 1)) (k + 1) (pv r k + x % 128 * 128 ^ k)) :=
          Lib.hid (by rw [HR.out, HS.out, ← HX.out])
        have HP : Hid (pv r (k + 1) = pv r k + x % 128 * 128 ^ k) := Lib.hid (by rw [pv, HX.out]; simp [List.getD, hlt2])
        by_cases hk_9 : k = 9
        · subst hk_9
          by_cases hx1 : 1 < x
          · have ht : takeT b at_ = (0, 0, 4) := by rw [HT.out, HK.out, if_pos (Or.inl ⟨rfl, hx1⟩)]
            have HT4 := Lib.hid ht
            clear ht
            go_wp2
            rw [HT4.out]
            go_ret3
            exact ⟨rfl, rfl⟩
          · by_cases hx0 : x = 0
            · have ht : takeT b at_ = (0, 0, 4) := by rw [HT.out, HK.out, if_pos (Or.inr ⟨by omega, hx0⟩)]
              have HT4 := Lib.hid ht
              clear ht
              subst hx0
              go_wp2
              rw [HT4.out]
              go_ret3
              exact ⟨rfl, rfl⟩
            · have hx_1 : x = 1 := by omega
              have hgood : ¬ ((9 = 9 ∧ 1 < x) ∨ (0 < 9 ∧ x = 0)) := by omega
              have ht : takeT b at_ = (pv r 9 + x % 128 * 128 ^ 9, at_ + (9 + 1), 0) := by rw [HT.out, HK.out, if_neg hgood, if_pos (by omega)]
              have e9 := pvor r 9 x hx256 hk9 (by omega)
              rw [show ((2 : Int) ^ (7 * 9)) = 9223372036854775808 from by decide] at e9
              have HT4 := Lib.hid ht
              have E9 := Lib.hid e9
              have hxb : ((x : Int) == 0) = false := by simp; omega
              clear e9 ht hgood hx_1 hx0
              have hxp : 0 < x := by simp at hxb; omega
              go_wp2
              rw [HT4.out]
              go_ret3
              refine ⟨?_, rfl⟩
              rw [← E9.out]
              rfl
        · have hd9 : ((k : Int) == 9) = false := by simp; omega
          have hk9' : ¬ ((k : Int) = 9) := by omega
          go_wp2
          all_goals first
            | (have hx0 : 0 < k ∧ x = 0 := by
                 have hh : ((x : Int) == 0) = true := (by assumption)
                 simp at hh; omega
               have ht : takeT b at_ = (0, 0, 4) := by rw [HT.out, HK.out, if_pos (Or.inr hx0)]
               rw [ht]; go_ret3; exact ⟨rfl, rfl⟩)
            | (have hx0 : ¬ (0 < k ∧ x = 0) := by
                 first
                 | omega
                 | (have hh : ((x : Int) == 0) = false := (by assumption); simp at hh; omega)
               have hgood : ¬ ((k = 9 ∧ 1 < x) ∨ (0 < k ∧ x = 0)) := by omega
               have hlt128 : x < 128 := by omega
               have ht : takeT b at_ = (pv r k + x % 128 * 128 ^ k, at_ + (k + 1), 0) := by rw [HT.out, HK.out, if_neg hgood, if_pos hlt128]
               rw [ht, ← pvor r k x hx256 hk9 (by omega)]; go_ret3; exact ⟨by go_num, rfl⟩)
            | (have hx0 : ¬ (0 < k ∧ x = 0) := by omega
               have hgood : ¬ ((k = 9 ∧ 1 < x) ∨ (0 < k ∧ x = 0)) := by omega
               have hge128 : ¬ x < 128 := by omega
               go_roundg (r.length - (k + 1))
               case measure => omega
               case rel => exact ⟨rfl, k + 1, rfl, by omega, by omega, by go_num, by rw [HP.out, ← pvor r k x hx256 hk9 (by omega)], by rw [HK.out, if_neg hgood, if_neg hge128, HP.out]⟩)
      · have hkl : k = r.length := by omega
        have ht : takeT b at_ = (0, 0, 4) := by
          rw [HT.out, HR.out, List.drop_of_length_le (by omega)]
          rfl
        have HT4 := Lib.hid ht
        clear ht
        go_wp2
        rw [HT4.out]
        go_ret3
        exact ⟨rfl, rfl⟩
end Go.Proofs.YtpcipfnahknngaaGreatDoor

/- Contracts of pack.TakeText, PutText, and of the reference's. No statement of the seat. -/
namespace Go.Proofs.YtpcipfnahknngaaGreatDoor
open Go.RowKit

theorem takeR_le : ∀ (r : List UInt8) (i n m k : Nat), takeR r i n = some (m, k) → i < k ∧ k ≤ i + r.length
  | [], _, _, _, _, h => by simp [takeR] at h
  | x :: r, i, n, m, k, h => by
    rw [takeR] at h
    split at h
    · cases h
    split at h
    · cases h
      simp
    · have := takeR_le r (i + 1) _ m k h
      simp
      omega

/-- what a Take that went well tells of places -/
theorem takeT_ok {b : List UInt8} {at_ n nx : Nat} (h : takeT b at_ = (n, nx, 0)) : at_ < nx ∧ nx ≤ b.length := by
  unfold takeT at h
  split at h
  · cases h
  · cases hr : takeR (b.drop at_) 0 0 with
    | none => rw [hr] at h; cases h
    | some p =>
      obtain ⟨m, k⟩ := p
      rw [hr] at h
      cases h
      have := takeR_le _ _ _ _ _ hr
      simp at this
      omega
theorem takeT_bad {b : List UInt8} {at_ n nx e : Nat} (h : takeT b at_ = (n, nx, e)) (he : e ≠ 0) : n = 0 ∧ nx = 0 ∧ (e = 2 ∨ e = 4) := by
  unfold takeT at h
  split at h
  · cases h; simp
  · cases hr : takeR (b.drop at_) 0 0 with
    | none => rw [hr] at h; cases h; simp
    | some p => rw [hr] at h; cases h; omega

/-- what TakeText answers: the text, the next place, the errno -/
def takeTextT (b : List UInt8) (at_ : Nat) : List UInt8 × Nat × Nat :=
  match takeT b at_ with
  | (n, nx, 0) => if 4096 < n ∨ b.length - nx < n then ([], 0, 4) else ((b.drop nx).take n, nx + n, 0)
  | (_, _, e + 1) => ([], 0, e + 1)

set_option maxRecDepth 100000 in
theorem none80 (e : Int) (w : World) : Calls Tryz.prog 80 #[.int .i64 e] w fun r w' => r = .returned (.tuple #[.string (tx []), .int .i64 0, .int .i64 e]) ∧ w' = w := by
  go_enter Tryz.func80, Tryz.ntmps80
  go_wp2
  go_ret3
  exact ⟨rfl, rfl⟩

set_option maxRecDepth 100000 in
set_option maxHeartbeats 1600000 in
theorem taketext40 (v : Value) (b : List UInt8) (at_ : Nat) (w : World) (hv : Bt w v b) (hb : b.length ≤ 140737488351232) (hat : at_ ≤ 140737488351232) :
    Calls Tryz.prog 40 #[v, .int .i64 at_] w fun e w' => e = .returned (.tuple #[.string (tx (takeTextT b at_).1), .int .i64 (takeTextT b at_).2.1, .int .i64 (takeTextT b at_).2.2]) ∧ w' = w := by
  have hc := take39 v b at_ w hv hb hat
  have hv0 := hv
  obtain ⟨y1, y2, ao, cap, rfl, y3, y4, y7, y5⟩ := hv0
  unfold maxLen at y4
  clear y1 y2
  obtain ⟨n, nx, e, ht⟩ : ∃ n nx e, takeT b at_ = (n, nx, e) := ⟨_, _, _, rfl⟩
  rw [ht] at hc
  cases e with
  | succ e =>
    have hx : takeTextT b at_ = ([], 0, e + 1) := by unfold takeTextT; rw [ht]
    have hb2 := takeT_bad ht (by omega)
    rw [hx]
    have hne : ((((e + 1 : Nat) : Int)) != 0) = true := by simp; omega
    have HC := Lib.hid hc
    clear hc hv ht y5 y7
    go_enter Tryz.func40, Tryz.ntmps40
    go_wp2_with (first | (go_at_call 39; refine HC.out.mono ?_; rintro e w' ⟨rfl, rfl⟩) | (go_at_call 80; refine (none80 _ _).mono ?_; rintro e w' ⟨rfl, rfl⟩))
    go_ret3
    exact ⟨rfl, rfl⟩
  | zero =>
    obtain ⟨hlt, hnx⟩ := takeT_ok ht
    have hx : takeTextT b at_ = if 4096 < n ∨ b.length - nx < n then ([], 0, 4) else ((b.drop nx).take n, nx + n, 0) := by unfold takeTextT; rw [ht]
    have HX := Lib.hid hx
    have HC := Lib.hid hc
    clear hc ht hx
    obtain ⟨g, off, rfl, hcell⟩ := y5.resolve_left (by omega)
    by_cases h1 : 4096 < n
    · have HX2 := HX.out
      rw [if_pos (Or.inl h1)] at HX2
      rw [HX2]
      clear HX2 hcell hv
      go_enter Tryz.func40, Tryz.ntmps40
      go_wp2_with (first | (go_at_call 39; refine HC.out.mono ?_; rintro e w' ⟨rfl, rfl⟩) | (go_at_call 80; refine (none80 _ _).mono ?_; rintro e w' ⟨rfl, rfl⟩))
      go_ret3
      exact ⟨rfl, rfl⟩
    by_cases h2 : b.length - nx < n
    · have HX2 := HX.out
      rw [if_pos (Or.inr h2)] at HX2
      rw [HX2]
      clear HX2 hcell hv
      go_enter Tryz.func40, Tryz.ntmps40
      go_wp2_with (first | (go_at_call 39; refine HC.out.mono ?_; rintro e w' ⟨rfl, rfl⟩) | (go_at_call 80; refine (none80 _ _).mono ?_; rintro e w' ⟨rfl, rfl⟩))
      go_ret3
      exact ⟨rfl, rfl⟩
    · have HX2 := HX.out
      rw [if_neg (by omega)] at HX2
      rw [HX2]
      have h3 : (n : Int) ≤ 4096 := by omega
      have h4 : (n : Int) ≤ (b.length : Int) - (nx : Int) := by omega
      rcases Nat.lt_or_ge nx cap with hcap | hcap
      · have hne : ¬ cap = nx := by omega
        have hB : Bt w (.slice (some ⟨g, off + nx, none⟩) n (cap - nx)) ((b.drop nx).take n) := by
          have hlen : ((b.drop nx).take n).length = n := by simp; omega
          refine ⟨by simp, bv_one _, some ⟨g, off + nx, none⟩, cap - nx, by rw [hlen], by omega, by unfold maxLen; omega, (fun h => by cases h), Or.inr ⟨g, off + nx, rfl, fun j u hj => ?_⟩⟩
          have hjn : j < n := by
            have := (List.getElem?_eq_some_iff.1 hj).1
            rw [bv_length, hlen] at this
            exact this
          rw [bv_get _ j (by omega)] at hj
          cases hj
          have := hcell (nx + j) _ (bv_get b (nx + j) (by omega))
          rw [Nat.add_assoc, this]
          simp
        have hcs := conv_str w _ _ hB
        clear HX2 hcell hv hB
        go_enter Tryz.func40, Tryz.ntmps40
        go_wp2_with (first | (go_at_call 39; refine HC.out.mono ?_; rintro e w' ⟨rfl, rfl⟩) | (go_at_call 80; refine (none80 _ _).mono ?_; rintro e w' ⟨rfl, rfl⟩))
        go_ret3
        exact ⟨rfl, rfl⟩
      · have hn0 : n = 0 := by omega
        have hcn : cap = nx := by omega
        subst hn0 hcn
        have hcs := conv_str w (.slice (some ⟨g, off, none⟩) 0 0) [] ⟨rfl, bv_one _, some ⟨g, off, none⟩, 0, rfl, Nat.le_refl _, Nat.zero_le _, (fun h => by cases h), Or.inl rfl⟩
        have hb2 : ((b.drop cap).take 0) = [] := rfl
        rw [hb2]
        clear HX2 hcell hv
        go_enter Tryz.func40, Tryz.ntmps40
        go_wp2_with (first | (go_at_call 39; refine HC.out.mono ?_; rintro e w' ⟨rfl, rfl⟩) | (go_at_call 80; refine (none80 _ _).mono ?_; rintro e w' ⟨rfl, rfl⟩))
        go_ret3
        exact ⟨rfl, rfl⟩

end Go.Proofs.YtpcipfnahknngaaGreatDoor

/- Contracts of pack.PutText, and of the reference's Put, PutText, Take, TakeText. No statement of the seat. -/
namespace Go.Proofs.YtpcipfnahknngaaGreatDoor
open Go.RowKit

/-- a text's bytes -/
def putText (s : List UInt8) : List UInt8 := putL s.length ++ s
theorem putL_len (n : Nat) (hn : n < 18446744073709551616) : (putL n).length ≤ 10 := by
  have H : ∀ k n, n < 128 ^ (k + 1) → (putL n).length ≤ k + 1 := by
    intro k
    induction k with
    | zero => intro n h; rw [putL_small (by simpa using h)]; simp
    | succ k ih =>
      intro n h
      by_cases h1 : n < 128
      · rw [putL_small h1]; simp
      · rw [putL_big h1, List.length_cons]
        have := ih (n / 128) (by rw [Nat.pow_succ] at h; omega)
        omega
  exact H 9 n (Nat.lt_of_lt_of_le hn (by decide))

/-- two slices of bytes, laid one behind the other -/
theorem Bts.two (w : World) (u v : Value) (l m : List UInt8) (hu : Bt w u l) (hv : Bt w v m) :
    Bts (w.alloc (.cells #[u, v] 23)) (.slice (some ⟨w.heap.size, 0, none⟩) 2 2) [l, m] := by
  have hb : Below w.heap.size w (w.alloc (.cells #[u, v] 23)) := (Below.refl _ _).alloc (Nat.le_refl _) _
  have one : ∀ {x : Value} {k : List UInt8}, Bt w x k → x.oneCell' = true := by
    intro x k h
    obtain ⟨_, _, ao, cap, rfl, _⟩ := h
    rfl
  refine ⟨[u, v], ⟨rfl, ?_, some ⟨w.heap.size, 0, none⟩, 2, rfl, Nat.le_refl _, by decide, (fun h => by cases h), Or.inr ⟨w.heap.size, 0, rfl, fun j x hj => ?_⟩⟩, ?_⟩
  · intro x hx
    simp at hx
    rcases hx with rfl | rfl
    · exact one hu
    · exact one hv
  · rw [World.cell?_alloc_at _ _ _ _ rfl, Nat.zero_add]
    simpa using hj
  · intro k hk
    match k, hk with
    | 0, _ => exact ⟨u, rfl, hu.below hb (Nat.le_refl _)⟩
    | 1, _ => exact ⟨v, rfl, hv.below hb (Nat.le_refl _)⟩

set_option maxRecDepth 100000 in
set_option maxHeartbeats 1600000 in
theorem puttext34 (s : List UInt8) (w : World) (hs : s.length ≤ 4096) :
    Calls Tryz.prog 34 #[.string (tx s)] w fun e w' => ∃ v', e = .returned (.tuple #[v', .int .i64 0]) ∧ w'.ownsRow w.heap.size 5 1 v' (putText s).length (bv (putText s)) ∧ Below w.heap.size w w' := by
  have hsz : (tx s).size = s.length := tx_size s
  go_enter Tryz.func34, Tryz.ntmps34
  go_wp2_with (first | (go_at_call 36; refine (put_any s.length (by omega) _).mono ?_; rintro e w1 ⟨v1, rfl, hown1, hbel1⟩; obtain ⟨ao1, cap1, rfl⟩ := own_shape hown1) | (with_reducible refine wl_bytes rfl _ rfl s rfl (by omega) ?_; intro g cap w2 hb2 hbel2))
  have hlen := putL_len s.length (by omega)
  refine (join35 _ [putL s.length, s] _ (Bts.two w2 _ _ _ _ ((Bt.of_own hown1).below hbel2 (Nat.le_refl _)) hb2) (by simp; omega)).mono ?_
  rintro e w3 ⟨v3, rfl, hown3, hbel3⟩
  go_wp2
  go_ret2
  refine ⟨_, rfl, ?_, ?_⟩
  · have h2 : w.heap.size ≤ (w2.alloc (.cells #[Value.slice ao1 (putL s.length).length cap1, Value.slice (some g) s.length cap] 23)).heap.size := by
      have := hbel1.size; have := hbel2.size; simp; omega
    simpa [putText] using hown3.base h2
  · exact (hbel1.trans (hbel2.mono hbel1.size)).trans (((Below.refl _ _).alloc (Nat.le_refl _) _).trans (hbel3.mono (by simp)) |>.mono (Nat.le_trans hbel1.size hbel2.size))
end Go.Proofs.YtpcipfnahknngaaGreatDoor

/- Plain mathematics of the numbers' bytes: what Take reads is what Put writes. No program. -/
namespace Go.Proofs.YtpcipfnahknngaaGreatDoor

/-- what a row of bytes is worth -/
def val : List UInt8 → Nat
  | [] => 0
  | x :: r => x.toNat % 128 + 128 * val r

theorem val_putL (n : Nat) : val (putL n) = n := by
  induction n using Nat.strongRecOn with
  | _ n ih =>
    by_cases h : n < 128
    · rw [putL_small h]
      simp [val]
      omega
    · rw [putL_big h, val, ih (n / 128) (by omega)]
      have : (n % 128 + 128) % 256 = n % 128 + 128 := by omega
      simp [this]
      omega

theorem val_snoc (l : List UInt8) (x : UInt8) : val (l ++ [x]) = val l + x.toNat % 128 * 128 ^ l.length := by
  induction l with
  | nil => simp [val]
  | cons y l ih =>
    simp only [List.cons_append, val, ih, List.length_cons, Nat.pow_succ]
    rw [Nat.mul_add, Nat.add_assoc]
    congr 2
    rw [Nat.mul_comm (128 ^ l.length) 128, ← Nat.mul_assoc, ← Nat.mul_assoc, Nat.mul_comm 128]

theorem pv_val (r : List UInt8) (k : Nat) (h : k ≤ r.length) : pv r k = val (r.take k) := by
  induction k with
  | zero => simp [pv, val]
  | succ k ih =>
    rw [pv, ih (by omega), List.take_succ_eq_append_getElem (by omega), val_snoc]
    simp [List.getD, show k < r.length by omega, show min k r.length = k by omega]

/-- a row that Put writes -/
def canon : List UInt8 → Prop
  | [] => False
  | [x] => x.toNat < 128
  | x :: y :: r => 128 ≤ x.toNat ∧ canon (y :: r) ∧ val (y :: r) ≠ 0

theorem putL_val : ∀ l : List UInt8, canon l → putL (val l) = l
  | [], h => h.elim
  | [x], h => by
    have h1 : x.toNat < 128 := h
    have e : val [x] = x.toNat := by simp [val]; omega
    rw [e, putL_small h1]
    simp
  | x :: y :: r, h => by
    obtain ⟨h1, h2, h3⟩ := h
    have ih := putL_val (y :: r) h2
    have e : val (x :: y :: r) = x.toNat % 128 + 128 * val (y :: r) := rfl
    have hx := x.toNat_lt
    rw [putL_big (by omega)]
    have e1 : val (x :: y :: r) / 128 = val (y :: r) := by omega
    have e2 : val (x :: y :: r) % 128 + 128 = x.toNat := by omega
    rw [e1, e2, ih]
    simp

theorem putL_inj {m n : Nat} (h : putL m = putL n) : m = n := by rw [← val_putL m, h, val_putL]

theorem canon_of : ∀ (l : List UInt8) (k : Nat), l.length = k + 1 → (∀ j (_ : j < k) (h2 : j < l.length), 128 ≤ (l[j]).toNat) → (∀ h : k < l.length, (l[k]).toNat < 128) → (k = 0 ∨ ∀ h : k < l.length, (l[k]).toNat ≠ 0) → canon l ∧ (k ≠ 0 → val l ≠ 0)
  | [], k, h, _, _, _ => by simp at h
  | [x], k, h, h1, h2, h3 => by
    have hk : k = 0 := by simpa using h.symm
    subst hk
    exact ⟨h2 (by simp), by simp⟩
  | x :: y :: r, 0, h, _, _, _ => by simp at h
  | x :: y :: r, k + 1, h, h1, h2, h3 => by
    have hx : 128 ≤ x.toNat := h1 0 (by omega) (by simp)
    have hne : ∀ h : k + 1 < (x :: y :: r).length, ((x :: y :: r)[k + 1]).toNat ≠ 0 := by
      rcases h3 with h3 | h3
      · omega
      · exact h3
    have ih := canon_of (y :: r) k (by simpa using h) (fun j hj hj2 => by have := h1 (j + 1) (by omega) (by simp at hj2 ⊢; omega); simpa using this)
      (fun hk => by have := h2 (by simp at hk ⊢; omega); simpa using this) (Or.inr fun hk => by have := hne (by simp at hk ⊢; omega); simpa using this)
    have hv : val (y :: r) ≠ 0 := by
      by_cases hk0 : k = 0
      · subst hk0
        have hr : r = [] := List.eq_nil_of_length_eq_zero (by simpa using h)
        subst hr
        have a1 := hne (by simp)
        have a2 := h2 (by simp)
        simp at a1 a2
        simp [val]
        omega
      · exact ih.2 hk0
    refine ⟨⟨hx, ih.1, hv⟩, fun _ => ?_⟩
    have e : val (x :: y :: r) = x.toNat % 128 + 128 * val (y :: r) := rfl
    omega

/-- WHERE A BYTE BELOW 128 STANDS BEHIND k OF 128 OR MORE: a number that was read is one that Put writes so .. -/
theorem take_good (r : List UInt8) (k : Nat) (hk : k < r.length) (hk9 : k ≤ 9) (h1 : ∀ j (h : j < r.length), j < k → 128 ≤ (r[j]).toNat) (h2 : (r[k]).toNat < 128)
    (hg : ¬ ((k = 9 ∧ 1 < (r[k]).toNat) ∨ (0 < k ∧ (r[k]).toNat = 0))) : pv r (k + 1) < 18446744073709551616 ∧ putL (pv r (k + 1)) = r.take (k + 1) := by
  constructor
  · have a1 := pv_lt r k
    have a2 := pv_small r k hk9
    show pv r k + (r.getD k 0).toNat % 128 * 128 ^ k < _
    have e : r.getD k 0 = r[k] := by simp [List.getD, hk]
    rw [e]
    rcases Nat.lt_or_ge k 9 with h | h
    · have a3 := pv_lt r (k + 1)
      have a4 : pv r (k + 1) = pv r k + (r.getD k 0).toNat % 128 * 128 ^ k := rfl
      rw [e] at a4
      rw [← a4]
      exact Nat.lt_of_lt_of_le a3 (Nat.le_trans (Nat.pow_le_pow_right (by decide) (show k + 1 ≤ 9 by omega)) (by decide))
    · have hk_9 : k = 9 := by omega
      have hx : (r[k]).toNat ≤ 1 := by omega
      have : (r[k]).toNat % 128 * 128 ^ k ≤ 1 * 128 ^ k := Nat.mul_le_mul_right _ (by omega)
      have e9 : (128 : Nat) ^ k = 9223372036854775808 := by rw [hk_9]
      rw [e9] at this ⊢
      omega
  · rw [pv_val r (k + 1) (by omega)]
    refine putL_val _ (canon_of (r.take (k + 1)) k (by rw [List.length_take]; omega) (fun j hj hj2 => ?_) (fun h => ?_) ?_).1
    · have := h1 j (by omega) hj
      simpa using this
    · simpa using h2
    · by_cases h0 : k = 0
      · exact Or.inl h0
      · refine Or.inr fun h => ?_
        have : (r[k]).toNat ≠ 0 := by omega
        simpa using this

/-- .. and one that Take refuses is none. -/
theorem take_bad (r : List UInt8) (k : Nat) (hk : k < r.length) (hk9 : k ≤ 9)
    (hg : (k = 9 ∧ 1 < (r[k]).toNat) ∨ (0 < k ∧ (r[k]).toNat = 0)) (h2 : (r[k]).toNat < 128) : putL (pv r (k + 1) % 18446744073709551616) ≠ r.take (k + 1) := by
  intro h
  have hv := congrArg val h
  rw [val_putL, ← pv_val r (k + 1) (by omega)] at hv
  have a4 : pv r (k + 1) = pv r k + (r.getD k 0).toNat % 128 * 128 ^ k := rfl
  have e : r.getD k 0 = r[k] := by simp [List.getD, hk]
  rw [e] at a4
  rcases hg with ⟨rfl, hx⟩ | ⟨h0, hx⟩
  · have : 2 * 128 ^ 9 ≤ (r[9]).toNat % 128 * 128 ^ 9 := Nat.mul_le_mul_right _ (by omega)
    have e9 : (128 : Nat) ^ 9 = 9223372036854775808 := by decide
    rw [e9] at this a4
    omega
  · have h3 : pv r (k + 1) = pv r k := by rw [a4, hx]; simp
    have h4 := pv_lt r k
    have h5 := pv_small r k hk9
    have h6 : (putL (pv r (k + 1) % 18446744073709551616)).length = k + 1 := by rw [h]; simp; omega
    have hlen : ∀ k n, 0 < k → n < 128 ^ k → (putL n).length ≤ k := by
      intro k
      induction k with
      | zero => intro n h; omega
      | succ k ih =>
        intro n _ hn
        by_cases hs : n < 128
        · rw [putL_small hs]; simp
        · have hk0 : 0 < k := by
            rcases Nat.eq_zero_or_pos k with rfl | h
            · simp at hn; omega
            · exact h
          rw [putL_big hs, List.length_cons]
          have := ih (n / 128) hk0 (by rw [Nat.pow_succ] at hn; omega)
          omega
    have h7 := hlen k (pv r k) h0 h4
    rw [h3, Nat.mod_eq_of_lt (by omega)] at h6
    omega
end Go.Proofs.YtpcipfnahknngaaGreatDoor

/- Contracts of the library's slices.Clone, Equal, Grow, Concat at bytes. No statement of the seat. -/
import Derived.Test.YtpcipfnahknngaaGreatDoorBase
import Derived.WalkSpells
import Derived.BigQuiet
import Derived.Deep.QuietTactic
import Derived.Lib.AppendZeros
namespace Go.Proofs.YtpcipfnahknngaaGreatDoor
open Go.RowKit

set_option maxRecDepth 100000 in
set_option maxHeartbeats 800000 in
theorem clone56 (v : Value) (l : List UInt8) (w : World) (hv : Bt w v l) (hl : l.length ≤ 140737488351232) :
    Calls Tryz.prog 56 #[v] w fun e w' => ∃ v', e = .returned v' ∧ w'.ownsRow w.heap.size 5 1 v' l.length (bv l) ∧ Below w.heap.size w w' := by
  have hv0 := hv
  obtain ⟨y1, y2, ao, cap, rfl, y3, y4, y7, y5⟩ := hv0
  cases ao with
  | none =>
    have hn : l.length = 0 := by
      rcases y5 with y5 | ⟨g, off, y5, _⟩
      · exact y5
      · cases y5
    have hl0 : l = [] := List.eq_nil_of_length_eq_zero hn
    subst hl0
    obtain rfl := y7 rfl
    have heq := Lib.run_eql_slice_nil (P := Tryz.prog) w 23 5 none 0 0 0 0 Tryz.underlying23
    show Calls Tryz.prog 56 #[.slice none 0 0] w _
    clear hv y5
    go_enter Tryz.func56, Tryz.ntmps56
    go_wp2
    go_ret
    exact ⟨_, rfl, World.ownsRow_nil _ _ _ _, Below.refl _ _⟩
  | some ad =>
    clear y5
    have heq := Lib.run_eql_slice_nil (P := Tryz.prog) w 23 5 (some ad) l.length cap 0 0 Tryz.underlying23
    go_enter Tryz.func56, Tryz.ntmps56
    go_wp2_with (at_builtin; refine wl_appB rfl _ _ rfl w.heap.size _ [] rfl ?_ _ l rfl (hv.below ((Below.refl _ _).alloc (Nat.le_refl _) _) (Nat.le_refl _)) ?_ ?_ ?_; rotate_right; intro v' w1 hown1 hgrow1)
    · go_ret
      refine ⟨_, rfl, by simpa using hown1, ((Below.refl _ _).alloc (Nat.le_refl _) _).grown hgrow1 (by simp) ?_⟩
      intro k hk
      cases hk
      exact Nat.le_refl _
    · exact World.ownsRow_made (w := w) #[] 0 (Nat.le_refl _) (by decide) rfl
    · simp; omega
    · simp

/-- two rows of bytes are one, or not -/
def sameB (l m : List UInt8) : Bool := l == m

theorem take_ne (l m : List UInt8) (k : Nat) (h1 : k < l.length) (h2 : k < m.length) (h : (l[k]).toNat ≠ (m[k]).toNat) : sameB l m = false := by
  unfold sameB
  rw [beq_eq_false_iff_ne]
  rintro rfl
  exact h rfl

set_option maxRecDepth 100000 in
set_option maxHeartbeats 800000 in
theorem equal57 (v u : Value) (l m : List UInt8) (w : World) (hv : Bt w v l) (hu : Bt w u m) :
    Calls Tryz.prog 57 #[v, u] w fun e w' => e = .returned (.bool (sameB l m)) ∧ ∃ q, w' = w.drewN q := by
  obtain ⟨y1, y2, ao, cap, rfl, y3, y4, y7, y5⟩ := hv
  obtain ⟨z1, z2, bo, dap, rfl, z3, z4, z7, z5⟩ := hu
  unfold maxLen at y4 z4
  clear y1 y2 z1 z2 y7 z7
  by_cases hne : l.length = m.length
  · rcases z5 with z5 | ⟨g2, off2, rfl, c2⟩
    · have hm0 : m = [] := List.eq_nil_of_length_eq_zero z5
      have hl0 : l = [] := List.eq_nil_of_length_eq_zero (by omega)
      subst hm0 hl0
      clear hne z5 y5
      go_enter Tryz.func57, Tryz.ntmps57
      go_wp2
      refine wp_loop_rounds 1 ?_
      rw [rounds_succ]
      go_wp2
      go_ret
      exact ⟨rfl, 0, rfl⟩
    rcases y5 with y5 | ⟨g1, off1, rfl, c1⟩
    · have hl0 : l = [] := List.eq_nil_of_length_eq_zero y5
      have hm0 : m = [] := List.eq_nil_of_length_eq_zero (by omega)
      subst hm0 hl0
      clear hne y5 c2
      go_enter Tryz.func57, Tryz.ntmps57
      go_wp2
      refine wp_loop_rounds 1 ?_
      rw [rounds_succ]
      go_wp2
      go_ret
      exact ⟨rfl, 0, rfl⟩
    have HE := Lib.hid hne
    have hle : m.length ≤ l.length := by omega
    have hge : l.length ≤ m.length := by omega
    have hb : ((l.length : Int) != (m.length : Int)) = false := by simp [hne]
    clear hne
    have C1 := Lib.hid c1
    have C2 := Lib.hid c2
    clear c1 c2
    go_enter Tryz.func57, Tryz.ntmps57
    go_wp2
    clear hb
    go_loopw [13] (fun i wr => ∃ k : Nat, k ≤ l.length ∧ i = .int .i64 k ∧ (∃ q, wr = w.drewN q) ∧ l.take k = m.take k) (fun i _ => l.length - (intOf i).toNat)
    case atStart => exact ⟨0, Nat.zero_le _, rfl, ⟨0, rfl⟩, by simp⟩
    case round =>
      obtain ⟨k, hk, rfl, ⟨q, rfl⟩, ht⟩ := hrel
      have HT := Lib.hid ht
      clear ht
      by_cases hlt : k < l.length
      · have d1 := C1.out k _ (bv_get l k hlt)
        have d2 := C2.out k _ (bv_get m k (by omega))
        go_wp2
        go_quiet (fail)
        go_wp2
        · have hh : (((l[k]).toNat : Int) != ((m[k]).toNat : Int)) = true := by assumption
          go_ret
          refine ⟨?_, _, World.drewN_drewN _ _ _⟩
          rw [take_ne l m k hlt (by omega) (by simp at hh; omega)]
          rfl
        · have hh : (((l[k]).toNat : Int) != ((m[k]).toNat : Int)) = false := by assumption
          go_roundw
          case rel =>
            refine ⟨k + 1, by omega, by go_num, ⟨_, rfl⟩, ?_⟩
            have e1 : l[k] = m[k] := UInt8.toNat_inj.1 (by simp at hh; omega)
            rw [List.take_succ_eq_append_getElem hlt, List.take_succ_eq_append_getElem (by omega), HT.out, e1]
          case measure => simp [intOf]; omega
      · go_wp2
        go_ret
        have hkl : k = l.length := by omega
        subst hkl
        refine ⟨?_, q, rfl⟩
        have h1 := HT.out
        rw [List.take_length, ← HE.out.symm, List.take_length] at h1
        rw [h1]
        simp [sameB]
  · have hs : sameB l m = false := by
      unfold sameB
      rw [beq_eq_false_iff_ne]
      rintro rfl
      exact hne rfl
    have hne' : ¬ ((l.length : Int) = (m.length : Int)) := by omega
    clear hne
    go_enter Tryz.func57, Tryz.ntmps57
    go_wp2
    all_goals first
      | (exfalso; have hh : ((l.length : Int) != (m.length : Int)) = false := (by assumption); simp at hh; omega)
      | (go_ret; exact ⟨by rw [hs]; rfl, 0, rfl⟩)

theorem own_trans {w w1 w2 : World} {B : Nat} (h1 : Below B w w1) (h2 : Below w1.heap.size w1 w2) (h : B ≤ w.heap.size) : Below B w w2 :=
  h1.trans (h2.mono (Nat.le_trans h h1.size))

set_option maxRecDepth 100000 in
set_option maxHeartbeats 800000 in
theorem grow97 (n : Nat) (w : World) (hn : n ≤ 140737488351232) :
    Calls Tryz.prog 97 #[.slice none 0 0, .int .i64 n] w fun e w' => ∃ v', e = .returned v' ∧ w'.ownsRow w.heap.size 5 1 v' 0 (bv []) ∧ Below w.heap.size w w' := by
  by_cases h0 : 0 < n
  · obtain ⟨i0, hi, hz0, hz1, hz2⟩ := info_parts info5
    have hr := Lib.run_append_nil_zeros (P := Tryz.prog) w 23 3 23 5 i0 (.int .u8 0) .i64 .i64 Tryz.underlying23 Tryz.underlying3 hi hz0 n h0 (by omega) (by omega) (by rw [hz2]; omega)
    have hge := grownCap_ge w n 0 5
    have hle := grownCap_le_maxLen w n 0 5 (by unfold maxLen; omega)
    go_enter Tryz.func97, Tryz.ntmps97
    go_wp2_with (refine Lib.wpList_append_run w rfl _ _ 23 3 rfl _ _ rfl rfl _ _ hr ?_)
    go_ret
    refine ⟨_, rfl, ?_, ((Below.refl _ _).drew).alloc (Nat.le_refl _) _⟩
    exact World.ownsRow_made (w := w.drew) _ _ (Nat.le_refl _) hle (by simp [Builtin.zeroCells]; omega)
  · have hn0 : n = 0 := by omega
    subst hn0
    clear h0
    show Calls Tryz.prog 97 #[.slice none 0 0, .int .i64 0] w _
    go_enter Tryz.func97, Tryz.ntmps97
    go_wp2
    go_ret
    exact ⟨_, rfl, World.ownsRow_nil _ _ _ _, Below.refl _ _⟩

/-- v is a slice of byte slices -/
def Bts (w : World) (v : Value) (ls : List (List UInt8)) : Prop :=
  ∃ vs, Sl w 1 v ls.length vs ∧ ∀ k (h : k < ls.length), ∃ u, vs[k]? = some u ∧ Bt w u ls[k]

/-- the first k rows, one behind the other; how many bytes these are -/
def fk (ls : List (List UInt8)) (k : Nat) : List UInt8 := (ls.take k).flatten
def fn (ls : List (List UInt8)) (k : Nat) : Nat := (fk ls k).length
theorem fk_succ (ls : List (List UInt8)) (k : Nat) (h : k < ls.length) : fk ls (k + 1) = fk ls k ++ ls[k] := by
  unfold fk
  rw [List.take_succ_eq_append_getElem h, List.flatten_append]
  simp
theorem fn_succ (ls : List (List UInt8)) (k : Nat) (h : k < ls.length) : fn ls (k + 1) = fn ls k + ls[k].length := by
  unfold fn
  rw [fk_succ ls k h, List.length_append]
theorem fk_all (ls : List (List UInt8)) : fk ls ls.length = ls.flatten := by unfold fk; rw [List.take_length]
theorem fn_le (ls : List (List UInt8)) (k : Nat) : fn ls k ≤ ls.flatten.length := by
  unfold fn fk
  have : ls.flatten = (ls.take k).flatten ++ (ls.drop k).flatten := by rw [← List.flatten_append, List.take_append_drop]
  rw [this, List.length_append]
  omega

set_option maxRecDepth 100000 in
set_option maxHeartbeats 1600000 in
theorem concat69 (v : Value) (ls : List (List UInt8)) (w : World) (hv : Bts w v ls) (hl : ls.flatten.length ≤ 140737488351232) :
    Calls Tryz.prog 69 #[v] w fun e w' => ∃ v', e = .returned v' ∧ w'.ownsRow w.heap.size 5 1 v' ls.flatten.length (bv ls.flatten) ∧ Below w.heap.size w w' := by
  obtain ⟨vs, ⟨y1, y2, ao, cap, rfl, y3, y4, y7, y5⟩, he⟩ := hv
  unfold maxLen at y4
  clear y1 y2 y7
  have HE := Lib.hid he
  have Y5 := Lib.hid y5
  have HL := Lib.hid hl
  clear he y5 hl
  go_enter Tryz.func69, Tryz.ntmps69
  go_wp2
  go_loop [3, 11] (fun s i => ∃ k : Nat, k ≤ ls.length ∧ i = .int .i64 k ∧ s = .int .i64 (fn ls k)) (fun _ i => ls.length - (intOf i).toNat)
  case atStart => exact ⟨0, Nat.zero_le _, rfl, by simp [fn, fk]⟩
  case round =>
    obtain ⟨k, hk, rfl, rfl⟩ := hrel
    by_cases hlt : k < ls.length
    · obtain ⟨u, hu1, hu2⟩ := HE.out k hlt
      obtain ⟨x1, x2, bo, dap, rfl, x3, x4, x7, x5⟩ := hu2
      clear x1 x2 x5 x7
      obtain ⟨g, off, rfl, hc⟩ := Y5.out.resolve_left (by omega)
      have d1 := hc k _ hu1
      have f1 := fn_succ ls k hlt
      have f2 : fn ls k + ls[k].length ≤ 140737488351232 := by have a1 := fn_le ls (k + 1); have a2 := HL.out; omega
      have F1 := Lib.hid f1
      clear f1 hc hu1
      go_wp2
      go_round
      case rel => exact ⟨k + 1, by omega, by go_num, by rw [F1.out]; go_num⟩
      case measure => simp [intOf]; omega
    · have hkl : k = ls.length := by omega
      have f2 : fn ls k ≤ 140737488351232 := by have a1 := fn_le ls k; have a2 := HL.out; omega
      have HK := Lib.hid hkl
      clear hkl
      go_wp2_with (go_at_call 97; refine (grow97 (fn ls k) _ f2).mono ?_; rintro e w1 ⟨v', rfl, hown, hbel⟩)
      go_loopw [6, 27] (fun v i wr => ∃ j : Nat, j ≤ ls.length ∧ i = .int .i64 j ∧ wr.ownsRow w.heap.size 5 1 v (fk ls j).length (bv (fk ls j)) ∧ Below w.heap.size w wr) (fun _ i _ => ls.length - (intOf i).toNat)
      case atStart => exact ⟨0, Nat.zero_le _, rfl, hown, hbel⟩
      case round =>
        obtain ⟨j, hj, rfl, hown1, hbel1⟩ := hrel
        by_cases hlt : j < ls.length
        · obtain ⟨u, hu1, hu2⟩ := HE.out j hlt
          have hu3 := hu2.below hbel1 (Nat.le_refl _)
          obtain ⟨g, off, rfl, hc⟩ := Y5.out.resolve_left (by omega)
          have d0 := hc j _ hu1
          have d1 : wr.cell? ⟨g, off + j, none⟩ = some u := by
            rw [hbel1.cell (p := ⟨g, off + j, none⟩) (World.block_lt_of_cell? w _ d0)]; exact d0
          have F1 := Lib.hid (fk_succ ls j hlt)
          have f2 : (fk ls j).length + ls[j].length ≤ 140737488351232 := by have a1 := fn_le ls (j + 1); have a2 := HL.out; have a3 := fn_succ ls j hlt; unfold fn at a1 a3; omega
          clear hc hu1 hu2
          go_wp2_with (at_builtin; refine wl_appB rfl _ _ rfl w.heap.size _ (fk ls j) rfl hown1 _ ls[j] rfl hu3 (by omega) hbel1.size ?_; intro v2 w2 hown2 hgrow2)
          go_roundw
          case rel => exact ⟨j + 1, by omega, by go_num, by rw [F1.out]; exact hown2, hbel1.grown hgrow2 hbel1.size (fun b hb => (hown1.lt b hb).1)⟩
          case measure => simp [intOf]; omega
        · go_wp2
          have hjl : j = ls.length := by omega
          subst hjl
          go_ret
          rw [fk_all] at hown1
          exact ⟨_, rfl, hown1, hbel1⟩

set_option maxRecDepth 100000 in
theorem join35 (v : Value) (ls : List (List UInt8)) (w : World) (hv : Bts w v ls) (hl : ls.flatten.length ≤ 140737488351232) :
    Calls Tryz.prog 35 #[v] w fun e w' => ∃ v', e = .returned v' ∧ w'.ownsRow w.heap.size 5 1 v' ls.flatten.length (bv ls.flatten) ∧ Below w.heap.size w w' := by
  have hb := concat69 v ls w hv hl
  obtain ⟨vs, ⟨y1, y2, ao, cap, rfl, y3, y4, y7, y5⟩, he⟩ := hv
  go_enter Tryz.func35, Tryz.ntmps35
  go_wp2_with (go_at_call 69; refine hb.mono ?_; rintro e w1 ⟨v', rfl, hown, hbel⟩)
  go_ret
  exact ⟨_, rfl, hown, hbel⟩
end Go.Proofs.YtpcipfnahknngaaGreatDoor

/- Rounds of wal.read's loop. No statement of the seat. -/
import Derived.Test.YtpcipfnahknngaaGreatDoorRd1
import Derived.Test.YtpcipfnahknngaaGreatDoorMaRec
import Derived.Deep.RegionHeld
namespace Go.Proofs.YtpcipfnahknngaaGreatDoor
open Go.RowKit Go.Maps
attribute [local go_sem] Oper.semAt_some

theorem keeps_below {B : Nat} {W W' : World} (h : Below W.heap.size W W') : KeepsFrom B W W' := ⟨h.size, fun k _ _ hk _ => (h.block k (lt_of_get hk)).trans hk⟩
theorem below_drewN (w : World) (k : Nat) : Below w.heap.size w (w.drewN k) := ⟨rfl, rfl, rfl, Nat.le_refl _, fun _ _ => rfl⟩

set_option maxRecDepth 1000000 in
set_option maxHeartbeats 6400000 in
theorem round47_bad (lp nn q d B : Nat) (w0 : World) (gw gb gb2 gs gg n : Nat) (v sv : Value) (b : List UInt8) (R : Nat × List Nat × List Ent) (L k m : Nat) (r : List UInt8) (at_ : List Nat) (l : List Ent) (la : Option Addr) (lc : Nat) (ua : Option Addr) (uc : Nat) (u : Value) (W : World)
    (u0 u1 u3 u4 u6 u11 u12 u13 u14 u15 u16 u17 u18 u19 u20 u21 u22 u23 u24 u25 u26 u27 u28 u29 u30 u31 u32 u33 u34 u35 u36 u37 u38 u39 u40 u41 u42 u43 u44 u45 u46 u47 u48 u49 u50 u51 u52 u53 u54 u55 u56 u57 u58 u59 u60 u61 u62 u63 u64 u65 u66 u67 u68 u69 u70 u71 u72 u73 u74 u75 u76 u77 u78 u79 u80 u81 u82 u83 u84 u85 u86 u87 u88 u89 u90 u91 u92 u93 u94 u95 u96 u97 u98 u99 u100 u101 u102 u103 u104 u105 u106 u107 u108 u109 u110 u111 u112 u113 u114 u115 u116 u117 u118 u119 u120 u121 u122 u123 u124 u125 u126 u127 u128 : Value)
    (h : RdS q d w0 gw gb gb2 gs gg n v sv b k at_ l la lc ua uc W) (hs : scanT b k at_ l = R) (hf : firstT (b.drop k) = some (r, m)) (hu : Bt W u r) (hp : parseT r = none) :
    body47.wpIn (Fence.wide.inRound lp) nn Tryz.prog (allPost B (RdJ q d w0 gw gb gb2 gs gg n v sv b R L) (RdX q d w0 gw gb gb2 gs gg n v sv b R) (k + m) W) ⟨#[u0, u1, .pointer (some ⟨gw, 0, none⟩), u3, u4, .pointer (some ⟨gb, 0, none⟩), u6, .pointer (some ⟨gs, 0, none⟩), .pointer (some ⟨gg, 0, none⟩), .int .i64 (k : Nat), u, u11, u12, u13, u14, u15, u16, u17, u18, u19, u20, u21, u22, u23, u24, u25, u26, u27, u28, u29, u30, u31, u32, u33, u34, u35, u36, u37, u38, u39, u40, u41, u42, u43, u44, u45, u46, u47, u48, u49, u50, u51, u52, u53, u54, u55, u56, u57, u58, u59, u60, u61, u62, u63, u64, u65, u66, u67, u68, u69, u70, u71, u72, u73, u74, u75, u76, u77, u78, u79, u80, u81, u82, u83, u84, u85, u86, u87, u88, u89, u90, u91, u92, u93, u94, u95, u96, u97, u98, u99, u100, u101, u102, u103, u104, u105, u106, u107, u108, u109, u110, u111, u112, u113, u114, u115, u116, u117, u118, u119, u120, u121, u122, u123, u124, u125, u126, u127, u128], []⟩ W := by
  have hfl := firstT_le hf
  have hpar : Calls Tryz.prog 9 #[u] W fun e w' => e = .returned (.tuple #[.agg #[.int .u64 0, .int .u64 0, .slice none 0 0], .int .i64 4]) ∧ Below W.heap.size W w' := parse9_no u r W hu (by omega) hp
  have hR : R = (k, at_, l) := by rw [← hs]; exact scanT_bad hf hp
  have HR := Lib.hid hR
  have HP := Lib.hid hpar
  have H := Lib.hid h
  clear h hs hf hu hp hpar hR hfl
  conv => arg 6; zeta
  conv => arg 4; whnf
  gi_wp2_with (refine ⟨trivial, (by intro h; cases h), ?_⟩; gi_at_call 9; refine (CallsIn.inRound _ (callsIn_wide.2 HP.out)).mono ?_; rintro e w1 ⟨rfl, b1⟩)
  refine region_in_quiet (C := fun w' => ∃ q, w' = (w1.alloc (.cells #[.int .u64 0, .int .u64 0, .slice none 0 0] 25)).drewN q) (by kernel_rfl) (by kernel_rfl) (fun _ _ h => h) (by kernel_rfl) ⟨1, rfl⟩ ?_
  iterate 11 ((with_reducible refine wpQuiet_step (fun K hK => ?_)); go_simp; refine hK _ ?_; clear hK K)
  refine wpQuiet_nil ?_
  rintro w2 ⟨nq, rfl⟩
  gi_wp2
  have hb : Below W.heap.size W ((w1.alloc (.cells #[.int .u64 0, .int .u64 0, .slice none 0 0] 25)).drewN nq) := (b1.alloc b1.size _).trans ((below_drewN _ _).mono (by have := b1.size; simp; omega))
  refine ⟨keeps_below hb, rfl, ?_⟩
  rw [HR.out]
  exact ⟨la, lc, ua, uc, H.out.below hb⟩

set_option maxRecDepth 1000000 in
set_option maxHeartbeats 6400000 in
theorem round47_no (lp nn q d B : Nat) (w0 : World) (gw gb gb2 gs gg n : Nat) (v sv : Value) (b : List UInt8) (R : Nat × List Nat × List Ent) (L k m : Nat) (r : List UInt8) (at_ : List Nat) (l : List Ent) (la : Option Addr) (lc : Nat) (ua : Option Addr) (uc : Nat) (u : Value) (W : World) (e : Ent)
    (u0 u1 u3 u4 u6 u11 u12 u13 u14 u15 u16 u17 u18 u19 u20 u21 u22 u23 u24 u25 u26 u27 u28 u29 u30 u31 u32 u33 u34 u35 u36 u37 u38 u39 u40 u41 u42 u43 u44 u45 u46 u47 u48 u49 u50 u51 u52 u53 u54 u55 u56 u57 u58 u59 u60 u61 u62 u63 u64 u65 u66 u67 u68 u69 u70 u71 u72 u73 u74 u75 u76 u77 u78 u79 u80 u81 u82 u83 u84 u85 u86 u87 u88 u89 u90 u91 u92 u93 u94 u95 u96 u97 u98 u99 u100 u101 u102 u103 u104 u105 u106 u107 u108 u109 u110 u111 u112 u113 u114 u115 u116 u117 u118 u119 u120 u121 u122 u123 u124 u125 u126 u127 u128 : Value)
    (h : RdS q d w0 gw gb gb2 gs gg n v sv b k at_ l la lc ua uc W) (hs : scanT b k at_ l = R) (hf : firstT (b.drop k) = some (r, m)) (hu : Bt W u r) (hp : parseT r = some e) (hfi : fitsT l e = false) (hll : l.length < 1000000000) :
    body47.wpIn (Fence.wide.inRound lp) nn Tryz.prog (allPost B (RdJ q d w0 gw gb gb2 gs gg n v sv b R L) (RdX q d w0 gw gb gb2 gs gg n v sv b R) (k + m) W) ⟨#[u0, u1, .pointer (some ⟨gw, 0, none⟩), u3, u4, .pointer (some ⟨gb, 0, none⟩), u6, .pointer (some ⟨gs, 0, none⟩), .pointer (some ⟨gg, 0, none⟩), .int .i64 (k : Nat), u, u11, u12, u13, u14, u15, u16, u17, u18, u19, u20, u21, u22, u23, u24, u25, u26, u27, u28, u29, u30, u31, u32, u33, u34, u35, u36, u37, u38, u39, u40, u41, u42, u43, u44, u45, u46, u47, u48, u49, u50, u51, u52, u53, u54, u55, u56, u57, u58, u59, u60, u61, u62, u63, u64, u65, u66, u67, u68, u69, u70, u71, u72, u73, u74, u75, u76, u77, u78, u79, u80, u81, u82, u83, u84, u85, u86, u87, u88, u89, u90, u91, u92, u93, u94, u95, u96, u97, u98, u99, u100, u101, u102, u103, u104, u105, u106, u107, u108, u109, u110, u111, u112, u113, u114, u115, u116, u117, u118, u119, u120, u121, u122, u123, u124, u125, u126, u127, u128], []⟩ W := by
  have hfl := firstT_le hf
  have hpar := parse9_yesT u r e W hu (by omega) hp
  have HP := Lib.hid hpar
  have H := Lib.hid h
  have HFI := Lib.hid hfi
  have HLL := Lib.hid hll
  have hR : R = (k, at_, l) := by rw [← hs]; exact scanT_no hf hp hfi
  have HR := Lib.hid hR
  clear h hs hf hu hp hpar hR hfl hfi hll
  conv => arg 6; zeta
  conv => arg 4; whnf
  gi_wp2_with (refine ⟨trivial, (by intro h; cases h), ?_⟩; gi_at_call 9; refine (CallsIn.inRound _ (callsIn_wide.2 HP.out)).mono ?_; rintro ee w1 ⟨uo, uc2, rfl, hbt1, b1⟩)
  obtain ⟨wA, hwA⟩ : ∃ wA, wA = w1.alloc (.cells #[.int .u64 e.i, .int .u64 e.t, .slice uo e.b.length uc2] 25) := ⟨_, rfl⟩
  have hbA : Below W.heap.size W wA := by rw [hwA]; exact b1.alloc b1.size _
  have hA := H.out.below hbA
  have hbe : Box wA w1.heap.size 25 #[.int .u64 e.i, .int .u64 e.t, .slice uo e.b.length uc2] := by rw [hwA]; exact Box.new _ _ _ _ rfl
  have hbt : BtT wA (.slice uo e.b.length uc2) e.b := by rw [hwA]; exact hbt1.fr (Fr.of_below (M := noTypes) ((Below.refl _ _).alloc (Nat.le_refl _) _) (Nat.le_refl _)) id
  rw [← hwA]
  have hcell : ∀ w', Below wA.heap.size wA w' → w'.cell? ⟨gw, 0, none⟩ = some (.pointer (some ⟨q, 0, none⟩)) ∧ w'.cell? ⟨q, 2, none⟩ = some (.slice la l.length lc) ∧ w'.cell? ⟨w1.heap.size, 0, none⟩ = some (.int .u64 e.i) ∧ w'.cell? ⟨w1.heap.size, 1, none⟩ = some (.int .u64 e.t) ∧ w'.cell? ⟨w1.heap.size, 2, none⟩ = some (.slice uo e.b.length uc2) := fun w' hw => by
    have h2 := hA.below hw
    have h3 := hbe.below hw hbe.lt
    exact ⟨h2.bw.cell 0 rfl, h2.bq.cell 2 rfl, h3.cell 0 rfl, h3.cell 1 rfl, h3.cell 2 rfl⟩
  have hfits : ∀ w', Below wA.heap.size wA w' → Calls Tryz.prog 88 #[.slice la l.length lc, .agg #[.int .u64 e.i, .int .u64 e.t, .slice uo e.b.length uc2]] w' fun x w2 => x = .returned (.bool false) ∧ Below w'.heap.size w' w2 := fun w' hw => by
    rw [← HFI.out]
    exact fits88 la lc l e _ w' (hA.below hw).es ⟨_, _, _, rfl⟩ HLL.out
  have HC := Lib.hid hcell
  have HFT := Lib.hid hfits
  have HA := Lib.hid hA
  have HBE := Lib.hid hbe
  have HBT := Lib.hid hbt
  have HBA := Lib.hid hbA
  have HWA := Lib.hid hwA
  have HW1 : Hid (w1.heap.size < wA.heap.size) := Lib.hid (by rw [hwA]; simp)
  clear hcell hfits hA hbe hbt hbA hwA hbt1
  refine region_in_quiet (C := fun w' => Below wA.heap.size wA w') (by kernel_rfl) (by kernel_rfl) (fun _ _ h => h) (by kernel_rfl) (below_drewN wA 1) ?_
  (with_reducible refine wpQuiet_step (fun K hK => ?_)); go_simp; refine ⟨_, fun _ _ => rfl, hK _ ?_⟩; clear hK K
  (with_reducible refine wpQuiet_step (fun K hK => ?_)); go_simp; refine ⟨_, fun _ _ => rfl, hK _ ?_⟩; clear hK K
  (with_reducible refine wpQuiet_step (fun K hK => ?_)); go_simp; refine ⟨_, fun _ _ => rfl, hK _ ?_⟩; clear hK K
  (with_reducible refine wpQuiet_step (fun K hK => ?_))
  rw [if_pos (by rfl)]
  refine ⟨.pointer (some ⟨q, 0, none⟩), fun w' hw => ?_, ?_⟩
  · obtain ⟨p1, p2, p3, p4, p5⟩ := HC.out w' hw; clear hw; unfold Oper.quietAt; go_simp
  refine hK _ ?_
  clear hK K
  try simp only [Act.put, List.setIfInBounds_toArray, List.set_cons_zero, List.set_cons_succ]
  (with_reducible refine wpQuiet_step (fun K hK => ?_)); go_simp; refine ⟨_, fun _ _ => rfl, hK _ ?_⟩; clear hK K
  (with_reducible refine wpQuiet_step (fun K hK => ?_)); go_simp; refine ⟨_, fun _ _ => rfl, hK _ ?_⟩; clear hK K
  (with_reducible refine wpQuiet_step (fun K hK => ?_))
  rw [if_pos (by rfl)]
  refine ⟨.slice la l.length lc, fun w' hw => ?_, ?_⟩
  · obtain ⟨p1, p2, p3, p4, p5⟩ := HC.out w' hw; clear hw; unfold Oper.quietAt; go_simp
  refine hK _ ?_
  clear hK K
  try simp only [Act.put, List.setIfInBounds_toArray, List.set_cons_zero, List.set_cons_succ]
  (with_reducible refine wpQuiet_step (fun K hK => ?_))
  rw [if_pos (by rfl)]
  refine ⟨.agg #[.int .u64 e.i, .int .u64 e.t, .slice uo e.b.length uc2], fun w' hw => ?_, ?_⟩
  · obtain ⟨p1, p2, p3, p4, p5⟩ := HC.out w' hw; clear hw; unfold Oper.quietAt; go_simp
  refine hK _ ?_
  clear hK K
  try simp only [Act.put, List.setIfInBounds_toArray, List.set_cons_zero, List.set_cons_succ]
  (with_reducible refine wpQuiet_step (fun K hK => ?_))
  rw [if_pos (by rfl)]
  refine ⟨.bool false, fun w' hw => ?_, ?_⟩
  · (unfold Oper.quietAt; go_simp; refine (HFT.out w' hw).mono ?_; rintro e w2 ⟨rfl, b2⟩; exact ⟨rfl, hw.trans (b2.mono hw.size)⟩)
  refine hK _ ?_
  clear hK K
  try simp only [Act.put, List.setIfInBounds_toArray, List.set_cons_zero, List.set_cons_succ]
  (with_reducible refine wpQuiet_step (fun K hK => ?_)); go_simp; refine ⟨_, fun _ _ => rfl, hK _ ?_⟩; clear hK K
  (with_reducible refine wpQuiet_step (fun K hK => ?_)); go_simp; refine ⟨_, fun _ _ => rfl, hK _ ?_⟩; clear hK K
  refine wpQuiet_nil ?_
  intro w2 b2
  gi_wp2
  have hb : Below W.heap.size W w2 := HBA.out.trans (b2.mono HBA.out.size)
  refine ⟨keeps_below hb, rfl, ?_⟩
  rw [HR.out]
  exact ⟨la, lc, ua, uc, H.out.below hb⟩

end Go.Proofs.YtpcipfnahknngaaGreatDoor

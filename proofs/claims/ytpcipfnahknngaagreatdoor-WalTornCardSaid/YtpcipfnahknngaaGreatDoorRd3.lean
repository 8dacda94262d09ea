/- Rounds of wal.read's loop. No statement of the seat. -/
import Derived.Test.YtpcipfnahknngaaGreatDoorRd2
import Derived.Test.YtpcipfnahknngaaGreatDoorTld
import Derived.Test.YtpcipfnahknngaaGreatDoorMaRec
import Derived.Deep.RegionHeld
namespace Go.Proofs.YtpcipfnahknngaaGreatDoor
open Go.RowKit Go.Maps
attribute [local go_sem] Oper.semAt_some


theorem box_fr {W : World} {g : Nat} {t : TypeId} {xs : Array Value} (h : Box W g t xs) (j : Nat) (u : Value) : Fr (fun e => e = t) W (W.setCell ⟨g, j, none⟩ u) :=
  Fr.setCell (Fr.refl _ W) _ (fun cur e fz hh => by
    have h2 : W.heap[g]? = some (Obj.cells cur e fz) := hh
    unfold Box at h
    rw [h] at h2
    cases h2; rfl)
theorem keeps_grown {B : Nat} {W W' : World} {v : Value} {e : TypeId} (hg : W.grownBy W' v.ownBlock) (ht : Ty e W v) : KeepsFrom B W W' :=
  (KeepsOthers.of_grownBy hg fun j o hj ho => by
    obtain ⟨cur, fz, h⟩ := ht j hj
    rw [ho] at h
    cases h
    rfl).from B

/-- behind the two stores of a record that was good -/
theorem RdS.stored {q d B : Nat} {w0 : World} {gw gb gb2 gs gg n : Nat} {v sv : Value} {b : List UInt8} {k : Nat} {at_ : List Nat} {l l' : List Ent} {la : Option Addr} {lc : Nat} {ua : Option Addr} {uc : Nat} {W w6 : World} {la' : Option Addr} {lc' g c5 i : Nat}
    (h : RdS q d w0 gw gb gb2 gs gg n v sv b k at_ l la lc ua uc W) (hgs : w0.heap.size ≤ gs) (hes : Es W (.slice la' l'.length lc') l') (ho : w6.ownsRow w0.heap.size 22 1 (.slice (some ⟨g, 0, none⟩) (at_.length + 1) c5) (at_.length + 1) (nv (at_ ++ [i])))
    (hg : W.grownBy w6 (Value.slice ua at_.length uc).ownBlock) :
    RdS q d w0 gw gb gb2 gs gg n v sv b k (at_ ++ [i]) l' la' lc' (some ⟨g, 0, none⟩) c5 ((w6.setCell ⟨q, 2, none⟩ (.slice la' l'.length lc')).setCell ⟨gs, 1, none⟩ (.slice (some ⟨g, 0, none⟩) (at_.length + 1) c5)) ∧
      KeepsFrom B W ((w6.setCell ⟨q, 2, none⟩ (.slice la' l'.length lc')).setCell ⟨gs, 1, none⟩ (.slice (some ⟨g, 0, none⟩) (at_.length + 1) c5)) := by
  have hT := Ty.of_own h.at_
  have f6 : Fr (fun e => e = 22) W w6 := Fr.grown hg hT rfl
  have q6 := h.bq.fr f6 (by decide)
  have f7 := box_fr q6 2 (.slice la' l'.length lc')
  have s7 := (h.bs.fr f6 (by decide)).fr f7 (by decide)
  have f8 := box_fr s7 1 (.slice (some ⟨g, 0, none⟩) (at_.length + 1) c5)
  have hl : (at_ ++ [i]).length = at_.length + 1 := by simp
  refine ⟨⟨?_, ?_, ?_, ?_, ?_, ?_, ?_, ?_, ?_, ?_⟩, ?_⟩
  · exact ((h.rx.grown hg fun x e => (h.at_.lt x e).1).set ⟨q, 2, none⟩ _ (Or.inl rfl)).set ⟨gs, 1, none⟩ _ (Or.inr hgs)
  · exact (q6.set 2 _).fr f8 (by decide)
  · exact ((h.bw.fr f6 (by decide)).fr f7 (by decide)).fr f8 (by decide)
  · exact ((h.bb.fr f6 (by decide)).fr f7 (by decide)).fr f8 (by decide)
  · exact ((h.bb2.fr f6 (by decide)).fr f7 (by decide)).fr f8 (by decide)
  · rw [hl]; exact s7.set 1 _
  · exact ((h.bg.fr f6 (by decide)).fr f7 (by decide)).fr f8 (by decide)
  · exact ((h.hb.fr f6 (by decide)).fr f7 (by decide)).fr f8 (by decide)
  · exact ((hes.fr f6 (by decide) (by decide)).fr f7 (by decide) (by decide)).fr f8 (by decide) (by decide)
  · rw [hl]; exact own_fr (own_fr ho f7 (by decide)) f8 (by decide)
  · exact ((keeps_grown hg hT).trans ((KeepsOthers.setCell _ _ _).from B)).trans ((KeepsOthers.setCell _ _ _).from B)
/-- behind the store of how far all is good -/
theorem RdS.good {q d B : Nat} {w0 : World} {gw gb gb2 gs gg n : Nat} {v sv : Value} {b : List UInt8} {k : Nat} {at_ : List Nat} {l : List Ent} {la : Option Addr} {lc : Nat} {ua : Option Addr} {uc : Nat} {W : World}
    (h : RdS q d w0 gw gb gb2 gs gg n v sv b k at_ l la lc ua uc W) (hgg : w0.heap.size ≤ gg) (k' : Nat) :
    RdS q d w0 gw gb gb2 gs gg n v sv b k' at_ l la lc ua uc (W.setCell ⟨gg, 0, none⟩ (.int .i64 (k' : Nat))) ∧ KeepsFrom B W (W.setCell ⟨gg, 0, none⟩ (.int .i64 (k' : Nat))) := by
  have f := box_fr h.bg 0 (.int .i64 (k' : Nat))
  exact ⟨⟨h.rx.set _ _ (Or.inr hgg), h.bq.fr f (by decide), h.bw.fr f (by decide), h.bb.fr f (by decide), h.bb2.fr f (by decide), h.bs.fr f (by decide), h.bg.set 0 _, h.hb.fr f (by decide), h.es.fr f (by decide) (by decide), own_fr h.at_ f (by decide)⟩, (KeepsOthers.setCell _ _ _).from B⟩

set_option maxRecDepth 1000000 in
set_option maxHeartbeats 6400000 in
theorem round47_yes (lp nn q d B : Nat) (w0 : World) (gw gb gb2 gs gg n : Nat) (v sv : Value) (b : List UInt8) (R : Nat × List Nat × List Ent) (L k m : Nat) (r : List UInt8) (at_ : List Nat) (l : List Ent) (la : Option Addr) (lc : Nat) (ua : Option Addr) (uc : Nat) (u : Value) (W : World) (e : Ent)
    (u0 u1 u3 u4 u6 u11 u12 u13 u14 u15 u16 u17 u18 u19 u20 u21 u22 u23 u24 u25 u26 u27 u28 u29 u30 u31 u32 u33 u34 u35 u36 u37 u38 u39 u40 u41 u42 u43 u44 u45 u46 u47 u48 u49 u50 u51 u52 u53 u54 u55 u56 u57 u58 u59 u60 u61 u62 u63 u64 u65 u66 u67 u68 u69 u70 u71 u72 u73 u74 u75 u76 u77 u78 u79 u80 u81 u82 u83 u84 u85 u86 u87 u88 u89 u90 u91 u92 u93 u94 u95 u96 u97 u98 u99 u100 u101 u102 u103 u104 u105 u106 u107 u108 u109 u110 u111 u112 u113 u114 u115 u116 u117 u118 u119 u120 u121 u122 u123 u124 u125 u126 u127 u128 : Value)
    (h : RdS q d w0 gw gb gb2 gs gg n v sv b k at_ l la lc ua uc W) (hs : scanT b k at_ l = R) (hf : firstT (b.drop k) = some (r, m)) (hu : Bt W u r) (hp : parseT r = some e) (hfi : fitsT l e = true) (hll : l.length ≤ L + k) (hLL : L + b.length < 1000000000) (hat : at_.length ≤ k) (hb63 : b.length ≤ 140737488351232) (hkm : k + m ≤ b.length) (hgs : w0.heap.size ≤ gs) (hgg : w0.heap.size ≤ gg) :
    body47.wpIn (Fence.wide.inRound lp) nn Tryz.prog (allPost B (RdJ q d w0 gw gb gb2 gs gg n v sv b R L) (RdX q d w0 gw gb gb2 gs gg n v sv b R) (k + m) W) ⟨#[u0, u1, .pointer (some ⟨gw, 0, none⟩), u3, u4, .pointer (some ⟨gb, 0, none⟩), u6, .pointer (some ⟨gs, 0, none⟩), .pointer (some ⟨gg, 0, none⟩), .int .i64 (k : Nat), u, u11, u12, u13, u14, u15, u16, u17, u18, u19, u20, u21, u22, u23, u24, u25, u26, u27, u28, u29, u30, u31, u32, u33, u34, u35, u36, u37, u38, u39, u40, u41, u42, u43, u44, u45, u46, u47, u48, u49, u50, u51, u52, u53, u54, u55, u56, u57, u58, u59, u60, u61, u62, u63, u64, u65, u66, u67, u68, u69, u70, u71, u72, u73, u74, u75, u76, u77, u78, u79, u80, u81, u82, u83, u84, u85, u86, u87, u88, u89, u90, u91, u92, u93, u94, u95, u96, u97, u98, u99, u100, u101, u102, u103, u104, u105, u106, u107, u108, u109, u110, u111, u112, u113, u114, u115, u116, u117, u118, u119, u120, u121, u122, u123, u124, u125, u126, u127, u128], []⟩ W := by
  have hfl := firstT_le hf
  have hpar := parse9_yesT u r e W hu (by omega) hp
  have hl9 : l.length < 1000000000 := by omega
  have hat9 : at_.length < 1000000000 := by omega
  have heb : e.b.length ≤ 140737488351232 := by have := (parseT_some hp).choose_spec.choose_spec.2.2.2.2; omega
  have hR : scanT b (k + m) (at_ ++ [e.i]) (putE l e) = R := by rw [← hs]; exact (scanT_yes hf hp hfi).symm
  have HR := Lib.hid hR
  have HP := Lib.hid hpar
  have H := Lib.hid h
  have HFI := Lib.hid hfi
  have HLL := Lib.hid hl9
  have HF := Lib.hid hf
  have hkl : k < b.length := by omega
  have hm5 := hfl.1
  obtain ⟨bg, bo, bc, rfl, hbc⟩ : ∃ bg bo bc, v = .slice (some ⟨bg, bo, none⟩) b.length bc ∧ b.length ≤ bc ∧ bc ≤ maxLen := by
    obtain ⟨_, _, ao, cap, hv, h3, h4, _, h5⟩ := h.hb.1
    obtain ⟨g, off, rfl, _⟩ := h5.resolve_left (by omega)
    exact ⟨g, off, cap, hv, h3, h4⟩
  obtain ⟨hbc1, hbc2⟩ := hbc
  unfold maxLen at hbc2
  clear h hs hf hu hp hpar hR hfl hfi hl9
  conv => arg 6; zeta
  conv => arg 4; whnf
  gi_wp2_with (refine ⟨trivial, (by intro h; cases h), ?_⟩; gi_at_call 9; refine (CallsIn.inRound _ (callsIn_wide.2 HP.out)).mono ?_; rintro ee w1 ⟨uo, uc2, rfl, hbt1, b1⟩)
  obtain ⟨wA, hwA⟩ : ∃ wA, wA = w1.alloc (.cells #[.int .u64 e.i, .int .u64 e.t, .slice uo e.b.length uc2] 25) := ⟨_, rfl⟩
  have hbA : Below W.heap.size W wA := by rw [hwA]; exact b1.alloc b1.size _
  have hA := H.out.below hbA
  have hbe : Box wA w1.heap.size 25 #[.int .u64 e.i, .int .u64 e.t, .slice uo e.b.length uc2] := by rw [hwA]; exact Box.new _ _ _ _ rfl
  have hbt : BtT wA (.slice uo e.b.length uc2) e.b := by rw [hwA]; exact hbt1.fr (Fr.of_below (M := noTypes) ((Below.refl _ _).alloc (Nat.le_refl _) _) (Nat.le_refl _)) id
  rw [← hwA]
  have hcell : ∀ w', Below wA.heap.size wA w' → w'.cell? ⟨gw, 0, none⟩ = some (.pointer (some ⟨q, 0, none⟩)) ∧ w'.cell? ⟨q, 2, none⟩ = some (.slice la l.length lc) ∧ w'.cell? ⟨w1.heap.size, 0, none⟩ = some (.int .u64 e.i) ∧ w'.cell? ⟨w1.heap.size, 1, none⟩ = some (.int .u64 e.t) ∧ w'.cell? ⟨w1.heap.size, 2, none⟩ = some (.slice uo e.b.length uc2) := fun w' hw => by
    have h2 := hA.below hw
    have h3 := hbe.below hw hbe.lt
    exact ⟨h2.bw.cell 0 rfl, h2.bq.cell 2 rfl, h3.cell 0 rfl, h3.cell 1 rfl, h3.cell 2 rfl⟩
  have hfits : ∀ w', Below wA.heap.size wA w' → Calls Tryz.prog 88 #[.slice la l.length lc, .agg #[.int .u64 e.i, .int .u64 e.t, .slice uo e.b.length uc2]] w' fun x w2 => x = .returned (.bool true) ∧ Below w'.heap.size w' w2 := fun w' hw => by
    rw [← HFI.out]
    exact fits88 la lc l e _ w' (hA.below hw).es ⟨_, _, _, rfl⟩ HLL.out
  have HC := Lib.hid hcell
  have HFT := Lib.hid hfits
  have HA := Lib.hid hA
  have HBE := Lib.hid hbe
  have HBT := Lib.hid hbt
  have HBA := Lib.hid hbA
  have HWA := Lib.hid hwA
  have HW1 : Hid (w1.heap.size < wA.heap.size) := Lib.hid (by rw [hwA]; simp)
  clear hcell hfits hA hbe hbt hbA hwA hbt1
  refine region_in_quiet (C := fun w' => Below wA.heap.size wA w') (by kernel_rfl) (by kernel_rfl) (fun _ _ h => h) (by kernel_rfl) (below_drewN wA 1) ?_
  (with_reducible refine wpQuiet_step (fun K hK => ?_)); go_simp; refine ⟨_, fun _ _ => rfl, hK _ ?_⟩; clear hK K
  (with_reducible refine wpQuiet_step (fun K hK => ?_)); go_simp; refine ⟨_, fun _ _ => rfl, hK _ ?_⟩; clear hK K
  (with_reducible refine wpQuiet_step (fun K hK => ?_)); go_simp; refine ⟨_, fun _ _ => rfl, hK _ ?_⟩; clear hK K
  (with_reducible refine wpQuiet_step (fun K hK => ?_))
  rw [if_pos (by rfl)]
  refine ⟨.pointer (some ⟨q, 0, none⟩), fun w' hw => ?_, ?_⟩
  · obtain ⟨p1, p2, p3, p4, p5⟩ := HC.out w' hw; clear hw; unfold Oper.quietAt; go_simp
  refine hK _ ?_
  clear hK K
  try simp only [Act.put, List.setIfInBounds_toArray, List.set_cons_zero, List.set_cons_succ]
  (with_reducible refine wpQuiet_step (fun K hK => ?_)); go_simp; refine ⟨_, fun _ _ => rfl, hK _ ?_⟩; clear hK K
  (with_reducible refine wpQuiet_step (fun K hK => ?_)); go_simp; refine ⟨_, fun _ _ => rfl, hK _ ?_⟩; clear hK K
  (with_reducible refine wpQuiet_step (fun K hK => ?_))
  rw [if_pos (by rfl)]
  refine ⟨.slice la l.length lc, fun w' hw => ?_, ?_⟩
  · obtain ⟨p1, p2, p3, p4, p5⟩ := HC.out w' hw; clear hw; unfold Oper.quietAt; go_simp
  refine hK _ ?_
  clear hK K
  try simp only [Act.put, List.setIfInBounds_toArray, List.set_cons_zero, List.set_cons_succ]
  (with_reducible refine wpQuiet_step (fun K hK => ?_))
  rw [if_pos (by rfl)]
  refine ⟨.agg #[.int .u64 e.i, .int .u64 e.t, .slice uo e.b.length uc2], fun w' hw => ?_, ?_⟩
  · obtain ⟨p1, p2, p3, p4, p5⟩ := HC.out w' hw; clear hw; unfold Oper.quietAt; go_simp
  refine hK _ ?_
  clear hK K
  try simp only [Act.put, List.setIfInBounds_toArray, List.set_cons_zero, List.set_cons_succ]
  (with_reducible refine wpQuiet_step (fun K hK => ?_))
  rw [if_pos (by rfl)]
  refine ⟨.bool true, fun w' hw => ?_, ?_⟩
  · (unfold Oper.quietAt; go_simp; refine (HFT.out w' hw).mono ?_; rintro e w2 ⟨rfl, b2⟩; exact ⟨rfl, hw.trans (b2.mono hw.size)⟩)
  refine hK _ ?_
  clear hK K
  try simp only [Act.put, List.setIfInBounds_toArray, List.set_cons_zero, List.set_cons_succ]
  (with_reducible refine wpQuiet_step (fun K hK => ?_)); go_simp; refine ⟨_, fun _ _ => rfl, hK _ ?_⟩; clear hK K
  (with_reducible refine wpQuiet_step (fun K hK => ?_)); go_simp; refine ⟨_, fun _ _ => rfl, hK _ ?_⟩; clear hK K
  refine wpQuiet_nil ?_
  intro w2 b2
  gi_wp2
  have hb2 : Below W.heap.size W w2 := HBA.out.trans (b2.mono HBA.out.size)
  have H2 := Lib.hid (H.out.below hb2)
  have HBE2 := Lib.hid (HBE.out.below b2 HBE.out.lt)
  have HBT2 := Lib.hid (HBT.out.fr (Fr.of_below (M := noTypes) b2 (Nat.le_refl _)) id)
  have HS : Hid (∀ W', Below w2.heap.size w2 W' → (fun W => Box W gw 32 #[.pointer (some ⟨q, 0, none⟩)] ∧ Box W q 37 #[.pointer (some ⟨d, 0, none⟩), sv, .slice la l.length lc] ∧ Box W gs 81 #[.int .i64 n, .slice ua at_.length uc] ∧ Box W w1.heap.size 25 #[.int .u64 e.i, .int .u64 e.t, .slice uo e.b.length uc2]) W') := Lib.hid (fun W' hW => by
    have h3 := H2.out.below hW
    exact ⟨h3.bw, h3.bq, h3.bs, HBE2.out.below hW HBE2.out.lt⟩)
  have HPUT : Hid (∀ W', Below w2.heap.size w2 W' → Calls Tryz.prog 89 #[.slice la l.length lc, .agg #[.int .u64 e.i, .int .u64 e.t, .slice uo e.b.length uc2]] W' fun x w' => ∃ ao' cap', x = .returned (.slice ao' (putE l e).length cap') ∧ Es w' (.slice ao' (putE l e).length cap') (putE l e) ∧ Below W'.heap.size W' w') := Lib.hid (fun W' hW =>
    put89 l e _ la lc W' (H2.out.below hW).es (HBT2.out.fr (Fr.of_below (M := noTypes) hW (Nat.le_refl _)) id).1 HLL.out heb)
  have HB2 := Lib.hid hb2
  clear hb2
  refine region_in (by kernel_rfl) (by kernel_rfl) (fun _ _ h => h) ?_
  refine wpAny_of_P (S := fun W => Box W gw 32 #[.pointer (some ⟨q, 0, none⟩)] ∧ Box W q 37 #[.pointer (some ⟨d, 0, none⟩), sv, .slice la l.length lc] ∧ Box W gs 81 #[.int .i64 n, .slice ua at_.length uc] ∧ Box W w1.heap.size 25 #[.int .u64 e.i, .int .u64 e.t, .slice uo e.b.length uc2]) (A := fun i => decide (i < 15)) _ _ _ _ ?_
  have hHeld := HS.out _ (below_drewN w2 1)
  refine wpAnyP_take (i := 0) (oi := ?oi1) (v := .pointer (some ⟨q, 0, none⟩)) ?ho1 ?h11 (fun _ _ _ h => h) ?hy1 ?hs1 ?rest1
  case ho1 => (simp only [List.getElem?_toArray, List.getElem?_cons_zero]; rfl)
  case h11 => kernel_rfl
  case hs1 => assumption
  case hy1 => (refine Or.inl ⟨by rfl, fun w hSw => ?_⟩; obtain ⟨p1, p2, p3, p4⟩ := hSw; have c1 := p1.cell 0 rfl; have c2 := p2.cell 2 rfl; have c3 := p3.cell 1 rfl; have c4 := p4.cell 0 rfl; have c5 := p4.cell 1 rfl; have c6 := p4.cell 2 rfl; clear p1 p2 p3 p4; first | (go_simp; done) | (go_simp; with_reducible rfl))
  case rest1 =>
  try simp only [Act.put, List.setIfInBounds_toArray, List.set_cons_zero, List.set_cons_succ]
  refine wpAnyP_take (i := 1) (oi := ?oi2) (v := .pointer (some ⟨q, 0, none⟩)) ?ho2 ?h12 (fun _ _ _ h => h) ?hy2 ?hs2 ?rest2
  case ho2 => (simp only [List.getElem?_toArray, List.getElem?_cons_succ, List.getElem?_cons_zero]; rfl)
  case h12 => kernel_rfl
  case hs2 => assumption
  case hy2 => (refine Or.inl ⟨by rfl, fun w hSw => ?_⟩; obtain ⟨p1, p2, p3, p4⟩ := hSw; have c1 := p1.cell 0 rfl; have c2 := p2.cell 2 rfl; have c3 := p3.cell 1 rfl; have c4 := p4.cell 0 rfl; have c5 := p4.cell 1 rfl; have c6 := p4.cell 2 rfl; clear p1 p2 p3 p4; first | (go_simp; done) | (go_simp; with_reducible rfl))
  case rest2 =>
  try simp only [Act.put, List.setIfInBounds_toArray, List.set_cons_zero, List.set_cons_succ]
  refine wpAnyP_take (i := 2) (oi := ?oi3) (v := .pointer (some ⟨q, 0, none⟩)) ?ho3 ?h13 (fun _ _ _ h => h) ?hy3 ?hs3 ?rest3
  case ho3 => (simp only [List.getElem?_toArray, List.getElem?_cons_succ, List.getElem?_cons_zero]; rfl)
  case h13 => kernel_rfl
  case hs3 => assumption
  case hy3 => (refine Or.inl ⟨by rfl, fun w hSw => ?_⟩; obtain ⟨p1, p2, p3, p4⟩ := hSw; have c1 := p1.cell 0 rfl; have c2 := p2.cell 2 rfl; have c3 := p3.cell 1 rfl; have c4 := p4.cell 0 rfl; have c5 := p4.cell 1 rfl; have c6 := p4.cell 2 rfl; clear p1 p2 p3 p4; first | (go_simp; done) | (go_simp; with_reducible rfl))
  case rest3 =>
  try simp only [Act.put, List.setIfInBounds_toArray, List.set_cons_zero, List.set_cons_succ]
  refine wpAnyP_take (i := 3) (oi := ?oi4) (v := .pointer (some ⟨q, 2, none⟩)) ?ho4 ?h14 (fun _ _ _ h => h) ?hy4 ?hs4 ?rest4
  case ho4 => (simp only [List.getElem?_toArray, List.getElem?_cons_succ, List.getElem?_cons_zero]; rfl)
  case h14 => kernel_rfl
  case hs4 => assumption
  case hy4 => (refine Or.inl ⟨by rfl, fun w hSw => ?_⟩; obtain ⟨p1, p2, p3, p4⟩ := hSw; have c1 := p1.cell 0 rfl; have c2 := p2.cell 2 rfl; have c3 := p3.cell 1 rfl; have c4 := p4.cell 0 rfl; have c5 := p4.cell 1 rfl; have c6 := p4.cell 2 rfl; clear p1 p2 p3 p4; first | (go_simp; done) | (go_simp; with_reducible rfl))
  case rest4 =>
  try simp only [Act.put, List.setIfInBounds_toArray, List.set_cons_zero, List.set_cons_succ]
  refine wpAnyP_take (i := 4) (oi := ?oi5) (v := .slice la l.length lc) ?ho5 ?h15 (fun _ _ _ h => h) ?hy5 ?hs5 ?rest5
  case ho5 => (simp only [List.getElem?_toArray, List.getElem?_cons_succ, List.getElem?_cons_zero]; rfl)
  case h15 => kernel_rfl
  case hs5 => assumption
  case hy5 => (refine Or.inl ⟨by rfl, fun w hSw => ?_⟩; obtain ⟨p1, p2, p3, p4⟩ := hSw; have c1 := p1.cell 0 rfl; have c2 := p2.cell 2 rfl; have c3 := p3.cell 1 rfl; have c4 := p4.cell 0 rfl; have c5 := p4.cell 1 rfl; have c6 := p4.cell 2 rfl; clear p1 p2 p3 p4; first | (go_simp; done) | (go_simp; with_reducible rfl))
  case rest5 =>
  try simp only [Act.put, List.setIfInBounds_toArray, List.set_cons_zero, List.set_cons_succ]
  refine wpAnyP_take (i := 5) (oi := ?oi6) (v := .agg #[.int .u64 e.i, .int .u64 e.t, .slice uo e.b.length uc2]) ?ho6 ?h16 (fun _ _ _ h => h) ?hy6 ?hs6 ?rest6
  case ho6 => (simp only [List.getElem?_toArray, List.getElem?_cons_succ, List.getElem?_cons_zero]; rfl)
  case h16 => kernel_rfl
  case hs6 => assumption
  case hy6 => (refine Or.inl ⟨by rfl, fun w hSw => ?_⟩; obtain ⟨p1, p2, p3, p4⟩ := hSw; have c1 := p1.cell 0 rfl; have c2 := p2.cell 2 rfl; have c3 := p3.cell 1 rfl; have c4 := p4.cell 0 rfl; have c5 := p4.cell 1 rfl; have c6 := p4.cell 2 rfl; clear p1 p2 p3 p4; first | (go_simp; done) | (go_simp; with_reducible rfl))
  case rest6 =>
  try simp only [Act.put, List.setIfInBounds_toArray, List.set_cons_zero, List.set_cons_succ]
  refine wpAnyP_take (i := 7) (oi := ?oi7) (v := .pointer (some ⟨gs, 1, none⟩)) ?ho7 ?h17 (fun _ _ _ h => h) ?hy7 ?hs7 ?rest7
  case ho7 => (simp only [List.getElem?_toArray, List.getElem?_cons_succ, List.getElem?_cons_zero]; rfl)
  case h17 => kernel_rfl
  case hs7 => assumption
  case hy7 => (refine Or.inl ⟨by rfl, fun w hSw => ?_⟩; obtain ⟨p1, p2, p3, p4⟩ := hSw; have c1 := p1.cell 0 rfl; have c2 := p2.cell 2 rfl; have c3 := p3.cell 1 rfl; have c4 := p4.cell 0 rfl; have c5 := p4.cell 1 rfl; have c6 := p4.cell 2 rfl; clear p1 p2 p3 p4; first | (go_simp; done) | (go_simp; with_reducible rfl))
  case rest7 =>
  try simp only [Act.put, List.setIfInBounds_toArray, List.set_cons_zero, List.set_cons_succ]
  refine wpAnyP_take (i := 8) (oi := ?oi8) (v := .slice ua at_.length uc) ?ho8 ?h18 (fun _ _ _ h => h) ?hy8 ?hs8 ?rest8
  case ho8 => (simp only [List.getElem?_toArray, List.getElem?_cons_succ, List.getElem?_cons_zero]; rfl)
  case h18 => kernel_rfl
  case hs8 => assumption
  case hy8 => (refine Or.inl ⟨by rfl, fun w hSw => ?_⟩; obtain ⟨p1, p2, p3, p4⟩ := hSw; have c1 := p1.cell 0 rfl; have c2 := p2.cell 2 rfl; have c3 := p3.cell 1 rfl; have c4 := p4.cell 0 rfl; have c5 := p4.cell 1 rfl; have c6 := p4.cell 2 rfl; clear p1 p2 p3 p4; first | (go_simp; done) | (go_simp; with_reducible rfl))
  case rest8 =>
  try simp only [Act.put, List.setIfInBounds_toArray, List.set_cons_zero, List.set_cons_succ]
  refine wpAnyP_take (i := 9) (oi := ?oi9) (v := .pointer (some ⟨w1.heap.size, 0, none⟩)) ?ho9 ?h19 (fun _ _ _ h => h) ?hy9 ?hs9 ?rest9
  case ho9 => (simp only [List.getElem?_toArray, List.getElem?_cons_succ, List.getElem?_cons_zero]; rfl)
  case h19 => kernel_rfl
  case hs9 => assumption
  case hy9 => (refine Or.inl ⟨by rfl, fun w hSw => ?_⟩; obtain ⟨p1, p2, p3, p4⟩ := hSw; have c1 := p1.cell 0 rfl; have c2 := p2.cell 2 rfl; have c3 := p3.cell 1 rfl; have c4 := p4.cell 0 rfl; have c5 := p4.cell 1 rfl; have c6 := p4.cell 2 rfl; clear p1 p2 p3 p4; first | (go_simp; done) | (go_simp; with_reducible rfl))
  case rest9 =>
  try simp only [Act.put, List.setIfInBounds_toArray, List.set_cons_zero, List.set_cons_succ]
  refine wpAnyP_take (i := 10) (oi := ?oi10) (v := .int .u64 e.i) ?ho10 ?h110 (fun _ _ _ h => h) ?hy10 ?hs10 ?rest10
  case ho10 => (simp only [List.getElem?_toArray, List.getElem?_cons_succ, List.getElem?_cons_zero]; rfl)
  case h110 => kernel_rfl
  case hs10 => assumption
  case hy10 => (refine Or.inl ⟨by rfl, fun w hSw => ?_⟩; obtain ⟨p1, p2, p3, p4⟩ := hSw; have c1 := p1.cell 0 rfl; have c2 := p2.cell 2 rfl; have c3 := p3.cell 1 rfl; have c4 := p4.cell 0 rfl; have c5 := p4.cell 1 rfl; have c6 := p4.cell 2 rfl; clear p1 p2 p3 p4; first | (go_simp; done) | (go_simp; with_reducible rfl))
  case rest10 =>
  try simp only [Act.put, List.setIfInBounds_toArray, List.set_cons_zero, List.set_cons_succ]
  refine wpAnyP_ready (rs := [6, 11]) (by kernel_rfl) (by simp) ?_
  refine AllReadyP.cons rfl (fun K hK => ?_) ?_
  · go_simp
    go_at_call 89; (with_reducible refine (HPUT.out _ (Below.refl w2.heap.size w2).drew).mono ?_); rintro ee w3 ⟨la2, lc2, rfl, hes3, b3⟩; have hb3 : Below w2.heap.size w2 w3 := ((Below.refl w2.heap.size w2).drew).trans (b3.mono (Below.size (Below.refl w2.heap.size w2).drew))
    refine hK.out _ _ (fun _ => HS.out _ hb3) (fun hHeld => ?_)
    replace hHeld := hHeld rfl
    clear hK K
    try simp only [Act.put, List.setIfInBounds_toArray, List.set_cons_zero, List.set_cons_succ]
    refine wpAnyP_ready (rs := [11]) (by kernel_rfl) (by simp) ?_
    refine AllReadyP.cons rfl (fun K hK => ?_) ?_
    · go_simp
      refine hK.out _ _ (fun _ => HS.out _ (hb3.alloc hb3.size _)) (fun hHeld => ?_)
      replace hHeld := hHeld rfl
      clear hK K
      try simp only [Act.put, List.setIfInBounds_toArray, List.set_cons_zero, List.set_cons_succ]
      refine wpAnyP_ready (rs := [12]) (by kernel_rfl) (by simp) ?_
      refine AllReadyP.cons rfl (fun K hK => ?_) ?_
      · refine step_at rfl (.tmp 56) (.tmp 59) rfl w0.heap.size ua uc at_ e.i w3.heap.size w3 ((Below.refl _ _).alloc (Nat.le_refl _) _) (by simp [Act.eval]) (own_fr H2.out.at_ (Fr.of_below (M := noTypes) hb3 (Nat.le_refl _)) id) (by simp [Act.eval]) (Box.new _ _ _ _ rfl) hat9 (by have z := H2.out.rx.size; have z2 := hb3.size; simp; omega) ?_
        intro W5 g5 c5 w5 hb35 own5 grow5 at5
        have hb25 : Below w2.heap.size w2 W5 := hb3.trans (hb35.mono hb3.size)
        have hes5 := hes3.fr (M := noTypes) (Fr.of_below hb35 (Nat.le_refl _)) id id
        have ty5 := Ty.of_own (own_fr H2.out.at_ (Fr.of_below (M := noTypes) hb25 (Nat.le_refl _)) id)
        refine hK.out _ _ (fun _ => by
          have z := HS.out _ hb25
          exact ⟨z.1.grown grow5 ty5 (by decide), z.2.1.grown grow5 ty5 (by decide), z.2.2.1.grown grow5 ty5 (by decide), z.2.2.2.grown grow5 ty5 (by decide)⟩) (fun hHeld => ?_)
        replace hHeld := hHeld rfl
        clear hK K
        try simp only [Act.put, List.setIfInBounds_toArray]
        refine wpAnyP_take (i := 13) (oi := ?oi11) (v := .pointer (some ⟨q, 0, none⟩)) ?ho11 ?h111 (fun _ _ _ h => h) ?hy11 ?hs11 ?rest11
        case ho11 => (simp only [List.getElem?_toArray, List.getElem?_cons_succ, List.getElem?_cons_zero]; rfl)
        case h111 => kernel_rfl
        case hs11 => assumption
        case hy11 => (refine Or.inl ⟨by rfl, fun w hSw => ?_⟩; obtain ⟨p1, p2, p3, p4⟩ := hSw; have c1 := p1.cell 0 rfl; have c2 := p2.cell 2 rfl; have c3 := p3.cell 1 rfl; have c4 := p4.cell 0 rfl; have c5 := p4.cell 1 rfl; have c6 := p4.cell 2 rfl; clear p1 p2 p3 p4; first | (go_simp; done) | (go_simp; with_reducible rfl))
        case rest11 =>
        try simp only [Act.put]
        refine wpAnyP_take (i := 14) (oi := ?oi12) (v := .pointer (some ⟨q, 2, none⟩)) ?ho12 ?h112 (fun _ _ _ h => h) ?hy12 ?hs12 ?rest12
        case ho12 => (simp only [List.getElem?_toArray, List.getElem?_cons_succ, List.getElem?_cons_zero]; rfl)
        case h112 => kernel_rfl
        case hs12 => assumption
        case hy12 => (refine Or.inl ⟨by rfl, fun w hSw => ?_⟩; obtain ⟨p1, p2, p3, p4⟩ := hSw; have c1 := p1.cell 0 rfl; have c2 := p2.cell 2 rfl; have c3 := p3.cell 1 rfl; have c4 := p4.cell 0 rfl; have c5 := p4.cell 1 rfl; have c6 := p4.cell 2 rfl; clear p1 p2 p3 p4; first | (go_simp; done) | (go_simp; with_reducible rfl))
        case rest12 =>
        try simp only [Act.put]
        have q5 := hHeld.2.1.cell 2 rfl
        have fz5 := hHeld.2.1.froz 2
        have q6 := (hHeld.2.2.1.fr (box_fr hHeld.2.1 2 (.slice la2 (putE l e).length lc2)) (by decide)).cell 1 rfl
        have fz6 := (hHeld.2.2.1.fr (box_fr hHeld.2.1 2 (.slice la2 (putE l e).length lc2)) (by decide)).froz 1
        refine wpAnyP_ready (rs := [15]) (by kernel_rfl) (by simp) ?_
        refine AllReadyP.cons rfl (fun K hK => ?_) ?_
        · go_simp
          refine hK.out _ _ (fun h => absurd h (by decide)) (fun hHeld => ?_)
          clear hHeld
          clear hK K
          try simp only [Act.put, List.setIfInBounds_toArray, List.set_cons_zero, List.set_cons_succ]
          refine wpAnyP_ready (rs := [16]) (by kernel_rfl) (by simp) ?_
          refine AllReadyP.cons rfl (fun K hK => ?_) ?_
          · go_simp
            refine hK.out _ _ (fun h => absurd h (by decide)) (fun hHeld => ?_)
            clear hHeld
            clear hK K
            try simp only [Act.put, List.setIfInBounds_toArray, List.set_cons_zero, List.set_cons_succ]
            refine wpAnyP_ready (rs := [17]) (by kernel_rfl) (by simp) ?_
            refine AllReadyP.cons rfl (fun K hK => ?_) ?_
            · go_simp
              refine hK.out _ _ (fun h => absurd h (by decide)) (fun hHeld => ?_)
              clear hHeld
              clear hK K
              try simp only [Act.put, List.setIfInBounds_toArray, List.set_cons_zero, List.set_cons_succ]
              refine wpAnyP_done (by kernel_rfl) ?_ _
              obtain ⟨st5, kf5⟩ := RdS.stored (B := B) (H2.out.below hb25) hgs hes5 own5 grow5
              clear q5 fz5 q6 fz6
              have ST := Lib.hid st5
              have cb := st5.bb.cell 0 rfl
              have hBd := st5.hb.1.drop k (by omega) (by omega)
              have HBD := Lib.hid hBd
              have hcap : ¬ bc = k := by omega
              obtain ⟨w7, hw7⟩ : ∃ w7, w7 = (w5.setCell ⟨q, 2, none⟩ (.slice la2 (putE l e).length lc2)).setCell ⟨gs, 1, none⟩ (.slice (some ⟨g5, 0, none⟩) (at_.length + 1) c5) := ⟨_, rfl⟩
              rw [← hw7] at ST HBD cb ⊢
              rw [← hw7] at kf5
              have HW7 := Lib.hid hw7
              have KF5 := Lib.hid kf5
              clear st5 hBd hw7 kf5 own5 grow5 at5 hes5 hes3 ty5 hHeld
              gi_wp2_with (refine ⟨trivial, (by intro h; cases h), ?_⟩; gi_at_call 90; refine (CallsIn.inRound _ (callsIn_wide.2 (first90_some _ (b.drop k) r m _ HBD.out (by simp; omega) HF.out))).mono ?_; rintro ee w8 ⟨u8, rfl, hu8, b8⟩; have cg8 := (ST.out.below b8).bg.cell 0 rfl; have fg8 := (ST.out.below b8).bg.froz 0)
              obtain ⟨z1, z2⟩ := RdS.good (B := B) (ST.out.below b8) hgg (k + m)
              refine ⟨((keeps_below (HB2.out.trans (hb25.mono HB2.out.size))).trans KF5.out).trans ((keeps_below b8).trans z2), at_ ++ [e.i], putE l e, ⟨la2, lc2, some ⟨g5, 0, none⟩, c5, z1⟩, HR.out, ?_, ?_⟩
              · simp; omega
              · have := putE_len l e; omega
            exact AllReadyP.nil
          exact AllReadyP.nil
        exact AllReadyP.nil
      exact AllReadyP.nil
    exact AllReadyP.nil
  refine AllReadyP.cons rfl (fun K hK => ?_) ?_
  · go_simp
    refine hK.out _ _ (fun _ => HS.out _ ((Below.refl w2.heap.size w2).alloc (Nat.le_refl _) (Obj.cells #[.int .u64 e.i] 22)).drew) (fun hHeld => ?_)
    replace hHeld := hHeld rfl
    clear hK K
    try simp only [Act.put, List.setIfInBounds_toArray, List.set_cons_zero, List.set_cons_succ]
    refine wpAnyP_ready (rs := [6]) (by kernel_rfl) (by simp) ?_
    refine AllReadyP.cons rfl (fun K hK => ?_) ?_
    · go_simp
      go_at_call 89; (with_reducible refine (HPUT.out _ ((Below.refl w2.heap.size w2).alloc (Nat.le_refl _) (Obj.cells #[.int .u64 e.i] 22)).drew).mono ?_); rintro ee w3 ⟨la2, lc2, rfl, hes3, b3⟩; have hb3 : Below w2.heap.size w2 w3 := (((Below.refl w2.heap.size w2).alloc (Nat.le_refl _) (Obj.cells #[.int .u64 e.i] 22)).drew).trans (b3.mono (Below.size ((Below.refl w2.heap.size w2).alloc (Nat.le_refl _) (Obj.cells #[.int .u64 e.i] 22)).drew))
      refine hK.out _ _ (fun _ => HS.out _ hb3) (fun hHeld => ?_)
      replace hHeld := hHeld rfl
      clear hK K
      try simp only [Act.put, List.setIfInBounds_toArray, List.set_cons_zero, List.set_cons_succ]
      refine wpAnyP_ready (rs := [12]) (by kernel_rfl) (by simp) ?_
      refine AllReadyP.cons rfl (fun K hK => ?_) ?_
      · refine step_at rfl (.tmp 56) (.tmp 59) rfl w0.heap.size ua uc at_ e.i w2.heap.size w3 (Below.refl _ _) (by simp [Act.eval]) (own_fr H2.out.at_ (Fr.of_below (M := noTypes) hb3 (Nat.le_refl _)) id) (by simp [Act.eval]) ((show Box ((w2.alloc (Obj.cells #[.int .u64 e.i] 22)).drew) w2.heap.size 22 #[.int .u64 e.i] from Box.new w2 _ _ _ rfl).below b3 (by simp)) hat9 (by have z := H2.out.rx.size; have z2 := hb3.size; simp; omega) ?_
        intro W5 g5 c5 w5 hb35 own5 grow5 at5
        have hb25 : Below w2.heap.size w2 W5 := hb3.trans (hb35.mono hb3.size)
        have hes5 := hes3.fr (M := noTypes) (Fr.of_below hb35 (Nat.le_refl _)) id id
        have ty5 := Ty.of_own (own_fr H2.out.at_ (Fr.of_below (M := noTypes) hb25 (Nat.le_refl _)) id)
        refine hK.out _ _ (fun _ => by
          have z := HS.out _ hb25
          exact ⟨z.1.grown grow5 ty5 (by decide), z.2.1.grown grow5 ty5 (by decide), z.2.2.1.grown grow5 ty5 (by decide), z.2.2.2.grown grow5 ty5 (by decide)⟩) (fun hHeld => ?_)
        replace hHeld := hHeld rfl
        clear hK K
        try simp only [Act.put, List.setIfInBounds_toArray]
        refine wpAnyP_take (i := 13) (oi := ?oi13) (v := .pointer (some ⟨q, 0, none⟩)) ?ho13 ?h113 (fun _ _ _ h => h) ?hy13 ?hs13 ?rest13
        case ho13 => (simp only [List.getElem?_toArray, List.getElem?_cons_succ, List.getElem?_cons_zero]; rfl)
        case h113 => kernel_rfl
        case hs13 => assumption
        case hy13 => (refine Or.inl ⟨by rfl, fun w hSw => ?_⟩; obtain ⟨p1, p2, p3, p4⟩ := hSw; have c1 := p1.cell 0 rfl; have c2 := p2.cell 2 rfl; have c3 := p3.cell 1 rfl; have c4 := p4.cell 0 rfl; have c5 := p4.cell 1 rfl; have c6 := p4.cell 2 rfl; clear p1 p2 p3 p4; first | (go_simp; done) | (go_simp; with_reducible rfl))
        case rest13 =>
        try simp only [Act.put]
        refine wpAnyP_take (i := 14) (oi := ?oi14) (v := .pointer (some ⟨q, 2, none⟩)) ?ho14 ?h114 (fun _ _ _ h => h) ?hy14 ?hs14 ?rest14
        case ho14 => (simp only [List.getElem?_toArray, List.getElem?_cons_succ, List.getElem?_cons_zero]; rfl)
        case h114 => kernel_rfl
        case hs14 => assumption
        case hy14 => (refine Or.inl ⟨by rfl, fun w hSw => ?_⟩; obtain ⟨p1, p2, p3, p4⟩ := hSw; have c1 := p1.cell 0 rfl; have c2 := p2.cell 2 rfl; have c3 := p3.cell 1 rfl; have c4 := p4.cell 0 rfl; have c5 := p4.cell 1 rfl; have c6 := p4.cell 2 rfl; clear p1 p2 p3 p4; first | (go_simp; done) | (go_simp; with_reducible rfl))
        case rest14 =>
        try simp only [Act.put]
        have q5 := hHeld.2.1.cell 2 rfl
        have fz5 := hHeld.2.1.froz 2
        have q6 := (hHeld.2.2.1.fr (box_fr hHeld.2.1 2 (.slice la2 (putE l e).length lc2)) (by decide)).cell 1 rfl
        have fz6 := (hHeld.2.2.1.fr (box_fr hHeld.2.1 2 (.slice la2 (putE l e).length lc2)) (by decide)).froz 1
        refine wpAnyP_ready (rs := [15]) (by kernel_rfl) (by simp) ?_
        refine AllReadyP.cons rfl (fun K hK => ?_) ?_
        · go_simp
          refine hK.out _ _ (fun h => absurd h (by decide)) (fun hHeld => ?_)
          clear hHeld
          clear hK K
          try simp only [Act.put, List.setIfInBounds_toArray, List.set_cons_zero, List.set_cons_succ]
          refine wpAnyP_ready (rs := [16]) (by kernel_rfl) (by simp) ?_
          refine AllReadyP.cons rfl (fun K hK => ?_) ?_
          · go_simp
            refine hK.out _ _ (fun h => absurd h (by decide)) (fun hHeld => ?_)
            clear hHeld
            clear hK K
            try simp only [Act.put, List.setIfInBounds_toArray, List.set_cons_zero, List.set_cons_succ]
            refine wpAnyP_ready (rs := [17]) (by kernel_rfl) (by simp) ?_
            refine AllReadyP.cons rfl (fun K hK => ?_) ?_
            · go_simp
              refine hK.out _ _ (fun h => absurd h (by decide)) (fun hHeld => ?_)
              clear hHeld
              clear hK K
              try simp only [Act.put, List.setIfInBounds_toArray, List.set_cons_zero, List.set_cons_succ]
              refine wpAnyP_done (by kernel_rfl) ?_ _
              obtain ⟨st5, kf5⟩ := RdS.stored (B := B) (H2.out.below hb25) hgs hes5 own5 grow5
              clear q5 fz5 q6 fz6
              have ST := Lib.hid st5
              have cb := st5.bb.cell 0 rfl
              have hBd := st5.hb.1.drop k (by omega) (by omega)
              have HBD := Lib.hid hBd
              have hcap : ¬ bc = k := by omega
              obtain ⟨w7, hw7⟩ : ∃ w7, w7 = (w5.setCell ⟨q, 2, none⟩ (.slice la2 (putE l e).length lc2)).setCell ⟨gs, 1, none⟩ (.slice (some ⟨g5, 0, none⟩) (at_.length + 1) c5) := ⟨_, rfl⟩
              rw [← hw7] at ST HBD cb ⊢
              rw [← hw7] at kf5
              have HW7 := Lib.hid hw7
              have KF5 := Lib.hid kf5
              clear st5 hBd hw7 kf5 own5 grow5 at5 hes5 hes3 ty5 hHeld
              gi_wp2_with (refine ⟨trivial, (by intro h; cases h), ?_⟩; gi_at_call 90; refine (CallsIn.inRound _ (callsIn_wide.2 (first90_some _ (b.drop k) r m _ HBD.out (by simp; omega) HF.out))).mono ?_; rintro ee w8 ⟨u8, rfl, hu8, b8⟩; have cg8 := (ST.out.below b8).bg.cell 0 rfl; have fg8 := (ST.out.below b8).bg.froz 0)
              obtain ⟨z1, z2⟩ := RdS.good (B := B) (ST.out.below b8) hgg (k + m)
              refine ⟨((keeps_below (HB2.out.trans (hb25.mono HB2.out.size))).trans KF5.out).trans ((keeps_below b8).trans z2), at_ ++ [e.i], putE l e, ⟨la2, lc2, some ⟨g5, 0, none⟩, c5, z1⟩, HR.out, ?_, ?_⟩
              · simp; omega
              · have := putE_len l e; omega
            exact AllReadyP.nil
          exact AllReadyP.nil
        exact AllReadyP.nil
      exact AllReadyP.nil
    exact AllReadyP.nil
  exact AllReadyP.nil
end Go.Proofs.YtpcipfnahknngaaGreatDoor

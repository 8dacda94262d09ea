/- The law WalRecords. -/
import Derived.Test.YtpcipfnahknngaaGreatDoorRp
import Derived.Deep.RegionHeld3
namespace Go.Proofs.YtpcipfnahknngaaGreatDoor
open Go.RowKit Go.Maps

theorem Bt.lo {w w' : World} {v : Value} {l : List UInt8} (h : Bt w v l) (hl : Lo w.heap.size w w') : Bt w' v l := by
  obtain ⟨y1, y2, ao, cap, rfl, y3, y4, y7, y5⟩ := h
  refine ⟨y1, y2, ao, cap, rfl, y3, y4, y7, ?_⟩
  rcases y5 with y5 | ⟨g, off, rfl, hc⟩
  · exact Or.inl y5
  · refine Or.inr ⟨g, off, rfl, fun j u hj => ?_⟩
    have h1 := hc j u hj
    have hlt := World.block_lt_of_cell? w _ h1
    have h2 : w'.heap[g]? = w.heap[g]? := hl.block g hlt hlt
    rw [World.cell?_of_block (a := ⟨g, off + j, none⟩) h2]
    exact h1

set_option maxRecDepth 100000 in
set_option maxHeartbeats 6400000 in
theorem records3_out (x : Ent) (u v : Value) (b : List UInt8) (w : World) (hu : Bt w u x.b) (hv : Bt w v b) (htab : PowTab w) (hout : ¬ (x.b.length ≤ 300 ∨ 1990 ≤ x.b.length ∧ x.b.length ≤ 3000) ∨ 300 < b.length) :
    Calls Tryz.prog 3 #[.agg #[.int .u64 x.i, .int .u64 x.t, u], v] w fun e w' => e = .returned (.bool true) ∧ Fr walT w w' ∧ Lo w.heap.size w w' := by
  obtain ⟨y1, y2, uo, uc, rfl, y3, y4, y7, y5⟩ := hu
  obtain ⟨z1, z2, vo, vc, rfl, z3, z4, z7, z5⟩ := hv
  clear y1 y2 y3 y4 y7 y5 z1 z2 z3 z4 z7 z5
  have b0 : Below w.heap.size w (w.alloc (Obj.cells #[Value.int .u64 x.i, Value.int .u64 x.t, Value.slice uo x.b.length uc] 25)) := (Below.refl _ _).alloc (Nat.le_refl _) _
  have hk := known6 _ (htab.below b0 (Nat.le_refl _))
  have hbx := Box.new w w.heap.size 25 #[Value.int .u64 x.i, Value.int .u64 x.t, Value.slice uo x.b.length uc] rfl
  have HK := Lib.hid hk
  have HBX := Lib.hid hbx
  have HB0 := Lib.hid b0
  clear hk hbx b0 htab
  go_enter Tryz.func3, Tryz.ntmps3
  go_wp2_with (go_at_call 6; refine HK.out.mono ?_; rintro e w1 ⟨rfl, f1, lo1⟩; have hb1 := HBX.out.fr f1 (by unfold walT; decide); have c2 := hb1.cell 2 rfl)
  all_goals first
    | (exfalso; omega)
    | (go_ret; exact ⟨rfl, (Fr.of_below HB0.out (Nat.le_refl _)).trans f1, (Lo.blw HB0.out (Nat.le_refl _)).trans (lo1.mono (by simp))⟩)

noncomputable def tail3C : Code := ((Tryz.f3.body.bind (fromStart 5)).getD .skip)

set_option maxRecDepth 1000000 in
set_option maxHeartbeats 6400000 in
theorem tail3 (x : Ent) (uo : Option Addr) (uc : Nat) (vo : Option Addr) (vc : Nat) (b : List UInt8) (g : Nat) (w : World) (P : Ending → World → Prop) (u0 u3 u4 u5 u6 u7 u8 u9 u10 u11 u12 u13 u14 u15 u16 u17 u18 u19 u20 u21 u22 u23 u24 u25 u26 u27 u28 u29 u30 u31 u32 u33 u34 u35 u36 u37 u38 u39 u40 u41 u42 u43 u44 u45 u46 u47 u48 u49 u50 u51 u52 u53 u54 u55 u56 u57 u58 u59 u60 u61 u62 u63 u64 u65 u66 u67 u68 u69 u70 u71 u72 u73 u74 u75 u76 u77 u78 u79 u80 u81 u82 u83 u84 u85 u86 u87 u88 u89 u90 u91 u92 u93 u94 u95 u96 u97 u98 u99 u100 u101 u102 u103 u104 u105 u106 u107 u108 u109 u110 u111 u112 u113 u114 u115 u116 u117 u118 u119 u120 u121 u122 u123 u124 u125 u126 u127 u128 u129 u130 u131 u132 u133 u134 u135 u136 u137 : Value)
    (hbx : Box w g 25 #[.int .u64 x.i, .int .u64 x.t, .slice uo x.b.length uc]) (hx : x.ok) (hu : Bt w (.slice uo x.b.length uc) x.b) (hv : Bt w (.slice vo b.length vc) b) (hbl : b.length ≤ 300) (hxl : x.b.length ≤ 3000)
    (hP : ∀ w', Below w.heap.size w w' → P (.returned (.bool true)) w') :
    Code.wp Tryz.prog tail3C (bodyPost Tryz.prog Tryz.f3 P) ⟨#[u0, .slice vo b.length vc, .pointer (some ⟨g, 0, none⟩), u3, u4, u5, u6, u7, u8, u9, u10, u11, u12, u13, u14, u15, u16, u17, u18, u19, u20, u21, u22, u23, u24, u25, u26, u27, u28, u29, u30, u31, u32, u33, u34, u35, u36, u37, u38, u39, u40, u41, u42, u43, u44, u45, u46, u47, u48, u49, u50, u51, u52, u53, u54, u55, u56, u57, u58, u59, u60, u61, u62, u63, u64, u65, u66, u67, u68, u69, u70, u71, u72, u73, u74, u75, u76, u77, u78, u79, u80, u81, u82, u83, u84, u85, u86, u87, u88, u89, u90, u91, u92, u93, u94, u95, u96, u97, u98, u99, u100, u101, u102, u103, u104, u105, u106, u107, u108, u109, u110, u111, u112, u113, u114, u115, u116, u117, u118, u119, u120, u121, u122, u123, u124, u125, u126, u127, u128, u129, u130, u131, u132, u133, u134, u135, u136, u137], []⟩ w := by
  have HBX : Hid (∀ W, Below w.heap.size w W → Box W g 25 #[.int .u64 x.i, .int .u64 x.t, .slice uo x.b.length uc]) := Lib.hid fun W hW => hbx.below hW hbx.lt
  have HU : Hid (∀ W, Below w.heap.size w W → Bt W (.slice uo x.b.length uc) x.b) := Lib.hid fun W hW => hu.below hW (Nat.le_refl _)
  have HV : Hid (∀ W, Below w.heap.size w W → Bt W (.slice vo b.length vc) b) := Lib.hid fun W hW => hv.below hW (Nat.le_refl _)
  have HP := Lib.hid hP
  have HX := Lib.hid hx
  have x0 := hbx.cell 0 rfl
  have x1 := hbx.cell 1 rfl
  have x2 := hbx.cell 2 rfl
  have HRL : Hid ((recE x).2.length ≤ 2030) := Lib.hid (by
    unfold recE
    split
    · simp
    · split
      · simp
      · have a1 := putL_len x.i hx.1
        have a2 := putL_len x.t hx.2.1
        have a3 := putL_len x.b.length (by omega)
        simp [recL, putText]
        omega)
  have hc7 := fun W (hb : Below w.heap.size w W) => record7_any x _ W hx (HU.out W hb)
  have hc8 := fun W (hb : Below w.heap.size w W) => rrecord8_any x _ W hx (HU.out W hb)
  obtain ⟨r, hr⟩ : ∃ r, r = (recE x).2 := ⟨_, rfl⟩
  obtain ⟨re, hre⟩ : ∃ re, re = (recE x).1 := ⟨_, rfl⟩
  have hc9 := fun W (hb : Below w.heap.size w W) => parse9_z _ b W (HV.out W hb) (by omega)
  have hc10 := fun W (hb : Below w.heap.size w W) => rparse10_z _ b W (HV.out W hb) (by omega)
  obtain ⟨z, hz⟩ : ∃ z, z = parZ b := ⟨_, rfl⟩
  obtain ⟨ze, hze⟩ : ∃ ze, ze = parE b := ⟨_, rfl⟩
  simp only [← hr, ← hre] at hc7 hc8
  rw [← hr] at HRL
  simp only [← hz, ← hze] at hc9 hc10
  have hc9b := fun W a q (hb : Bt W (.slice a r.length q) r) => parse9_z (.slice a r.length q) r W hb (by have := HRL.out; omega)
  obtain ⟨y, hy⟩ : ∃ y, y = parZ r := ⟨_, rfl⟩
  obtain ⟨ye, hye⟩ : ∃ ye, ye = parE r := ⟨_, rfl⟩
  simp only [← hy, ← hye] at hc9b
  have HC7 := Lib.hid hc7
  have HC8 := Lib.hid hc8
  have HC9 := Lib.hid hc9
  have HC9B := Lib.hid hc9b
  have HC10 := Lib.hid hc10
  have HRE : Hid (re = 0 ∨ re = 2 ∨ re = 3) := Lib.hid (by
    rw [hre]
    unfold recE
    split
    · exact Or.inr (Or.inl rfl)
    · split
      · exact Or.inr (Or.inr rfl)
      · exact Or.inl rfl)
  have HFIN : Hid (re = 0 → ye = 0 ∧ y = x) := Lib.hid (fun h0 => by
    rw [hre] at h0
    unfold recE at h0
    by_cases hi : x.i = 0
    · rw [if_pos hi] at h0; cases h0
    · rw [if_neg hi] at h0
      by_cases hl : 2000 < x.b.length
      · rw [if_pos hl] at h0; cases h0
      · have e : r = recL x := by rw [hr]; unfold recE; rw [if_neg hi, if_neg hl]
        have hp := parseT_recL x hx hi (by omega)
        rw [hye, hy, e]
        unfold parE parZ
        rw [hp]
        exact ⟨rfl, rfl⟩)
  clear hbx hu hv hP hx hc7 hc8 hc9 hc9b hc10 hr hre hz hze hy hye
  conv => arg 4; zeta
  conv => arg 2; whnf
  go_wp2_with (first
    | (go_at_call 7; (with_reducible refine (HC7.out _ (Below.refl _ _)).mono ?_); rintro e w1 ⟨v1, rfl, own1, b1⟩; obtain ⟨a1, q1, rfl⟩ := own_shape own1; have bA1 : Below w.heap.size w w1 := b1; have y0 := (HBX.out _ bA1).cell 0 rfl; have y1 := (HBX.out _ bA1).cell 1 rfl; have y2 := (HBX.out _ bA1).cell 2 rfl)
    | (go_at_call 8; (with_reducible refine (HC8.out _ bA1).mono ?_); rintro e w2 ⟨v2, rfl, own2, b2⟩; obtain ⟨a2, q2, rfl⟩ := own_shape own2; have bA2 : Below w.heap.size w w2 := bA1.trans (b2.mono bA1.size))
    | (go_at_call 9; (with_reducible refine (HC9.out _ bA2).mono ?_); rintro e w3 ⟨zo, zc, rfl, hz, b3⟩; have bA3 : Below w.heap.size w w3 := bA2.trans (b3.mono bA2.size))
    | (go_at_call 10; (with_reducible refine (HC10.out _ (bA3.alloc bA3.size _)).mono ?_); rintro e w4 ⟨yo, yc, rfl, hy, b4⟩; have bA4 : Below w.heap.size w w4 := (bA3.alloc bA3.size _).trans (b4.mono (bA3.alloc bA3.size _).size))
    | (go_at_call 9; (with_reducible refine (HC9B.out _ a1 q1 ((Bt.of_own own1).below (((b2.trans (b3.mono b2.size)).alloc (b2.trans (b3.mono b2.size)).size _).trans (b4.mono ((b2.trans (b3.mono b2.size)).alloc (b2.trans (b3.mono b2.size)).size _).size) |>.alloc (((b2.trans (b3.mono b2.size)).alloc (b2.trans (b3.mono b2.size)).size _).trans (b4.mono ((b2.trans (b3.mono b2.size)).alloc (b2.trans (b3.mono b2.size)).size _).size)).size _) (Nat.le_refl _))).mono ?_); rintro e w5 ⟨xo, xc, rfl, hx5, b5⟩; have bA5 : Below w.heap.size w w5 := (bA4.alloc bA4.size _).trans (b5.mono (bA4.alloc bA4.size _).size); have hzero := Box.new (w5.alloc (Obj.cells #[Value.int .u64 y.i, Value.int .u64 y.t, Value.slice xo y.b.length xc] 25)) (w5.heap.size + 1) 37 #[.pointer none, .slice none 0 0, .slice none 0 0] (by simp); have HZERO := Lib.hid hzero; clear hzero)
    | (go_at_call 11; refine (wopen11_nil _).mono ?_; rintro e w6 ⟨rfl, hw6⟩; have hw7 := hw6.symm; subst hw7)
    | (go_at_call 12; refine (wappend12_nil _ _).mono ?_; rintro e w6 ⟨rfl, hw6⟩; have hw7 := hw6.symm; subst hw7)
    | (go_at_call 13; refine (wsync13_zero _ _ (HZERO.out.cell 0 rfl)).mono ?_; rintro e w6 ⟨rfl, hw6⟩; have hw7 := hw6.symm; subst hw7)
    | (go_at_call 14; refine (wcompact14_nil 1 _).mono ?_; rintro e w6 ⟨rfl, b6⟩)
    | (go_at_call 15; refine (wentries15_zero _ _ ((HZERO.out.below b6 HZERO.out.lt).cell 0 rfl)).mono ?_; rintro e w7 ⟨rfl, hw6⟩; have hw7 := hw6.symm; subst hw7))
  have bA6 : Below w.heap.size w w6 := ((bA5.alloc bA5.size _).alloc (bA5.alloc bA5.size _).size _).trans (b6.mono ((bA5.alloc bA5.size _).alloc (bA5.alloc bA5.size _).size _).size)
  have b56 : Below w5.heap.size w5 w6 := (((Below.refl _ _).alloc (Nat.le_refl _) _).alloc (by simp) _).trans (b6.mono (by simp; omega))
  have b46 : Below w4.heap.size w4 w6 := (((Below.refl _ _).alloc (Nat.le_refl _) _).trans (b5.mono (by simp))).trans (b56.mono (by have := b5.size; simp at this; omega))
  have b36 : Below w3.heap.size w3 w6 := (((Below.refl _ _).alloc (Nat.le_refl _) _).trans (b4.mono (by simp))).trans (b46.mono (by have := b4.size; simp at this; omega))
  have b26 : Below w2.heap.size w2 w6 := b3.trans (b36.mono b3.size)
  have b16 : Below w1.heap.size w1 w6 := b2.trans (b26.mono b2.size)
  have l3 : w3.heap.size < w4.heap.size := by have := b4.size; simp at this; omega
  have l4 : w4.heap.size < w5.heap.size := by have := b5.size; simp at this; omega
  have B3 : Box w6 w3.heap.size 25 #[.int .u64 z.i, .int .u64 z.t, .slice zo z.b.length zc] := ((Box.new w3 _ 25 _ rfl).below b4 (by simp)).below b46 l3
  have B4 : Box w6 w4.heap.size 25 #[.int .u64 z.i, .int .u64 z.t, .slice yo z.b.length yc] := ((Box.new w4 _ 25 _ rfl).below b5 (by simp)).below b56 l4
  have B5 : Box w6 w5.heap.size 25 #[.int .u64 y.i, .int .u64 y.t, .slice xo y.b.length xc] := ((Box.new w5 _ 25 _ rfl).below ((Below.refl _ _).alloc (Nat.le_refl _) _) (by simp)).below b6 (by simp; omega)
  have BX := HBX.out _ bA6
  have hconv1 := fun W (hW : Below w6.heap.size w6 W) => conv_str W (.slice a1 r.length q1) r ((Bt.of_own own1).below (b16.trans (hW.mono b16.size)) (Nat.le_refl _))
  have hconv2 := fun W (hW : Below w6.heap.size w6 W) => conv_str W (.slice a2 r.length q2) r ((Bt.of_own own2).below (b26.trans (hW.mono b26.size)) (Nat.le_refl _))
  have hzz := fun W (hW : Below w6.heap.size w6 W) => rsame16 z z (.slice zo z.b.length zc) (.slice yo z.b.length yc) W (hz.below (b36.trans (hW.mono b36.size)) (Nat.le_refl _)) (hy.below (b46.trans (hW.mono b46.size)) (Nat.le_refl _))
  have hyx := fun W (hW : Below w6.heap.size w6 W) => same17 y x (.slice xo y.b.length xc) (.slice uo x.b.length uc) W (hx5.below (b56.trans (hW.mono b56.size)) (Nat.le_refl _)) (HU.out W (bA6.trans (hW.mono bA6.size)))
  have hzx := fun W (hW : Below w6.heap.size w6 W) => same17 z x (.slice zo z.b.length zc) (.slice uo x.b.length uc) W (hz.below (b36.trans (hW.mono b36.size)) (Nat.le_refl _)) (HU.out W (bA6.trans (hW.mono bA6.size)))
  have hzx2 := fun W (hW : Below w6.heap.size w6 W) => rsame16 z x (.slice zo z.b.length zc) (.slice uo x.b.length uc) W (hz.below (b36.trans (hW.mono b36.size)) (Nat.le_refl _)) (HU.out W (bA6.trans (hW.mono bA6.size)))
  simp only [sameE_refl] at hzz
  obtain ⟨sv, hsv⟩ : ∃ sv, sv = sameE z x := ⟨_, rfl⟩
  simp only [← hsv] at hzx hzx2
  have HZZ := Lib.hid hzz
  have HYX := Lib.hid hyx
  have HZX := Lib.hid hzx
  have HZX2 := Lib.hid hzx2
  have HCV1 := Lib.hid hconv1
  have HCV2 := Lib.hid hconv2
  have HS : Hid (∀ W, Below w6.heap.size w6 W → Below w6.heap.size w6 W ∧ W.cell? ⟨g, 0, none⟩ = some (.int .u64 x.i) ∧ W.cell? ⟨g, 1, none⟩ = some (.int .u64 x.t) ∧ W.cell? ⟨g, 2, none⟩ = some (.slice uo x.b.length uc) ∧
      W.cell? ⟨w3.heap.size, 0, none⟩ = some (.int .u64 z.i) ∧ W.cell? ⟨w3.heap.size, 1, none⟩ = some (.int .u64 z.t) ∧ W.cell? ⟨w3.heap.size, 2, none⟩ = some (.slice zo z.b.length zc) ∧
      W.cell? ⟨w4.heap.size, 0, none⟩ = some (.int .u64 z.i) ∧ W.cell? ⟨w4.heap.size, 1, none⟩ = some (.int .u64 z.t) ∧ W.cell? ⟨w4.heap.size, 2, none⟩ = some (.slice yo z.b.length yc) ∧
      W.cell? ⟨w5.heap.size, 0, none⟩ = some (.int .u64 y.i) ∧ W.cell? ⟨w5.heap.size, 1, none⟩ = some (.int .u64 y.t) ∧ W.cell? ⟨w5.heap.size, 2, none⟩ = some (.slice xo y.b.length xc) ∧
      (convert 23 9 (.slice a1 r.length q1)).run Tryz.prog W = .ok (.string (tx r)) W ∧ (convert 23 9 (.slice a2 r.length q2)).run Tryz.prog W = .ok (.string (tx r)) W) := Lib.hid (fun W hW => by
    have c3 := B3.below hW B3.lt
    have c4 := B4.below hW B4.lt
    have c5 := B5.below hW B5.lt
    have cx := BX.below hW BX.lt
    exact ⟨hW, cx.cell 0 rfl, cx.cell 1 rfl, cx.cell 2 rfl, c3.cell 0 rfl, c3.cell 1 rfl, c3.cell 2 rfl, c4.cell 0 rfl, c4.cell 1 rfl, c4.cell 2 rfl, c5.cell 0 rfl, c5.cell 1 rfl, c5.cell 2 rfl, HCV1.out W hW, HCV2.out W hW⟩)
  have BA6 := Lib.hid bA6
  clear hzz hyx hzx hzx2 hconv1 hconv2 hsv B3 B4 B5 BX b16 b26 b36 b46 b56 bA6 bA5 bA4 bA3 bA2 bA1 b1 b2 b3 b4 b5 b6 hz hy hx5 own1 own2 x0 x1 x2 y0 y1 y2 HZERO
  rcases HRE.out with h0 | h0 | h0
  · obtain ⟨e1, e2⟩ := HFIN.out h0
    subst h0 e1 e2
    have hyx := HYX.out
    simp only [sameE_refl] at hyx
    have HYX := Lib.hid hyx
    clear hyx
    go_region_held3 (fun W => Below w6.heap.size w6 W ∧ W.cell? ⟨g, 0, none⟩ = some (.int .u64 y.i) ∧ W.cell? ⟨g, 1, none⟩ = some (.int .u64 y.t) ∧ W.cell? ⟨g, 2, none⟩ = some (.slice uo y.b.length uc) ∧
      W.cell? ⟨w3.heap.size, 0, none⟩ = some (.int .u64 z.i) ∧ W.cell? ⟨w3.heap.size, 1, none⟩ = some (.int .u64 z.t) ∧ W.cell? ⟨w3.heap.size, 2, none⟩ = some (.slice zo z.b.length zc) ∧
      W.cell? ⟨w4.heap.size, 0, none⟩ = some (.int .u64 z.i) ∧ W.cell? ⟨w4.heap.size, 1, none⟩ = some (.int .u64 z.t) ∧ W.cell? ⟨w4.heap.size, 2, none⟩ = some (.slice yo z.b.length yc) ∧
      W.cell? ⟨w5.heap.size, 0, none⟩ = some (.int .u64 y.i) ∧ W.cell? ⟨w5.heap.size, 1, none⟩ = some (.int .u64 y.t) ∧ W.cell? ⟨w5.heap.size, 2, none⟩ = some (.slice xo y.b.length xc) ∧
      (convert 23 9 (.slice a1 r.length q1)).run Tryz.prog W = .ok (.string (tx r)) W ∧ (convert 23 9 (.slice a2 r.length q2)).run Tryz.prog W = .ok (.string (tx r)) W)
      (first | exact HS.out _ ((Below.refl _ _).drew) | exact HS.out _ hb10 | exact HS.out _ hb9 | exact HS.out _ hb8 | exact HS.out _ hb7)
      (first
        | (go_at_call 16; (with_reducible refine (HZZ.out _ (Below.refl w6.heap.size w6).drew).mono ?_); rintro e w7 ⟨rfl, b0⟩; have hb7 : Below w6.heap.size w6 w7 := (Below.refl w6.heap.size w6).drew.trans b0; clear b0)
        | (go_at_call 17; (with_reducible refine (HYX.out _ hb7).mono ?_); rintro e w8 ⟨rfl, b0⟩; have hb8 : Below w6.heap.size w6 w8 := Below.trans hb7 (b0.mono (Below.size hb7)); clear b0)
        | (go_at_call 17; (with_reducible refine (HZX.out _ hb8).mono ?_); rintro e w9 ⟨rfl, b0⟩; have hb9 : Below w6.heap.size w6 w9 := Below.trans hb8 (b0.mono (Below.size hb8)); clear b0)
        | (go_at_call 17; (with_reducible refine (HZX.out _ hb10).mono ?_); rintro e w9 ⟨rfl, b0⟩; have hb9 : Below w6.heap.size w6 w9 := Below.trans hb10 (b0.mono (Below.size hb10)); clear b0)
        | (go_at_call 16; (with_reducible refine (HZX2.out _ hb8).mono ?_); rintro e w10 ⟨rfl, b0⟩; have hb10 : Below w6.heap.size w6 w10 := Below.trans hb8 (b0.mono (Below.size hb8)); clear b0)
        | (go_at_call 16; (with_reducible refine (HZX2.out _ hb9).mono ?_); rintro e w10 ⟨rfl, b0⟩; have hb10 : Below w6.heap.size w6 w10 := Below.trans hb9 (b0.mono (Below.size hb9)); clear b0))
    all_goals (
      go_wp2
      show P (.returned (.bool true)) _
      first
        | exact HP.out _ (BA6.out.trans (hb10.mono BA6.out.size))
        | exact HP.out _ (BA6.out.trans (hb9.mono BA6.out.size)))
  · subst h0
    refine wp_region_noPanic ?_
    refine wp_region_held_drew (S := fun W => Below w6.heap.size w6 W ∧ W.cell? ⟨g, 0, none⟩ = some (.int .u64 x.i) ∧ W.cell? ⟨g, 1, none⟩ = some (.int .u64 x.t) ∧ W.cell? ⟨g, 2, none⟩ = some (.slice uo x.b.length uc) ∧ W.cell? ⟨w3.heap.size, 0, none⟩ = some (.int .u64 z.i) ∧ W.cell? ⟨w3.heap.size, 1, none⟩ = some (.int .u64 z.t) ∧ W.cell? ⟨w3.heap.size, 2, none⟩ = some (.slice zo z.b.length zc) ∧ W.cell? ⟨w4.heap.size, 0, none⟩ = some (.int .u64 z.i) ∧ W.cell? ⟨w4.heap.size, 1, none⟩ = some (.int .u64 z.t) ∧ W.cell? ⟨w4.heap.size, 2, none⟩ = some (.slice yo z.b.length yc) ∧ W.cell? ⟨w5.heap.size, 0, none⟩ = some (.int .u64 y.i) ∧ W.cell? ⟨w5.heap.size, 1, none⟩ = some (.int .u64 y.t) ∧ W.cell? ⟨w5.heap.size, 2, none⟩ = some (.slice xo y.b.length xc) ∧ (convert 23 9 (.slice a1 r.length q1)).run Tryz.prog W = .ok (.string (tx r)) W ∧ (convert 23 9 (.slice a2 r.length q2)).run Tryz.prog W = .ok (.string (tx r)) W) (by kernel_rfl) (HS.out _ (Below.refl _ _).drew) (fun hHeld => ?_)
    refine wpAnyH_take (i := 0) (oi := ?oi1) (v := .slice a1 r.length q1) ?ho1 ?h11 ?h21 ?h31 (fun _ _ _ h => h) ?hy1 ?hs1 ?rest1
    case ho1 => (simp only [List.getElem?_toArray, List.getElem?_cons_zero]; rfl)
    case h11 => kernel_rfl
    case h21 => kernel_rfl
    case h31 => kernel_rfl
    case hs1 => assumption
    case hy1 => (refine Or.inl ⟨by rfl, fun w hSw => ?_⟩; first | (go_simp; done) | (go_simp; with_reducible rfl))
    case rest1 =>
    try simp only [Act.put, List.setIfInBounds_toArray, List.set_cons_zero, List.set_cons_succ]
    refine wpAnyH_take (i := 1) (oi := ?oi2) (v := .string (tx r)) ?ho2 ?h12 ?h22 ?h32 (fun _ _ _ h => h) ?hy2 ?hs2 ?rest2
    case ho2 => (simp only [List.getElem?_toArray, List.getElem?_cons_succ, List.getElem?_cons_zero]; rfl)
    case h12 => kernel_rfl
    case h22 => kernel_rfl
    case h32 => kernel_rfl
    case hs2 => assumption
    case hy2 => (refine Or.inl ⟨by rfl, fun w hSw => ?_⟩; first | (go_simp; done) | (go_simp; with_reducible rfl))
    case rest2 =>
    try simp only [Act.put, List.setIfInBounds_toArray, List.set_cons_zero, List.set_cons_succ]
    refine wpAnyH_take (i := 2) (oi := ?oi3) (v := .slice a2 r.length q2) ?ho3 ?h13 ?h23 ?h33 (fun _ _ _ h => h) ?hy3 ?hs3 ?rest3
    case ho3 => (simp only [List.getElem?_toArray, List.getElem?_cons_succ, List.getElem?_cons_zero]; rfl)
    case h13 => kernel_rfl
    case h23 => kernel_rfl
    case h33 => kernel_rfl
    case hs3 => assumption
    case hy3 => (refine Or.inl ⟨by rfl, fun w hSw => ?_⟩; first | (go_simp; done) | (go_simp; with_reducible rfl))
    case rest3 =>
    try simp only [Act.put, List.setIfInBounds_toArray, List.set_cons_zero, List.set_cons_succ]
    refine wpAnyH_take (i := 3) (oi := ?oi4) (v := .string (tx r)) ?ho4 ?h14 ?h24 ?h34 (fun _ _ _ h => h) ?hy4 ?hs4 ?rest4
    case ho4 => (simp only [List.getElem?_toArray, List.getElem?_cons_succ, List.getElem?_cons_zero]; rfl)
    case h14 => kernel_rfl
    case h24 => kernel_rfl
    case h34 => kernel_rfl
    case hs4 => assumption
    case hy4 => (refine Or.inl ⟨by rfl, fun w hSw => ?_⟩; first | (go_simp; done) | (go_simp; with_reducible rfl))
    case rest4 =>
    try simp only [Act.put, List.setIfInBounds_toArray, List.set_cons_zero, List.set_cons_succ]
    refine wpAnyH_take (i := 4) (oi := ?oi5) (v := .bool true) ?ho5 ?h15 ?h25 ?h35 (fun _ _ _ h => h) ?hy5 ?hs5 ?rest5
    case ho5 => (simp only [List.getElem?_toArray, List.getElem?_cons_succ, List.getElem?_cons_zero]; rfl)
    case h15 => kernel_rfl
    case h25 => kernel_rfl
    case h35 => kernel_rfl
    case hs5 => assumption
    case hy5 => (refine Or.inl ⟨by rfl, fun w hSw => ?_⟩; first | (go_simp; done) | (go_simp; with_reducible rfl))
    case rest5 =>
    try simp only [Act.put, List.setIfInBounds_toArray, List.set_cons_zero, List.set_cons_succ]
    refine wpAnyH_take (i := 5) (oi := ?oi6) (v := .bool true) ?ho6 ?h16 ?h26 ?h36 (fun _ _ _ h => h) ?hy6 ?hs6 ?rest6
    case ho6 => (simp only [List.getElem?_toArray, List.getElem?_cons_succ, List.getElem?_cons_zero]; rfl)
    case h16 => kernel_rfl
    case h26 => kernel_rfl
    case h36 => kernel_rfl
    case hs6 => assumption
    case hy6 => (refine Or.inl ⟨by rfl, fun w hSw => ?_⟩; first | (go_simp; done) | (go_simp; with_reducible rfl))
    case rest6 =>
    try simp only [Act.put, List.setIfInBounds_toArray, List.set_cons_zero, List.set_cons_succ]
    refine wpAnyH_take (i := 6) (oi := ?oi7) (v := .int .i64 2) ?ho7 ?h17 ?h27 ?h37 (fun _ _ _ h => h) ?hy7 ?hs7 ?rest7
    case ho7 => (simp only [List.getElem?_toArray, List.getElem?_cons_succ, List.getElem?_cons_zero]; rfl)
    case h17 => kernel_rfl
    case h27 => kernel_rfl
    case h37 => kernel_rfl
    case hs7 => assumption
    case hy7 => (refine Or.inl ⟨by rfl, fun w hSw => ?_⟩; first | (go_simp; done) | (go_simp; with_reducible rfl))
    case rest7 =>
    try simp only [Act.put, List.setIfInBounds_toArray, List.set_cons_zero, List.set_cons_succ]
    refine wpAnyH_take (i := 7) (oi := ?oi8) (v := .int .i64 2) ?ho8 ?h18 ?h28 ?h38 (fun _ _ _ h => h) ?hy8 ?hs8 ?rest8
    case ho8 => (simp only [List.getElem?_toArray, List.getElem?_cons_succ, List.getElem?_cons_zero]; rfl)
    case h18 => kernel_rfl
    case h28 => kernel_rfl
    case h38 => kernel_rfl
    case hs8 => assumption
    case hy8 => (refine Or.inl ⟨by rfl, fun w hSw => ?_⟩; first | (go_simp; done) | (go_simp; with_reducible rfl))
    case rest8 =>
    try simp only [Act.put, List.setIfInBounds_toArray, List.set_cons_zero, List.set_cons_succ]
    refine wpAnyH_take (i := 8) (oi := ?oi9) (v := .bool true) ?ho9 ?h19 ?h29 ?h39 (fun _ _ _ h => h) ?hy9 ?hs9 ?rest9
    case ho9 => (simp only [List.getElem?_toArray, List.getElem?_cons_succ, List.getElem?_cons_zero]; rfl)
    case h19 => kernel_rfl
    case h29 => kernel_rfl
    case h39 => kernel_rfl
    case hs9 => assumption
    case hy9 => (refine Or.inl ⟨by rfl, fun w hSw => ?_⟩; first | (go_simp; done) | (go_simp; with_reducible rfl))
    case rest9 =>
    try simp only [Act.put, List.setIfInBounds_toArray, List.set_cons_zero, List.set_cons_succ]
    refine wpAnyH_take (i := 9) (oi := ?oi10) (v := .bool true) ?ho10 ?h110 ?h210 ?h310 (fun _ _ _ h => h) ?hy10 ?hs10 ?rest10
    case ho10 => (simp only [List.getElem?_toArray, List.getElem?_cons_succ, List.getElem?_cons_zero]; rfl)
    case h110 => kernel_rfl
    case h210 => kernel_rfl
    case h310 => kernel_rfl
    case hs10 => assumption
    case hy10 => (refine Or.inl ⟨by rfl, fun w hSw => ?_⟩; first | (go_simp; done) | (go_simp; with_reducible rfl))
    case rest10 =>
    try simp only [Act.put, List.setIfInBounds_toArray, List.set_cons_zero, List.set_cons_succ]
    refine wpAnyH_take (i := 10) (oi := ?oi11) (v := .bool true) ?ho11 ?h111 ?h211 ?h311 (fun _ _ _ h => h) ?hy11 ?hs11 ?rest11
    case ho11 => (simp only [List.getElem?_toArray, List.getElem?_cons_succ, List.getElem?_cons_zero]; rfl)
    case h111 => kernel_rfl
    case h211 => kernel_rfl
    case h311 => kernel_rfl
    case hs11 => assumption
    case hy11 => (refine Or.inl ⟨by rfl, fun w hSw => ?_⟩; first | (go_simp; done) | (go_simp; with_reducible rfl))
    case rest11 =>
    try simp only [Act.put, List.setIfInBounds_toArray, List.set_cons_zero, List.set_cons_succ]
    refine wpAnyH_take (i := 11) (oi := ?oi12) (v := .agg #[.int .u64 z.i, .int .u64 z.t, .slice zo z.b.length zc]) ?ho12 ?h112 ?h212 ?h312 (fun _ _ _ h => h) ?hy12 ?hs12 ?rest12
    case ho12 => (simp only [List.getElem?_toArray, List.getElem?_cons_succ, List.getElem?_cons_zero]; rfl)
    case h112 => kernel_rfl
    case h212 => kernel_rfl
    case h312 => kernel_rfl
    case hs12 => assumption
    case hy12 => (refine Or.inl ⟨by rfl, fun w hSw => ?_⟩; first | (go_simp; done) | (go_simp; with_reducible rfl))
    case rest12 =>
    try simp only [Act.put, List.setIfInBounds_toArray, List.set_cons_zero, List.set_cons_succ]
    refine wpAnyH_take (i := 12) (oi := ?oi13) (v := .agg #[.int .u64 z.i, .int .u64 z.t, .slice yo z.b.length yc]) ?ho13 ?h113 ?h213 ?h313 (fun _ _ _ h => h) ?hy13 ?hs13 ?rest13
    case ho13 => (simp only [List.getElem?_toArray, List.getElem?_cons_succ, List.getElem?_cons_zero]; rfl)
    case h113 => kernel_rfl
    case h213 => kernel_rfl
    case h313 => kernel_rfl
    case hs13 => assumption
    case hy13 => (refine Or.inl ⟨by rfl, fun w hSw => ?_⟩; first | (go_simp; done) | (go_simp; with_reducible rfl))
    case rest13 =>
    try simp only [Act.put, List.setIfInBounds_toArray, List.set_cons_zero, List.set_cons_succ]
    refine wpAnyH_ready (rs := [13]) (by kernel_rfl) (by simp) ?_
    refine AllReadyH.cons rfl (fun K hK => ?_) ?_
    · go_simp
      go_at_call 16; (with_reducible refine (HZZ.out _ (Below.refl w6.heap.size w6).drew).mono ?_); rintro e w7 ⟨rfl, b0⟩; have hb7 : Below w6.heap.size w6 w7 := (Below.refl w6.heap.size w6).drew.trans b0; clear b0
      refine hK.out _ _ (HS.out _ hb7) (fun hHeld2 => ?_)
      clear hK K
      try simp only [Act.put, List.setIfInBounds_toArray, List.set_cons_zero, List.set_cons_succ]
      refine wpAnyH_take (i := 14) (oi := ?oi14) (v := .bool true) ?ho14 ?h114 ?h214 ?h314 (fun _ _ _ h => h) ?hy14 ?hs14 ?rest14
      case ho14 => (simp only [List.getElem?_toArray, List.getElem?_cons_succ, List.getElem?_cons_zero]; rfl)
      case h114 => kernel_rfl
      case h214 => kernel_rfl
      case h314 => kernel_rfl
      case hs14 => assumption
      case hy14 => (refine Or.inl ⟨by rfl, fun w hSw => ?_⟩; first | (go_simp; done) | (go_simp; with_reducible rfl))
      case rest14 =>
      try simp only [Act.put, List.setIfInBounds_toArray, List.set_cons_zero, List.set_cons_succ]
      refine wpAnyH_take (i := 15) (oi := ?oi15) (v := .bool true) ?ho15 ?h115 ?h215 ?h315 (fun _ _ _ h => h) ?hy15 ?hs15 ?rest15
      case ho15 => (simp only [List.getElem?_toArray, List.getElem?_cons_succ, List.getElem?_cons_zero]; rfl)
      case h115 => kernel_rfl
      case h215 => kernel_rfl
      case h315 => kernel_rfl
      case hs15 => assumption
      case hy15 => (refine Or.inl ⟨by rfl, fun w hSw => ?_⟩; first | (go_simp; done) | (go_simp; with_reducible rfl))
      case rest15 =>
      try simp only [Act.put, List.setIfInBounds_toArray, List.set_cons_zero, List.set_cons_succ]
      refine wpAnyH_take (i := 16) (oi := ?oi16) (v := .int .i64 ze) ?ho16 ?h116 ?h216 ?h316 (fun _ _ _ h => h) ?hy16 ?hs16 ?rest16
      case ho16 => (simp only [List.getElem?_toArray, List.getElem?_cons_succ, List.getElem?_cons_zero]; rfl)
      case h116 => kernel_rfl
      case h216 => kernel_rfl
      case h316 => kernel_rfl
      case hs16 => assumption
      case hy16 => (refine Or.inl ⟨by rfl, fun w hSw => ?_⟩; first | (go_simp; done) | (go_simp; with_reducible rfl))
      case rest16 =>
      try simp only [Act.put, List.setIfInBounds_toArray, List.set_cons_zero, List.set_cons_succ]
      refine wpAnyH_take (i := 17) (oi := ?oi17) (v := .int .i64 ze) ?ho17 ?h117 ?h217 ?h317 (fun _ _ _ h => h) ?hy17 ?hs17 ?rest17
      case ho17 => (simp only [List.getElem?_toArray, List.getElem?_cons_succ, List.getElem?_cons_zero]; rfl)
      case h117 => kernel_rfl
      case h217 => kernel_rfl
      case h317 => kernel_rfl
      case hs17 => assumption
      case hy17 => (refine Or.inl ⟨by rfl, fun w hSw => ?_⟩; first | (go_simp; done) | (go_simp; with_reducible rfl))
      case rest17 =>
      try simp only [Act.put, List.setIfInBounds_toArray, List.set_cons_zero, List.set_cons_succ]
      refine wpAnyH_take (i := 18) (oi := ?oi18) (v := .bool true) ?ho18 ?h118 ?h218 ?h318 (fun _ _ _ h => h) ?hy18 ?hs18 ?rest18
      case ho18 => (simp only [List.getElem?_toArray, List.getElem?_cons_succ, List.getElem?_cons_zero]; rfl)
      case h118 => kernel_rfl
      case h218 => kernel_rfl
      case h318 => kernel_rfl
      case hs18 => assumption
      case hy18 => (refine Or.inl ⟨by rfl, fun w hSw => ?_⟩; first | (go_simp; done) | (go_simp; with_reducible rfl))
      case rest18 =>
      try simp only [Act.put, List.setIfInBounds_toArray, List.set_cons_zero, List.set_cons_succ]
      refine wpAnyH_take (i := 19) (oi := ?oi19) (v := .bool true) ?ho19 ?h119 ?h219 ?h319 (fun _ _ _ h => h) ?hy19 ?hs19 ?rest19
      case ho19 => (simp only [List.getElem?_toArray, List.getElem?_cons_succ, List.getElem?_cons_zero]; rfl)
      case h119 => kernel_rfl
      case h219 => kernel_rfl
      case h319 => kernel_rfl
      case hs19 => assumption
      case hy19 => (refine Or.inl ⟨by rfl, fun w hSw => ?_⟩; first | (go_simp; done) | (go_simp; with_reducible rfl))
      case rest19 =>
      try simp only [Act.put, List.setIfInBounds_toArray, List.set_cons_zero, List.set_cons_succ]
      refine wpAnyH_take (i := 20) (oi := ?oi20) (v := .bool true) ?ho20 ?h120 ?h220 ?h320 (fun _ _ _ h => h) ?hy20 ?hs20 ?rest20
      case ho20 => (simp only [List.getElem?_toArray, List.getElem?_cons_succ, List.getElem?_cons_zero]; rfl)
      case h120 => kernel_rfl
      case h220 => kernel_rfl
      case h320 => kernel_rfl
      case hs20 => assumption
      case hy20 => (refine Or.inl ⟨by rfl, fun w hSw => ?_⟩; first | (go_simp; done) | (go_simp; with_reducible rfl))
      case rest20 =>
      try simp only [Act.put, List.setIfInBounds_toArray, List.set_cons_zero, List.set_cons_succ]
      refine wpAnyH_take (i := 21) (oi := ?oi21) (v := .int .i64 2) ?ho21 ?h121 ?h221 ?h321 (fun _ _ _ h => h) ?hy21 ?hs21 ?rest21
      case ho21 => (simp only [List.getElem?_toArray, List.getElem?_cons_succ, List.getElem?_cons_zero]; rfl)
      case h121 => kernel_rfl
      case h221 => kernel_rfl
      case h321 => kernel_rfl
      case hs21 => assumption
      case hy21 => (refine Or.inl ⟨by rfl, fun w hSw => ?_⟩; first | (go_simp; done) | (go_simp; with_reducible rfl))
      case rest21 =>
      try simp only [Act.put, List.setIfInBounds_toArray, List.set_cons_zero, List.set_cons_succ]
      refine wpAnyH_take (i := 22) (oi := ?oi22) (v := .bool true) ?ho22 ?h122 ?h222 ?h322 (fun _ _ _ h => h) ?hy22 ?hs22 ?rest22
      case ho22 => (simp only [List.getElem?_toArray, List.getElem?_cons_succ, List.getElem?_cons_zero]; rfl)
      case h122 => kernel_rfl
      case h222 => kernel_rfl
      case h322 => kernel_rfl
      case hs22 => assumption
      case hy22 => (refine Or.inl ⟨by rfl, fun w hSw => ?_⟩; first | (go_simp; done) | (go_simp; with_reducible rfl))
      case rest22 =>
      try simp only [Act.put, List.setIfInBounds_toArray, List.set_cons_zero, List.set_cons_succ]
      refine wpAnyH_take (i := 23) (oi := ?oi23) (v := .bool true) ?ho23 ?h123 ?h223 ?h323 (fun _ _ _ h => h) ?hy23 ?hs23 ?rest23
      case ho23 => (simp only [List.getElem?_toArray, List.getElem?_cons_succ, List.getElem?_cons_zero]; rfl)
      case h123 => kernel_rfl
      case h223 => kernel_rfl
      case h323 => kernel_rfl
      case hs23 => assumption
      case hy23 => (refine Or.inl ⟨by rfl, fun w hSw => ?_⟩; first | (go_simp; done) | (go_simp; with_reducible rfl))
      case rest23 =>
      try simp only [Act.put, List.setIfInBounds_toArray, List.set_cons_zero, List.set_cons_succ]
      refine wpAnyH_take (i := 24) (oi := ?oi24) (v := undef) ?ho24 ?h124 ?h224 ?h324 (fun _ _ _ h => h) ?hy24 ?hs24 ?rest24
      case ho24 => (simp only [List.getElem?_toArray, List.getElem?_cons_succ, List.getElem?_cons_zero]; rfl)
      case h124 => kernel_rfl
      case h224 => kernel_rfl
      case h324 => kernel_rfl
      case hs24 => assumption
      case hy24 => exact Or.inr ⟨by rfl, rfl⟩
      case rest24 =>
      try simp only [Act.put, List.setIfInBounds_toArray, List.set_cons_zero, List.set_cons_succ]
      refine wpAnyH_take (i := 25) (oi := ?oi25) (v := undef) ?ho25 ?h125 ?h225 ?h325 (fun _ _ _ h => h) ?hy25 ?hs25 ?rest25
      case ho25 => (simp only [List.getElem?_toArray, List.getElem?_cons_succ, List.getElem?_cons_zero]; rfl)
      case h125 => kernel_rfl
      case h225 => kernel_rfl
      case h325 => kernel_rfl
      case hs25 => assumption
      case hy25 => exact Or.inr ⟨by rfl, rfl⟩
      case rest25 =>
      try simp only [Act.put, List.setIfInBounds_toArray, List.set_cons_zero, List.set_cons_succ]
      refine wpAnyH_take (i := 26) (oi := ?oi26) (v := undef) ?ho26 ?h126 ?h226 ?h326 (fun _ _ _ h => h) ?hy26 ?hs26 ?rest26
      case ho26 => (simp only [List.getElem?_toArray, List.getElem?_cons_succ, List.getElem?_cons_zero]; rfl)
      case h126 => kernel_rfl
      case h226 => kernel_rfl
      case h326 => kernel_rfl
      case hs26 => assumption
      case hy26 => exact Or.inr ⟨by rfl, rfl⟩
      case rest26 =>
      try simp only [Act.put, List.setIfInBounds_toArray, List.set_cons_zero, List.set_cons_succ]
      refine wpAnyH_take (i := 27) (oi := ?oi27) (v := undef) ?ho27 ?h127 ?h227 ?h327 (fun _ _ _ h => h) ?hy27 ?hs27 ?rest27
      case ho27 => (simp only [List.getElem?_toArray, List.getElem?_cons_succ, List.getElem?_cons_zero]; rfl)
      case h127 => kernel_rfl
      case h227 => kernel_rfl
      case h327 => kernel_rfl
      case hs27 => assumption
      case hy27 => exact Or.inr ⟨by rfl, rfl⟩
      case rest27 =>
      try simp only [Act.put, List.setIfInBounds_toArray, List.set_cons_zero, List.set_cons_succ]
      refine wpAnyH_take (i := 28) (oi := ?oi28) (v := undef) ?ho28 ?h128 ?h228 ?h328 (fun _ _ _ h => h) ?hy28 ?hs28 ?rest28
      case ho28 => (simp only [List.getElem?_toArray, List.getElem?_cons_succ, List.getElem?_cons_zero]; rfl)
      case h128 => kernel_rfl
      case h228 => kernel_rfl
      case h328 => kernel_rfl
      case hs28 => assumption
      case hy28 => exact Or.inr ⟨by rfl, rfl⟩
      case rest28 =>
      try simp only [Act.put, List.setIfInBounds_toArray, List.set_cons_zero, List.set_cons_succ]
      refine wpAnyH_take (i := 29) (oi := ?oi29) (v := undef) ?ho29 ?h129 ?h229 ?h329 (fun _ _ _ h => h) ?hy29 ?hs29 ?rest29
      case ho29 => (simp only [List.getElem?_toArray, List.getElem?_cons_succ, List.getElem?_cons_zero]; rfl)
      case h129 => kernel_rfl
      case h229 => kernel_rfl
      case h329 => kernel_rfl
      case hs29 => assumption
      case hy29 => exact Or.inr ⟨by rfl, rfl⟩
      case rest29 =>
      try simp only [Act.put, List.setIfInBounds_toArray, List.set_cons_zero, List.set_cons_succ]
      refine wpAnyH_take (i := 30) (oi := ?oi30) (v := undef) ?ho30 ?h130 ?h230 ?h330 (fun _ _ _ h => h) ?hy30 ?hs30 ?rest30
      case ho30 => (simp only [List.getElem?_toArray, List.getElem?_cons_succ, List.getElem?_cons_zero]; rfl)
      case h130 => kernel_rfl
      case h230 => kernel_rfl
      case h330 => kernel_rfl
      case hs30 => assumption
      case hy30 => exact Or.inr ⟨by rfl, rfl⟩
      case rest30 =>
      try simp only [Act.put, List.setIfInBounds_toArray, List.set_cons_zero, List.set_cons_succ]
      refine wpAnyH_take (i := 31) (oi := ?oi31) (v := .bool true) ?ho31 ?h131 ?h231 ?h331 (fun _ _ _ h => h) ?hy31 ?hs31 ?rest31
      case ho31 => (simp only [List.getElem?_toArray, List.getElem?_cons_succ, List.getElem?_cons_zero]; rfl)
      case h131 => kernel_rfl
      case h231 => kernel_rfl
      case h331 => kernel_rfl
      case hs31 => assumption
      case hy31 => (refine Or.inl ⟨by rfl, fun w hSw => ?_⟩; first | (go_simp; done) | (go_simp; with_reducible rfl))
      case rest31 =>
      try simp only [Act.put, List.setIfInBounds_toArray, List.set_cons_zero, List.set_cons_succ]
      refine wpAnyH_take (i := 32) (oi := ?oi32) (v := .bool true) ?ho32 ?h132 ?h232 ?h332 (fun _ _ _ h => h) ?hy32 ?hs32 ?rest32
      case ho32 => (simp only [List.getElem?_toArray, List.getElem?_cons_succ, List.getElem?_cons_zero]; rfl)
      case h132 => kernel_rfl
      case h232 => kernel_rfl
      case h332 => kernel_rfl
      case hs32 => assumption
      case hy32 => (refine Or.inl ⟨by rfl, fun w hSw => ?_⟩; first | (go_simp; done) | (go_simp; with_reducible rfl))
      case rest32 =>
      try simp only [Act.put, List.setIfInBounds_toArray, List.set_cons_zero, List.set_cons_succ]
      refine wpAnyH_take (i := 33) (oi := ?oi33) (v := .bool true) ?ho33 ?h133 ?h233 ?h333 (fun _ _ _ h => h) ?hy33 ?hs33 ?rest33
      case ho33 => (simp only [List.getElem?_toArray, List.getElem?_cons_succ, List.getElem?_cons_zero]; rfl)
      case h133 => kernel_rfl
      case h233 => kernel_rfl
      case h333 => kernel_rfl
      case hs33 => assumption
      case hy33 => (refine Or.inl ⟨by rfl, fun w hSw => ?_⟩; first | (go_simp; done) | (go_simp; with_reducible rfl))
      case rest33 =>
      try simp only [Act.put, List.setIfInBounds_toArray, List.set_cons_zero, List.set_cons_succ]
      refine wpAnyH_take (i := 34) (oi := ?oi34) (v := .agg #[.int .u64 z.i, .int .u64 z.t, .slice zo z.b.length zc]) ?ho34 ?h134 ?h234 ?h334 (fun _ _ _ h => h) ?hy34 ?hs34 ?rest34
      case ho34 => (simp only [List.getElem?_toArray, List.getElem?_cons_succ, List.getElem?_cons_zero]; rfl)
      case h134 => kernel_rfl
      case h234 => kernel_rfl
      case h334 => kernel_rfl
      case hs34 => assumption
      case hy34 => (refine Or.inl ⟨by rfl, fun w hSw => ?_⟩; first | (go_simp; done) | (go_simp; with_reducible rfl))
      case rest34 =>
      try simp only [Act.put, List.setIfInBounds_toArray, List.set_cons_zero, List.set_cons_succ]
      refine wpAnyH_take (i := 35) (oi := ?oi35) (v := .agg #[.int .u64 x.i, .int .u64 x.t, .slice uo x.b.length uc]) ?ho35 ?h135 ?h235 ?h335 (fun _ _ _ h => h) ?hy35 ?hs35 ?rest35
      case ho35 => (simp only [List.getElem?_toArray, List.getElem?_cons_succ, List.getElem?_cons_zero]; rfl)
      case h135 => kernel_rfl
      case h235 => kernel_rfl
      case h335 => kernel_rfl
      case hs35 => assumption
      case hy35 => (refine Or.inl ⟨by rfl, fun w hSw => ?_⟩; first | (go_simp; done) | (go_simp; with_reducible rfl))
      case rest35 =>
      try simp only [Act.put, List.setIfInBounds_toArray, List.set_cons_zero, List.set_cons_succ]
      refine wpAnyH_take (i := 37) (oi := ?oi36) (v := .agg #[.int .u64 z.i, .int .u64 z.t, .slice zo z.b.length zc]) ?ho36 ?h136 ?h236 ?h336 (fun _ _ _ h => h) ?hy36 ?hs36 ?rest36
      case ho36 => (simp only [List.getElem?_toArray, List.getElem?_cons_succ, List.getElem?_cons_zero]; rfl)
      case h136 => kernel_rfl
      case h236 => kernel_rfl
      case h336 => kernel_rfl
      case hs36 => assumption
      case hy36 => (refine Or.inl ⟨by rfl, fun w hSw => ?_⟩; first | (go_simp; done) | (go_simp; with_reducible rfl))
      case rest36 =>
      try simp only [Act.put, List.setIfInBounds_toArray, List.set_cons_zero, List.set_cons_succ]
      refine wpAnyH_take (i := 38) (oi := ?oi37) (v := .agg #[.int .u64 x.i, .int .u64 x.t, .slice uo x.b.length uc]) ?ho37 ?h137 ?h237 ?h337 (fun _ _ _ h => h) ?hy37 ?hs37 ?rest37
      case ho37 => (simp only [List.getElem?_toArray, List.getElem?_cons_succ, List.getElem?_cons_zero]; rfl)
      case h137 => kernel_rfl
      case h237 => kernel_rfl
      case h337 => kernel_rfl
      case hs37 => assumption
      case hy37 => (refine Or.inl ⟨by rfl, fun w hSw => ?_⟩; first | (go_simp; done) | (go_simp; with_reducible rfl))
      case rest37 =>
      try simp only [Act.put, List.setIfInBounds_toArray, List.set_cons_zero, List.set_cons_succ]
      refine wpAnyH_ready (rs := [36]) (by kernel_rfl) (by simp) ?_
      refine AllReadyH.cons rfl (fun K hK => ?_) ?_
      · go_simp
        go_at_call 17; (with_reducible refine (HZX.out _ hb7).mono ?_); rintro e w9 ⟨rfl, b0⟩; have hb9 : Below w6.heap.size w6 w9 := Below.trans hb7 (b0.mono (Below.size hb7)); clear b0
        refine hK.out _ _ (HS.out _ hb9) (fun hHeld2 => ?_)
        clear hK K
        try simp only [Act.put, List.setIfInBounds_toArray, List.set_cons_zero, List.set_cons_succ]
        refine wpAnyH_ready (rs := [39]) (by kernel_rfl) (by simp) ?_
        refine AllReadyH.cons rfl (fun K hK => ?_) ?_
        · go_simp
          go_at_call 16; (with_reducible refine (HZX2.out _ hb9).mono ?_); rintro e w10 ⟨rfl, b0⟩; have hb10 : Below w6.heap.size w6 w10 := Below.trans hb9 (b0.mono (Below.size hb9)); clear b0
          refine hK.out _ _ (HS.out _ hb10) (fun hHeld2 => ?_)
          clear hK K
          try simp only [Act.put, List.setIfInBounds_toArray, List.set_cons_zero, List.set_cons_succ]
          refine wpAnyH_take (i := 40) (oi := ?oi38) (v := .bool true) ?ho38 ?h138 ?h238 ?h338 (fun _ _ _ h => h) ?hy38 ?hs38 ?rest38
          case ho38 => (simp only [List.getElem?_toArray, List.getElem?_cons_succ, List.getElem?_cons_zero]; rfl)
          case h138 => kernel_rfl
          case h238 => kernel_rfl
          case h338 => kernel_rfl
          case hs38 => assumption
          case hy38 => (refine Or.inl ⟨by rfl, fun w hSw => ?_⟩; first | (go_simp; done) | (go_simp; with_reducible rfl))
          case rest38 =>
          try simp only [Act.put, List.setIfInBounds_toArray, List.set_cons_zero, List.set_cons_succ]
          refine wpAnyH_take (i := 41) (oi := ?oi39) (v := .bool true) ?ho39 ?h139 ?h239 ?h339 (fun _ _ _ h => h) ?hy39 ?hs39 ?rest39
          case ho39 => (simp only [List.getElem?_toArray, List.getElem?_cons_succ, List.getElem?_cons_zero]; rfl)
          case h139 => kernel_rfl
          case h239 => kernel_rfl
          case h339 => kernel_rfl
          case hs39 => assumption
          case hy39 => (refine Or.inl ⟨by rfl, fun w hSw => ?_⟩; first | (go_simp; done) | (go_simp; with_reducible rfl))
          case rest39 =>
          try simp only [Act.put, List.setIfInBounds_toArray, List.set_cons_zero, List.set_cons_succ]
          refine wpAnyH_take (i := 42) (oi := ?oi40) (v := .bool true) ?ho40 ?h140 ?h240 ?h340 (fun _ _ _ h => h) ?hy40 ?hs40 ?rest40
          case ho40 => (simp only [List.getElem?_toArray, List.getElem?_cons_succ, List.getElem?_cons_zero]; rfl)
          case h140 => kernel_rfl
          case h240 => kernel_rfl
          case h340 => kernel_rfl
          case hs40 => assumption
          case hy40 => (refine Or.inl ⟨by rfl, fun w hSw => ?_⟩; first | (go_simp; done) | (go_simp; with_reducible rfl))
          case rest40 =>
          try simp only [Act.put, List.setIfInBounds_toArray, List.set_cons_zero, List.set_cons_succ]
          refine wpAnyH_done (by kernel_rfl) ?_ _
          refine NoPanic.normal ?_
          go_wp2
          show P (.returned (.bool true)) _
          exact HP.out _ (BA6.out.trans (hb10.mono BA6.out.size))
        exact AllReadyH.nil
      exact AllReadyH.nil
    exact AllReadyH.nil
  · subst h0
    refine wp_region_noPanic ?_
    refine wp_region_held_drew (S := fun W => Below w6.heap.size w6 W ∧ W.cell? ⟨g, 0, none⟩ = some (.int .u64 x.i) ∧ W.cell? ⟨g, 1, none⟩ = some (.int .u64 x.t) ∧ W.cell? ⟨g, 2, none⟩ = some (.slice uo x.b.length uc) ∧ W.cell? ⟨w3.heap.size, 0, none⟩ = some (.int .u64 z.i) ∧ W.cell? ⟨w3.heap.size, 1, none⟩ = some (.int .u64 z.t) ∧ W.cell? ⟨w3.heap.size, 2, none⟩ = some (.slice zo z.b.length zc) ∧ W.cell? ⟨w4.heap.size, 0, none⟩ = some (.int .u64 z.i) ∧ W.cell? ⟨w4.heap.size, 1, none⟩ = some (.int .u64 z.t) ∧ W.cell? ⟨w4.heap.size, 2, none⟩ = some (.slice yo z.b.length yc) ∧ W.cell? ⟨w5.heap.size, 0, none⟩ = some (.int .u64 y.i) ∧ W.cell? ⟨w5.heap.size, 1, none⟩ = some (.int .u64 y.t) ∧ W.cell? ⟨w5.heap.size, 2, none⟩ = some (.slice xo y.b.length xc) ∧ (convert 23 9 (.slice a1 r.length q1)).run Tryz.prog W = .ok (.string (tx r)) W ∧ (convert 23 9 (.slice a2 r.length q2)).run Tryz.prog W = .ok (.string (tx r)) W) (by kernel_rfl) (HS.out _ (Below.refl _ _).drew) (fun hHeld => ?_)
    refine wpAnyH_take (i := 0) (oi := ?oi41) (v := .slice a1 r.length q1) ?ho41 ?h141 ?h241 ?h341 (fun _ _ _ h => h) ?hy41 ?hs41 ?rest41
    case ho41 => (simp only [List.getElem?_toArray, List.getElem?_cons_zero]; rfl)
    case h141 => kernel_rfl
    case h241 => kernel_rfl
    case h341 => kernel_rfl
    case hs41 => assumption
    case hy41 => (refine Or.inl ⟨by rfl, fun w hSw => ?_⟩; first | (go_simp; done) | (go_simp; with_reducible rfl))
    case rest41 =>
    try simp only [Act.put, List.setIfInBounds_toArray, List.set_cons_zero, List.set_cons_succ]
    refine wpAnyH_take (i := 1) (oi := ?oi42) (v := .string (tx r)) ?ho42 ?h142 ?h242 ?h342 (fun _ _ _ h => h) ?hy42 ?hs42 ?rest42
    case ho42 => (simp only [List.getElem?_toArray, List.getElem?_cons_succ, List.getElem?_cons_zero]; rfl)
    case h142 => kernel_rfl
    case h242 => kernel_rfl
    case h342 => kernel_rfl
    case hs42 => assumption
    case hy42 => (refine Or.inl ⟨by rfl, fun w hSw => ?_⟩; first | (go_simp; done) | (go_simp; with_reducible rfl))
    case rest42 =>
    try simp only [Act.put, List.setIfInBounds_toArray, List.set_cons_zero, List.set_cons_succ]
    refine wpAnyH_take (i := 2) (oi := ?oi43) (v := .slice a2 r.length q2) ?ho43 ?h143 ?h243 ?h343 (fun _ _ _ h => h) ?hy43 ?hs43 ?rest43
    case ho43 => (simp only [List.getElem?_toArray, List.getElem?_cons_succ, List.getElem?_cons_zero]; rfl)
    case h143 => kernel_rfl
    case h243 => kernel_rfl
    case h343 => kernel_rfl
    case hs43 => assumption
    case hy43 => (refine Or.inl ⟨by rfl, fun w hSw => ?_⟩; first | (go_simp; done) | (go_simp; with_reducible rfl))
    case rest43 =>
    try simp only [Act.put, List.setIfInBounds_toArray, List.set_cons_zero, List.set_cons_succ]
    refine wpAnyH_take (i := 3) (oi := ?oi44) (v := .string (tx r)) ?ho44 ?h144 ?h244 ?h344 (fun _ _ _ h => h) ?hy44 ?hs44 ?rest44
    case ho44 => (simp only [List.getElem?_toArray, List.getElem?_cons_succ, List.getElem?_cons_zero]; rfl)
    case h144 => kernel_rfl
    case h244 => kernel_rfl
    case h344 => kernel_rfl
    case hs44 => assumption
    case hy44 => (refine Or.inl ⟨by rfl, fun w hSw => ?_⟩; first | (go_simp; done) | (go_simp; with_reducible rfl))
    case rest44 =>
    try simp only [Act.put, List.setIfInBounds_toArray, List.set_cons_zero, List.set_cons_succ]
    refine wpAnyH_take (i := 4) (oi := ?oi45) (v := .bool true) ?ho45 ?h145 ?h245 ?h345 (fun _ _ _ h => h) ?hy45 ?hs45 ?rest45
    case ho45 => (simp only [List.getElem?_toArray, List.getElem?_cons_succ, List.getElem?_cons_zero]; rfl)
    case h145 => kernel_rfl
    case h245 => kernel_rfl
    case h345 => kernel_rfl
    case hs45 => assumption
    case hy45 => (refine Or.inl ⟨by rfl, fun w hSw => ?_⟩; first | (go_simp; done) | (go_simp; with_reducible rfl))
    case rest45 =>
    try simp only [Act.put, List.setIfInBounds_toArray, List.set_cons_zero, List.set_cons_succ]
    refine wpAnyH_take (i := 5) (oi := ?oi46) (v := .bool true) ?ho46 ?h146 ?h246 ?h346 (fun _ _ _ h => h) ?hy46 ?hs46 ?rest46
    case ho46 => (simp only [List.getElem?_toArray, List.getElem?_cons_succ, List.getElem?_cons_zero]; rfl)
    case h146 => kernel_rfl
    case h246 => kernel_rfl
    case h346 => kernel_rfl
    case hs46 => assumption
    case hy46 => (refine Or.inl ⟨by rfl, fun w hSw => ?_⟩; first | (go_simp; done) | (go_simp; with_reducible rfl))
    case rest46 =>
    try simp only [Act.put, List.setIfInBounds_toArray, List.set_cons_zero, List.set_cons_succ]
    refine wpAnyH_take (i := 6) (oi := ?oi47) (v := .int .i64 3) ?ho47 ?h147 ?h247 ?h347 (fun _ _ _ h => h) ?hy47 ?hs47 ?rest47
    case ho47 => (simp only [List.getElem?_toArray, List.getElem?_cons_succ, List.getElem?_cons_zero]; rfl)
    case h147 => kernel_rfl
    case h247 => kernel_rfl
    case h347 => kernel_rfl
    case hs47 => assumption
    case hy47 => (refine Or.inl ⟨by rfl, fun w hSw => ?_⟩; first | (go_simp; done) | (go_simp; with_reducible rfl))
    case rest47 =>
    try simp only [Act.put, List.setIfInBounds_toArray, List.set_cons_zero, List.set_cons_succ]
    refine wpAnyH_take (i := 7) (oi := ?oi48) (v := .int .i64 3) ?ho48 ?h148 ?h248 ?h348 (fun _ _ _ h => h) ?hy48 ?hs48 ?rest48
    case ho48 => (simp only [List.getElem?_toArray, List.getElem?_cons_succ, List.getElem?_cons_zero]; rfl)
    case h148 => kernel_rfl
    case h248 => kernel_rfl
    case h348 => kernel_rfl
    case hs48 => assumption
    case hy48 => (refine Or.inl ⟨by rfl, fun w hSw => ?_⟩; first | (go_simp; done) | (go_simp; with_reducible rfl))
    case rest48 =>
    try simp only [Act.put, List.setIfInBounds_toArray, List.set_cons_zero, List.set_cons_succ]
    refine wpAnyH_take (i := 8) (oi := ?oi49) (v := .bool true) ?ho49 ?h149 ?h249 ?h349 (fun _ _ _ h => h) ?hy49 ?hs49 ?rest49
    case ho49 => (simp only [List.getElem?_toArray, List.getElem?_cons_succ, List.getElem?_cons_zero]; rfl)
    case h149 => kernel_rfl
    case h249 => kernel_rfl
    case h349 => kernel_rfl
    case hs49 => assumption
    case hy49 => (refine Or.inl ⟨by rfl, fun w hSw => ?_⟩; first | (go_simp; done) | (go_simp; with_reducible rfl))
    case rest49 =>
    try simp only [Act.put, List.setIfInBounds_toArray, List.set_cons_zero, List.set_cons_succ]
    refine wpAnyH_take (i := 9) (oi := ?oi50) (v := .bool true) ?ho50 ?h150 ?h250 ?h350 (fun _ _ _ h => h) ?hy50 ?hs50 ?rest50
    case ho50 => (simp only [List.getElem?_toArray, List.getElem?_cons_succ, List.getElem?_cons_zero]; rfl)
    case h150 => kernel_rfl
    case h250 => kernel_rfl
    case h350 => kernel_rfl
    case hs50 => assumption
    case hy50 => (refine Or.inl ⟨by rfl, fun w hSw => ?_⟩; first | (go_simp; done) | (go_simp; with_reducible rfl))
    case rest50 =>
    try simp only [Act.put, List.setIfInBounds_toArray, List.set_cons_zero, List.set_cons_succ]
    refine wpAnyH_take (i := 10) (oi := ?oi51) (v := .bool true) ?ho51 ?h151 ?h251 ?h351 (fun _ _ _ h => h) ?hy51 ?hs51 ?rest51
    case ho51 => (simp only [List.getElem?_toArray, List.getElem?_cons_succ, List.getElem?_cons_zero]; rfl)
    case h151 => kernel_rfl
    case h251 => kernel_rfl
    case h351 => kernel_rfl
    case hs51 => assumption
    case hy51 => (refine Or.inl ⟨by rfl, fun w hSw => ?_⟩; first | (go_simp; done) | (go_simp; with_reducible rfl))
    case rest51 =>
    try simp only [Act.put, List.setIfInBounds_toArray, List.set_cons_zero, List.set_cons_succ]
    refine wpAnyH_take (i := 11) (oi := ?oi52) (v := .agg #[.int .u64 z.i, .int .u64 z.t, .slice zo z.b.length zc]) ?ho52 ?h152 ?h252 ?h352 (fun _ _ _ h => h) ?hy52 ?hs52 ?rest52
    case ho52 => (simp only [List.getElem?_toArray, List.getElem?_cons_succ, List.getElem?_cons_zero]; rfl)
    case h152 => kernel_rfl
    case h252 => kernel_rfl
    case h352 => kernel_rfl
    case hs52 => assumption
    case hy52 => (refine Or.inl ⟨by rfl, fun w hSw => ?_⟩; first | (go_simp; done) | (go_simp; with_reducible rfl))
    case rest52 =>
    try simp only [Act.put, List.setIfInBounds_toArray, List.set_cons_zero, List.set_cons_succ]
    refine wpAnyH_take (i := 12) (oi := ?oi53) (v := .agg #[.int .u64 z.i, .int .u64 z.t, .slice yo z.b.length yc]) ?ho53 ?h153 ?h253 ?h353 (fun _ _ _ h => h) ?hy53 ?hs53 ?rest53
    case ho53 => (simp only [List.getElem?_toArray, List.getElem?_cons_succ, List.getElem?_cons_zero]; rfl)
    case h153 => kernel_rfl
    case h253 => kernel_rfl
    case h353 => kernel_rfl
    case hs53 => assumption
    case hy53 => (refine Or.inl ⟨by rfl, fun w hSw => ?_⟩; first | (go_simp; done) | (go_simp; with_reducible rfl))
    case rest53 =>
    try simp only [Act.put, List.setIfInBounds_toArray, List.set_cons_zero, List.set_cons_succ]
    refine wpAnyH_ready (rs := [13]) (by kernel_rfl) (by simp) ?_
    refine AllReadyH.cons rfl (fun K hK => ?_) ?_
    · go_simp
      go_at_call 16; (with_reducible refine (HZZ.out _ (Below.refl w6.heap.size w6).drew).mono ?_); rintro e w7 ⟨rfl, b0⟩; have hb7 : Below w6.heap.size w6 w7 := (Below.refl w6.heap.size w6).drew.trans b0; clear b0
      refine hK.out _ _ (HS.out _ hb7) (fun hHeld2 => ?_)
      clear hK K
      try simp only [Act.put, List.setIfInBounds_toArray, List.set_cons_zero, List.set_cons_succ]
      refine wpAnyH_take (i := 14) (oi := ?oi54) (v := .bool true) ?ho54 ?h154 ?h254 ?h354 (fun _ _ _ h => h) ?hy54 ?hs54 ?rest54
      case ho54 => (simp only [List.getElem?_toArray, List.getElem?_cons_succ, List.getElem?_cons_zero]; rfl)
      case h154 => kernel_rfl
      case h254 => kernel_rfl
      case h354 => kernel_rfl
      case hs54 => assumption
      case hy54 => (refine Or.inl ⟨by rfl, fun w hSw => ?_⟩; first | (go_simp; done) | (go_simp; with_reducible rfl))
      case rest54 =>
      try simp only [Act.put, List.setIfInBounds_toArray, List.set_cons_zero, List.set_cons_succ]
      refine wpAnyH_take (i := 15) (oi := ?oi55) (v := .bool true) ?ho55 ?h155 ?h255 ?h355 (fun _ _ _ h => h) ?hy55 ?hs55 ?rest55
      case ho55 => (simp only [List.getElem?_toArray, List.getElem?_cons_succ, List.getElem?_cons_zero]; rfl)
      case h155 => kernel_rfl
      case h255 => kernel_rfl
      case h355 => kernel_rfl
      case hs55 => assumption
      case hy55 => (refine Or.inl ⟨by rfl, fun w hSw => ?_⟩; first | (go_simp; done) | (go_simp; with_reducible rfl))
      case rest55 =>
      try simp only [Act.put, List.setIfInBounds_toArray, List.set_cons_zero, List.set_cons_succ]
      refine wpAnyH_take (i := 16) (oi := ?oi56) (v := .int .i64 ze) ?ho56 ?h156 ?h256 ?h356 (fun _ _ _ h => h) ?hy56 ?hs56 ?rest56
      case ho56 => (simp only [List.getElem?_toArray, List.getElem?_cons_succ, List.getElem?_cons_zero]; rfl)
      case h156 => kernel_rfl
      case h256 => kernel_rfl
      case h356 => kernel_rfl
      case hs56 => assumption
      case hy56 => (refine Or.inl ⟨by rfl, fun w hSw => ?_⟩; first | (go_simp; done) | (go_simp; with_reducible rfl))
      case rest56 =>
      try simp only [Act.put, List.setIfInBounds_toArray, List.set_cons_zero, List.set_cons_succ]
      refine wpAnyH_take (i := 17) (oi := ?oi57) (v := .int .i64 ze) ?ho57 ?h157 ?h257 ?h357 (fun _ _ _ h => h) ?hy57 ?hs57 ?rest57
      case ho57 => (simp only [List.getElem?_toArray, List.getElem?_cons_succ, List.getElem?_cons_zero]; rfl)
      case h157 => kernel_rfl
      case h257 => kernel_rfl
      case h357 => kernel_rfl
      case hs57 => assumption
      case hy57 => (refine Or.inl ⟨by rfl, fun w hSw => ?_⟩; first | (go_simp; done) | (go_simp; with_reducible rfl))
      case rest57 =>
      try simp only [Act.put, List.setIfInBounds_toArray, List.set_cons_zero, List.set_cons_succ]
      refine wpAnyH_take (i := 18) (oi := ?oi58) (v := .bool true) ?ho58 ?h158 ?h258 ?h358 (fun _ _ _ h => h) ?hy58 ?hs58 ?rest58
      case ho58 => (simp only [List.getElem?_toArray, List.getElem?_cons_succ, List.getElem?_cons_zero]; rfl)
      case h158 => kernel_rfl
      case h258 => kernel_rfl
      case h358 => kernel_rfl
      case hs58 => assumption
      case hy58 => (refine Or.inl ⟨by rfl, fun w hSw => ?_⟩; first | (go_simp; done) | (go_simp; with_reducible rfl))
      case rest58 =>
      try simp only [Act.put, List.setIfInBounds_toArray, List.set_cons_zero, List.set_cons_succ]
      refine wpAnyH_take (i := 19) (oi := ?oi59) (v := .bool true) ?ho59 ?h159 ?h259 ?h359 (fun _ _ _ h => h) ?hy59 ?hs59 ?rest59
      case ho59 => (simp only [List.getElem?_toArray, List.getElem?_cons_succ, List.getElem?_cons_zero]; rfl)
      case h159 => kernel_rfl
      case h259 => kernel_rfl
      case h359 => kernel_rfl
      case hs59 => assumption
      case hy59 => (refine Or.inl ⟨by rfl, fun w hSw => ?_⟩; first | (go_simp; done) | (go_simp; with_reducible rfl))
      case rest59 =>
      try simp only [Act.put, List.setIfInBounds_toArray, List.set_cons_zero, List.set_cons_succ]
      refine wpAnyH_take (i := 20) (oi := ?oi60) (v := .bool true) ?ho60 ?h160 ?h260 ?h360 (fun _ _ _ h => h) ?hy60 ?hs60 ?rest60
      case ho60 => (simp only [List.getElem?_toArray, List.getElem?_cons_succ, List.getElem?_cons_zero]; rfl)
      case h160 => kernel_rfl
      case h260 => kernel_rfl
      case h360 => kernel_rfl
      case hs60 => assumption
      case hy60 => (refine Or.inl ⟨by rfl, fun w hSw => ?_⟩; first | (go_simp; done) | (go_simp; with_reducible rfl))
      case rest60 =>
      try simp only [Act.put, List.setIfInBounds_toArray, List.set_cons_zero, List.set_cons_succ]
      refine wpAnyH_take (i := 21) (oi := ?oi61) (v := .int .i64 3) ?ho61 ?h161 ?h261 ?h361 (fun _ _ _ h => h) ?hy61 ?hs61 ?rest61
      case ho61 => (simp only [List.getElem?_toArray, List.getElem?_cons_succ, List.getElem?_cons_zero]; rfl)
      case h161 => kernel_rfl
      case h261 => kernel_rfl
      case h361 => kernel_rfl
      case hs61 => assumption
      case hy61 => (refine Or.inl ⟨by rfl, fun w hSw => ?_⟩; first | (go_simp; done) | (go_simp; with_reducible rfl))
      case rest61 =>
      try simp only [Act.put, List.setIfInBounds_toArray, List.set_cons_zero, List.set_cons_succ]
      refine wpAnyH_take (i := 22) (oi := ?oi62) (v := .bool true) ?ho62 ?h162 ?h262 ?h362 (fun _ _ _ h => h) ?hy62 ?hs62 ?rest62
      case ho62 => (simp only [List.getElem?_toArray, List.getElem?_cons_succ, List.getElem?_cons_zero]; rfl)
      case h162 => kernel_rfl
      case h262 => kernel_rfl
      case h362 => kernel_rfl
      case hs62 => assumption
      case hy62 => (refine Or.inl ⟨by rfl, fun w hSw => ?_⟩; first | (go_simp; done) | (go_simp; with_reducible rfl))
      case rest62 =>
      try simp only [Act.put, List.setIfInBounds_toArray, List.set_cons_zero, List.set_cons_succ]
      refine wpAnyH_take (i := 23) (oi := ?oi63) (v := .bool true) ?ho63 ?h163 ?h263 ?h363 (fun _ _ _ h => h) ?hy63 ?hs63 ?rest63
      case ho63 => (simp only [List.getElem?_toArray, List.getElem?_cons_succ, List.getElem?_cons_zero]; rfl)
      case h163 => kernel_rfl
      case h263 => kernel_rfl
      case h363 => kernel_rfl
      case hs63 => assumption
      case hy63 => (refine Or.inl ⟨by rfl, fun w hSw => ?_⟩; first | (go_simp; done) | (go_simp; with_reducible rfl))
      case rest63 =>
      try simp only [Act.put, List.setIfInBounds_toArray, List.set_cons_zero, List.set_cons_succ]
      refine wpAnyH_take (i := 24) (oi := ?oi64) (v := undef) ?ho64 ?h164 ?h264 ?h364 (fun _ _ _ h => h) ?hy64 ?hs64 ?rest64
      case ho64 => (simp only [List.getElem?_toArray, List.getElem?_cons_succ, List.getElem?_cons_zero]; rfl)
      case h164 => kernel_rfl
      case h264 => kernel_rfl
      case h364 => kernel_rfl
      case hs64 => assumption
      case hy64 => exact Or.inr ⟨by rfl, rfl⟩
      case rest64 =>
      try simp only [Act.put, List.setIfInBounds_toArray, List.set_cons_zero, List.set_cons_succ]
      refine wpAnyH_take (i := 25) (oi := ?oi65) (v := undef) ?ho65 ?h165 ?h265 ?h365 (fun _ _ _ h => h) ?hy65 ?hs65 ?rest65
      case ho65 => (simp only [List.getElem?_toArray, List.getElem?_cons_succ, List.getElem?_cons_zero]; rfl)
      case h165 => kernel_rfl
      case h265 => kernel_rfl
      case h365 => kernel_rfl
      case hs65 => assumption
      case hy65 => exact Or.inr ⟨by rfl, rfl⟩
      case rest65 =>
      try simp only [Act.put, List.setIfInBounds_toArray, List.set_cons_zero, List.set_cons_succ]
      refine wpAnyH_take (i := 26) (oi := ?oi66) (v := undef) ?ho66 ?h166 ?h266 ?h366 (fun _ _ _ h => h) ?hy66 ?hs66 ?rest66
      case ho66 => (simp only [List.getElem?_toArray, List.getElem?_cons_succ, List.getElem?_cons_zero]; rfl)
      case h166 => kernel_rfl
      case h266 => kernel_rfl
      case h366 => kernel_rfl
      case hs66 => assumption
      case hy66 => exact Or.inr ⟨by rfl, rfl⟩
      case rest66 =>
      try simp only [Act.put, List.setIfInBounds_toArray, List.set_cons_zero, List.set_cons_succ]
      refine wpAnyH_take (i := 27) (oi := ?oi67) (v := undef) ?ho67 ?h167 ?h267 ?h367 (fun _ _ _ h => h) ?hy67 ?hs67 ?rest67
      case ho67 => (simp only [List.getElem?_toArray, List.getElem?_cons_succ, List.getElem?_cons_zero]; rfl)
      case h167 => kernel_rfl
      case h267 => kernel_rfl
      case h367 => kernel_rfl
      case hs67 => assumption
      case hy67 => exact Or.inr ⟨by rfl, rfl⟩
      case rest67 =>
      try simp only [Act.put, List.setIfInBounds_toArray, List.set_cons_zero, List.set_cons_succ]
      refine wpAnyH_take (i := 28) (oi := ?oi68) (v := undef) ?ho68 ?h168 ?h268 ?h368 (fun _ _ _ h => h) ?hy68 ?hs68 ?rest68
      case ho68 => (simp only [List.getElem?_toArray, List.getElem?_cons_succ, List.getElem?_cons_zero]; rfl)
      case h168 => kernel_rfl
      case h268 => kernel_rfl
      case h368 => kernel_rfl
      case hs68 => assumption
      case hy68 => exact Or.inr ⟨by rfl, rfl⟩
      case rest68 =>
      try simp only [Act.put, List.setIfInBounds_toArray, List.set_cons_zero, List.set_cons_succ]
      refine wpAnyH_take (i := 29) (oi := ?oi69) (v := undef) ?ho69 ?h169 ?h269 ?h369 (fun _ _ _ h => h) ?hy69 ?hs69 ?rest69
      case ho69 => (simp only [List.getElem?_toArray, List.getElem?_cons_succ, List.getElem?_cons_zero]; rfl)
      case h169 => kernel_rfl
      case h269 => kernel_rfl
      case h369 => kernel_rfl
      case hs69 => assumption
      case hy69 => exact Or.inr ⟨by rfl, rfl⟩
      case rest69 =>
      try simp only [Act.put, List.setIfInBounds_toArray, List.set_cons_zero, List.set_cons_succ]
      refine wpAnyH_take (i := 30) (oi := ?oi70) (v := undef) ?ho70 ?h170 ?h270 ?h370 (fun _ _ _ h => h) ?hy70 ?hs70 ?rest70
      case ho70 => (simp only [List.getElem?_toArray, List.getElem?_cons_succ, List.getElem?_cons_zero]; rfl)
      case h170 => kernel_rfl
      case h270 => kernel_rfl
      case h370 => kernel_rfl
      case hs70 => assumption
      case hy70 => exact Or.inr ⟨by rfl, rfl⟩
      case rest70 =>
      try simp only [Act.put, List.setIfInBounds_toArray, List.set_cons_zero, List.set_cons_succ]
      refine wpAnyH_take (i := 31) (oi := ?oi71) (v := .bool true) ?ho71 ?h171 ?h271 ?h371 (fun _ _ _ h => h) ?hy71 ?hs71 ?rest71
      case ho71 => (simp only [List.getElem?_toArray, List.getElem?_cons_succ, List.getElem?_cons_zero]; rfl)
      case h171 => kernel_rfl
      case h271 => kernel_rfl
      case h371 => kernel_rfl
      case hs71 => assumption
      case hy71 => (refine Or.inl ⟨by rfl, fun w hSw => ?_⟩; first | (go_simp; done) | (go_simp; with_reducible rfl))
      case rest71 =>
      try simp only [Act.put, List.setIfInBounds_toArray, List.set_cons_zero, List.set_cons_succ]
      refine wpAnyH_take (i := 32) (oi := ?oi72) (v := .bool true) ?ho72 ?h172 ?h272 ?h372 (fun _ _ _ h => h) ?hy72 ?hs72 ?rest72
      case ho72 => (simp only [List.getElem?_toArray, List.getElem?_cons_succ, List.getElem?_cons_zero]; rfl)
      case h172 => kernel_rfl
      case h272 => kernel_rfl
      case h372 => kernel_rfl
      case hs72 => assumption
      case hy72 => (refine Or.inl ⟨by rfl, fun w hSw => ?_⟩; first | (go_simp; done) | (go_simp; with_reducible rfl))
      case rest72 =>
      try simp only [Act.put, List.setIfInBounds_toArray, List.set_cons_zero, List.set_cons_succ]
      refine wpAnyH_take (i := 33) (oi := ?oi73) (v := .bool true) ?ho73 ?h173 ?h273 ?h373 (fun _ _ _ h => h) ?hy73 ?hs73 ?rest73
      case ho73 => (simp only [List.getElem?_toArray, List.getElem?_cons_succ, List.getElem?_cons_zero]; rfl)
      case h173 => kernel_rfl
      case h273 => kernel_rfl
      case h373 => kernel_rfl
      case hs73 => assumption
      case hy73 => (refine Or.inl ⟨by rfl, fun w hSw => ?_⟩; first | (go_simp; done) | (go_simp; with_reducible rfl))
      case rest73 =>
      try simp only [Act.put, List.setIfInBounds_toArray, List.set_cons_zero, List.set_cons_succ]
      refine wpAnyH_take (i := 34) (oi := ?oi74) (v := .agg #[.int .u64 z.i, .int .u64 z.t, .slice zo z.b.length zc]) ?ho74 ?h174 ?h274 ?h374 (fun _ _ _ h => h) ?hy74 ?hs74 ?rest74
      case ho74 => (simp only [List.getElem?_toArray, List.getElem?_cons_succ, List.getElem?_cons_zero]; rfl)
      case h174 => kernel_rfl
      case h274 => kernel_rfl
      case h374 => kernel_rfl
      case hs74 => assumption
      case hy74 => (refine Or.inl ⟨by rfl, fun w hSw => ?_⟩; first | (go_simp; done) | (go_simp; with_reducible rfl))
      case rest74 =>
      try simp only [Act.put, List.setIfInBounds_toArray, List.set_cons_zero, List.set_cons_succ]
      refine wpAnyH_take (i := 35) (oi := ?oi75) (v := .agg #[.int .u64 x.i, .int .u64 x.t, .slice uo x.b.length uc]) ?ho75 ?h175 ?h275 ?h375 (fun _ _ _ h => h) ?hy75 ?hs75 ?rest75
      case ho75 => (simp only [List.getElem?_toArray, List.getElem?_cons_succ, List.getElem?_cons_zero]; rfl)
      case h175 => kernel_rfl
      case h275 => kernel_rfl
      case h375 => kernel_rfl
      case hs75 => assumption
      case hy75 => (refine Or.inl ⟨by rfl, fun w hSw => ?_⟩; first | (go_simp; done) | (go_simp; with_reducible rfl))
      case rest75 =>
      try simp only [Act.put, List.setIfInBounds_toArray, List.set_cons_zero, List.set_cons_succ]
      refine wpAnyH_take (i := 37) (oi := ?oi76) (v := .agg #[.int .u64 z.i, .int .u64 z.t, .slice zo z.b.length zc]) ?ho76 ?h176 ?h276 ?h376 (fun _ _ _ h => h) ?hy76 ?hs76 ?rest76
      case ho76 => (simp only [List.getElem?_toArray, List.getElem?_cons_succ, List.getElem?_cons_zero]; rfl)
      case h176 => kernel_rfl
      case h276 => kernel_rfl
      case h376 => kernel_rfl
      case hs76 => assumption
      case hy76 => (refine Or.inl ⟨by rfl, fun w hSw => ?_⟩; first | (go_simp; done) | (go_simp; with_reducible rfl))
      case rest76 =>
      try simp only [Act.put, List.setIfInBounds_toArray, List.set_cons_zero, List.set_cons_succ]
      refine wpAnyH_take (i := 38) (oi := ?oi77) (v := .agg #[.int .u64 x.i, .int .u64 x.t, .slice uo x.b.length uc]) ?ho77 ?h177 ?h277 ?h377 (fun _ _ _ h => h) ?hy77 ?hs77 ?rest77
      case ho77 => (simp only [List.getElem?_toArray, List.getElem?_cons_succ, List.getElem?_cons_zero]; rfl)
      case h177 => kernel_rfl
      case h277 => kernel_rfl
      case h377 => kernel_rfl
      case hs77 => assumption
      case hy77 => (refine Or.inl ⟨by rfl, fun w hSw => ?_⟩; first | (go_simp; done) | (go_simp; with_reducible rfl))
      case rest77 =>
      try simp only [Act.put, List.setIfInBounds_toArray, List.set_cons_zero, List.set_cons_succ]
      refine wpAnyH_ready (rs := [36]) (by kernel_rfl) (by simp) ?_
      refine AllReadyH.cons rfl (fun K hK => ?_) ?_
      · go_simp
        go_at_call 17; (with_reducible refine (HZX.out _ hb7).mono ?_); rintro e w9 ⟨rfl, b0⟩; have hb9 : Below w6.heap.size w6 w9 := Below.trans hb7 (b0.mono (Below.size hb7)); clear b0
        refine hK.out _ _ (HS.out _ hb9) (fun hHeld2 => ?_)
        clear hK K
        try simp only [Act.put, List.setIfInBounds_toArray, List.set_cons_zero, List.set_cons_succ]
        refine wpAnyH_ready (rs := [39]) (by kernel_rfl) (by simp) ?_
        refine AllReadyH.cons rfl (fun K hK => ?_) ?_
        · go_simp
          go_at_call 16; (with_reducible refine (HZX2.out _ hb9).mono ?_); rintro e w10 ⟨rfl, b0⟩; have hb10 : Below w6.heap.size w6 w10 := Below.trans hb9 (b0.mono (Below.size hb9)); clear b0
          refine hK.out _ _ (HS.out _ hb10) (fun hHeld2 => ?_)
          clear hK K
          try simp only [Act.put, List.setIfInBounds_toArray, List.set_cons_zero, List.set_cons_succ]
          refine wpAnyH_take (i := 40) (oi := ?oi78) (v := .bool true) ?ho78 ?h178 ?h278 ?h378 (fun _ _ _ h => h) ?hy78 ?hs78 ?rest78
          case ho78 => (simp only [List.getElem?_toArray, List.getElem?_cons_succ, List.getElem?_cons_zero]; rfl)
          case h178 => kernel_rfl
          case h278 => kernel_rfl
          case h378 => kernel_rfl
          case hs78 => assumption
          case hy78 => (refine Or.inl ⟨by rfl, fun w hSw => ?_⟩; first | (go_simp; done) | (go_simp; with_reducible rfl))
          case rest78 =>
          try simp only [Act.put, List.setIfInBounds_toArray, List.set_cons_zero, List.set_cons_succ]
          refine wpAnyH_take (i := 41) (oi := ?oi79) (v := .bool true) ?ho79 ?h179 ?h279 ?h379 (fun _ _ _ h => h) ?hy79 ?hs79 ?rest79
          case ho79 => (simp only [List.getElem?_toArray, List.getElem?_cons_succ, List.getElem?_cons_zero]; rfl)
          case h179 => kernel_rfl
          case h279 => kernel_rfl
          case h379 => kernel_rfl
          case hs79 => assumption
          case hy79 => (refine Or.inl ⟨by rfl, fun w hSw => ?_⟩; first | (go_simp; done) | (go_simp; with_reducible rfl))
          case rest79 =>
          try simp only [Act.put, List.setIfInBounds_toArray, List.set_cons_zero, List.set_cons_succ]
          refine wpAnyH_take (i := 42) (oi := ?oi80) (v := .bool true) ?ho80 ?h180 ?h280 ?h380 (fun _ _ _ h => h) ?hy80 ?hs80 ?rest80
          case ho80 => (simp only [List.getElem?_toArray, List.getElem?_cons_succ, List.getElem?_cons_zero]; rfl)
          case h180 => kernel_rfl
          case h280 => kernel_rfl
          case h380 => kernel_rfl
          case hs80 => assumption
          case hy80 => (refine Or.inl ⟨by rfl, fun w hSw => ?_⟩; first | (go_simp; done) | (go_simp; with_reducible rfl))
          case rest80 =>
          try simp only [Act.put, List.setIfInBounds_toArray, List.set_cons_zero, List.set_cons_succ]
          refine wpAnyH_done (by kernel_rfl) ?_ _
          refine NoPanic.normal ?_
          go_wp2
          show P (.returned (.bool true)) _
          exact HP.out _ (BA6.out.trans (hb10.mono BA6.out.size))
        exact AllReadyH.nil
      exact AllReadyH.nil
    exact AllReadyH.nil
end Go.Proofs.YtpcipfnahknngaaGreatDoor

/- wal.read behind its loop. No statement of the seat. -/
import Derived.Test.YtpcipfnahknngaaGreatDoorTl1
import Derived.Deep.RegionHeld3
namespace Go.Proofs.YtpcipfnahknngaaGreatDoor
open Go.RowKit Go.Maps

theorem replace26n (m d mb : Nat) (D : List (List UInt8 × Fil)) (k b : List UInt8) (ca : Option Addr) (cc : Nat) (w : World) (hbm : b.length = m) (h : Dp w d mb D) (hv : Bt w (.slice ca m cc) b) (hbl : b.length ≤ 140737488351232) (hn : D.length < 1000000000)
    (hk : ∀ k ∈ keysS D, k.length ≤ 64) (hl : ((getK k D).getD noFil).loose.length < 1000000000000) :
    Calls Tryz.prog 26 #[.pointer (some ⟨d, 0, none⟩), .string (tx k), .slice ca m cc] w fun e w' => e = .returned (.int .i64 (replaceE k b D)) ∧ Dp w' d mb (replaceD k b D) ∧ Fm mb w w' := by
  subst hbm
  exact replace26 d mb D k b ca cc w h hv hbl hn hk hl

set_option maxRecDepth 1000000 in
set_option maxHeartbeats 6400000 in
theorem tail47_whole (nn n0 q d mb Dd gw gb gs gg n bg bo bc _N : Nat) (b : List UInt8) (k : Nat) (at_ : List Nat) (ua : Option Addr) (uc : Nat) (l : List Ent) (la : Option Addr) (lc : Nat) (ss : List Seg) (us : List Value) (sa : Option Addr) (sc : Nat) (D : List (List UInt8 × Fil)) (w0 W : World) (P : Ending → World → Prop)
    (u0 u3 u4 u6 u9 u10 u11 u12 u13 u14 u15 u16 u17 u18 u19 u20 u21 u22 u23 u24 u25 u26 u27 u28 u29 u30 u31 u32 u33 u34 u35 u36 u37 u38 u39 u40 u41 u42 u43 u44 u45 u46 u47 u48 u49 u50 u51 u52 u53 u54 u55 u56 u57 u58 u59 u60 u61 u62 u63 u64 u65 u66 u67 u68 u69 u70 u71 u72 u73 u74 u75 u76 u77 u78 u79 u80 u81 u82 u83 u84 u85 u86 u87 u88 u89 u90 u91 u92 u93 u94 u95 u96 u97 u98 u99 u100 u101 u102 u103 u104 u105 u106 u107 u108 u109 u110 u111 u112 u113 u114 u115 u116 u117 u118 u119 u120 u121 u122 u123 u124 u125 u126 u127 u128 : Value)
    (h : Tl n0 q d mb Dd gw gb gs gg n (.slice (some ⟨bg, bo, none⟩) b.length bc) b k (.slice ua at_.length uc) l la lc ss us sa sc D w0 W) (hn2 : 2 < n0) (hq : n0 ≤ q) (hm : LowM n0 mb) (hD : n0 ≤ Dd) (_hn : n ≤ 99999999) (hkb : k ≤ b.length) (hb : b.length ≤ 1048576) (hk : k = b.length) (hk0 : 0 < k) (hss : ss.length < 1000000000) (hu : W.ownsRow n0 22 1 (.slice ua at_.length uc) at_.length (nv at_)) (hnew : ∀ (k : Nat) (u' : Value) (g : Nat), us[k]? = some u' → u'.ownBlock = some g → Value.ownBlock (.slice ua at_.length uc) ≠ some g) (hgs : (Value.slice sa ss.length sc).ownBlock ≠ some gs)
    (hP : ∀ w', Fr walT w0 w' → Lo n0 mb w0 w' → WlE n0 w' q d mb D (ss ++ [⟨n, at_⟩]) l → P (.returned (.bool false)) w') :
    Code.wp Tryz.prog tail47C (bodyPostM Fence.wide nn Tryz.prog Tryz.f47 P) ⟨#[u0, .int .i64 (n : Nat), .pointer (some ⟨gw, 0, none⟩), u3, u4, .pointer (some ⟨gb, 0, none⟩), u6, .pointer (some ⟨gs, 0, none⟩), .pointer (some ⟨gg, 0, none⟩), u9, u10, u11, u12, u13, u14, u15, u16, u17, u18, u19, u20, u21, u22, u23, u24, u25, u26, u27, u28, u29, u30, u31, u32, u33, u34, u35, u36, u37, u38, u39, u40, u41, u42, u43, u44, u45, u46, u47, u48, u49, u50, u51, u52, u53, u54, u55, u56, u57, u58, u59, u60, u61, u62, u63, u64, u65, u66, u67, u68, u69, u70, u71, u72, u73, u74, u75, u76, u77, u78, u79, u80, u81, u82, u83, u84, u85, u86, u87, u88, u89, u90, u91, u92, u93, u94, u95, u96, u97, u98, u99, u100, u101, u102, u103, u104, u105, u106, u107, u108, u109, u110, u111, u112, u113, u114, u115, u116, u117, u118, u119, u120, u121, u122, u123, u124, u125, u126, u127, u128], [{ target := .collected Dd, args := #[] }]⟩ W := by
  have HT := Lib.hid h
  have HP := Lib.hid hP
  have cg := h.bg.cell 0 rfl
  have cb := h.bb.cell 0 rfl
  have HU := Lib.hid hu
  have HNEW := Lib.hid hnew
  subst hk
  have h63 : b.length ≤ 9223372036854775807 := by omega
  have hd0 : decide ((0 : Int) < (b.length : Int)) = true := decide_eq_true (by omega)
  have hd1 : decide (0 < b.length) = true := decide_eq_true (by omega)
  clear h hP hu hnew
  conv => arg 4; zeta
  conv => arg 2; whnf
  go_wp2_with fail
  refine wp_region_noPanic ?_
  refine wp_region_any (by kernel_rfl) ?_
  refine wpAny_of_P (S := fun W => Box W gw 32 #[.pointer (some ⟨q, 0, none⟩)] ∧ Box W q 37 #[.pointer (some ⟨d, 0, none⟩), .slice sa ss.length sc, .slice la l.length lc] ∧ Box W gs 81 #[.int .i64 n, .slice ua at_.length uc]) (A := fun i => decide (i < 10)) _ _ _ _ ?_
  have HSS : Hid (∀ W', Below W.heap.size W W' → (fun W => Box W gw 32 #[.pointer (some ⟨q, 0, none⟩)] ∧ Box W q 37 #[.pointer (some ⟨d, 0, none⟩), .slice sa ss.length sc, .slice la l.length lc] ∧ Box W gs 81 #[.int .i64 n, .slice ua at_.length uc]) W') := Lib.hid (fun W' hW => by
    have h3 := HT.out.below hW hm
    exact ⟨h3.bw, h3.bq, h3.bs⟩)
  have hHeld := HSS.out _ (below_drewN W 1)
  have hWn : n0 ≤ W.heap.size := Nat.le_trans hq (Nat.le_of_lt HT.out.bq.lt)
  refine wpAnyP_take (i := 0) (oi := ?oi1) (v := .pointer (some ⟨q, 0, none⟩)) ?ho1 ?h11 (fun _ _ _ h => h) ?hy1 ?hs1 ?rest1
  case ho1 => (simp only [List.getElem?_toArray, List.getElem?_cons_zero]; rfl)
  case h11 => kernel_rfl
  case hs1 => assumption
  case hy1 => (refine Or.inl ⟨by rfl, fun w hSw => ?_⟩; obtain ⟨p1, p2, p3⟩ := hSw; have c1 := p1.cell 0 rfl; have c2 := p2.cell 1 rfl; have c3 := p3.cell 0 rfl; have c4 := p3.cell 1 rfl; clear p1 p2 p3; first | (go_simp; done) | (go_simp; with_reducible rfl))
  case rest1 =>
  try simp only [Act.put, List.setIfInBounds_toArray, List.set_cons_zero, List.set_cons_succ]
  refine wpAnyP_take (i := 1) (oi := ?oi2) (v := .pointer (some ⟨q, 0, none⟩)) ?ho2 ?h12 (fun _ _ _ h => h) ?hy2 ?hs2 ?rest2
  case ho2 => (simp only [List.getElem?_toArray, List.getElem?_cons_succ, List.getElem?_cons_zero]; rfl)
  case h12 => kernel_rfl
  case hs2 => assumption
  case hy2 => (refine Or.inl ⟨by rfl, fun w hSw => ?_⟩; obtain ⟨p1, p2, p3⟩ := hSw; have c1 := p1.cell 0 rfl; have c2 := p2.cell 1 rfl; have c3 := p3.cell 0 rfl; have c4 := p3.cell 1 rfl; clear p1 p2 p3; first | (go_simp; done) | (go_simp; with_reducible rfl))
  case rest2 =>
  try simp only [Act.put, List.setIfInBounds_toArray, List.set_cons_zero, List.set_cons_succ]
  refine wpAnyP_take (i := 2) (oi := ?oi3) (v := .pointer (some ⟨q, 0, none⟩)) ?ho3 ?h13 (fun _ _ _ h => h) ?hy3 ?hs3 ?rest3
  case ho3 => (simp only [List.getElem?_toArray, List.getElem?_cons_succ, List.getElem?_cons_zero]; rfl)
  case h13 => kernel_rfl
  case hs3 => assumption
  case hy3 => (refine Or.inl ⟨by rfl, fun w hSw => ?_⟩; obtain ⟨p1, p2, p3⟩ := hSw; have c1 := p1.cell 0 rfl; have c2 := p2.cell 1 rfl; have c3 := p3.cell 0 rfl; have c4 := p3.cell 1 rfl; clear p1 p2 p3; first | (go_simp; done) | (go_simp; with_reducible rfl))
  case rest3 =>
  try simp only [Act.put, List.setIfInBounds_toArray, List.set_cons_zero, List.set_cons_succ]
  refine wpAnyP_take (i := 3) (oi := ?oi4) (v := .pointer (some ⟨q, 1, none⟩)) ?ho4 ?h14 (fun _ _ _ h => h) ?hy4 ?hs4 ?rest4
  case ho4 => (simp only [List.getElem?_toArray, List.getElem?_cons_succ, List.getElem?_cons_zero]; rfl)
  case h14 => kernel_rfl
  case hs4 => assumption
  case hy4 => (refine Or.inl ⟨by rfl, fun w hSw => ?_⟩; obtain ⟨p1, p2, p3⟩ := hSw; have c1 := p1.cell 0 rfl; have c2 := p2.cell 1 rfl; have c3 := p3.cell 0 rfl; have c4 := p3.cell 1 rfl; clear p1 p2 p3; first | (go_simp; done) | (go_simp; with_reducible rfl))
  case rest4 =>
  try simp only [Act.put, List.setIfInBounds_toArray, List.set_cons_zero, List.set_cons_succ]
  refine wpAnyP_take (i := 4) (oi := ?oi5) (v := .slice sa ss.length sc) ?ho5 ?h15 (fun _ _ _ h => h) ?hy5 ?hs5 ?rest5
  case ho5 => (simp only [List.getElem?_toArray, List.getElem?_cons_succ, List.getElem?_cons_zero]; rfl)
  case h15 => kernel_rfl
  case hs5 => assumption
  case hy5 => (refine Or.inl ⟨by rfl, fun w hSw => ?_⟩; obtain ⟨p1, p2, p3⟩ := hSw; have c1 := p1.cell 0 rfl; have c2 := p2.cell 1 rfl; have c3 := p3.cell 0 rfl; have c4 := p3.cell 1 rfl; clear p1 p2 p3; first | (go_simp; done) | (go_simp; with_reducible rfl))
  case rest5 =>
  try simp only [Act.put, List.setIfInBounds_toArray, List.set_cons_zero, List.set_cons_succ]
  refine wpAnyP_take (i := 5) (oi := ?oi6) (v := .agg #[.int .i64 n, .slice ua at_.length uc]) ?ho6 ?h16 (fun _ _ _ h => h) ?hy6 ?hs6 ?rest6
  case ho6 => (simp only [List.getElem?_toArray, List.getElem?_cons_succ, List.getElem?_cons_zero]; rfl)
  case h16 => kernel_rfl
  case hs6 => assumption
  case hy6 => (refine Or.inl ⟨by rfl, fun w hSw => ?_⟩; obtain ⟨p1, p2, p3⟩ := hSw; have c1 := p1.cell 0 rfl; have c2 := p2.cell 1 rfl; have c3 := p3.cell 0 rfl; have c4 := p3.cell 1 rfl; clear p1 p2 p3; first | (go_simp; done) | (go_simp; with_reducible rfl))
  case rest6 =>
  try simp only [Act.put, List.setIfInBounds_toArray, List.set_cons_zero, List.set_cons_succ]
  refine wpAnyP_ready (rs := [6]) (by kernel_rfl) (by simp) ?_
  refine AllReadyP.cons rfl (fun K hK => ?_) ?_
  · go_simp
    refine hK.out _ _ (fun _ => HSS.out _ (((Below.refl W.heap.size W).alloc (Nat.le_refl _) (Obj.cells #[.int .i64 n, .slice ua at_.length uc] 81)).drew)) (fun hHeld => ?_)
    replace hHeld := hHeld rfl
    clear hK K
    try simp only [Act.put, List.setIfInBounds_toArray, List.set_cons_zero, List.set_cons_succ]
    refine wpAnyP_ready (rs := [7]) (by kernel_rfl) (by simp) ?_
    refine AllReadyP.cons rfl (fun K hK => ?_) ?_
    · refine step_seg2 rfl (.tmp 87) (.tmp 89) rfl n0 ss us sa sc W.heap.size n (.slice ua at_.length uc) rfl W (((Below.refl W.heap.size W).alloc (Nat.le_refl _) (Obj.cells #[.int .i64 n, .slice ua at_.length uc] 81)).drew) (by simp [Act.eval]) HT.out.sg.2.1 (by simp [Act.eval]) (show Box ((W.alloc (Obj.cells #[.int .i64 n, .slice ua at_.length uc] 81)).drew) W.heap.size 81 _ from Box.new W _ _ _ rfl) (by omega) (by simp; omega) ?_
      intro W5 g5 c5 w5 hb25 own5 grow5
      have ty5 := Ty.of_own (own_fr HT.out.sg.2.1 (Fr.of_below (M := noTypes) hb25 (Nat.le_refl _)) id)
      have tl5 := Tl.seg (HT.out.below hb25 hm) hn2 hq (own_fr HU.out (Fr.of_below (M := noTypes) hb25 (Nat.le_refl _)) id) HNEW.out own5 grow5 hgs
      have s5 := HSS.out _ hb25
      have q5 := s5.2.1.grown grow5 ty5 (by decide)
      refine hK.out _ _ (fun _ => ⟨s5.1.grown grow5 ty5 (by decide), q5, (grow5.block gs (lt_of_get s5.2.2) fun e => hgs e.symm).trans s5.2.2⟩) (fun hHeld => ?_)
      replace hHeld := hHeld rfl
      clear hK K
      try simp only [Act.put, List.setIfInBounds_toArray]
      refine wpAnyP_take (i := 8) (oi := ?oi7) (v := .pointer (some ⟨q, 0, none⟩)) ?ho7 ?h17 (fun _ _ _ h => h) ?hy7 ?hs7 ?rest7
      case ho7 => (simp only [List.getElem?_toArray, List.getElem?_cons_succ, List.getElem?_cons_zero]; rfl)
      case h17 => kernel_rfl
      case hs7 => assumption
      case hy7 => (refine Or.inl ⟨by rfl, fun w hSw => ?_⟩; obtain ⟨p1, p2, p3⟩ := hSw; have c1 := p1.cell 0 rfl; have c2 := p2.cell 1 rfl; have c3 := p3.cell 0 rfl; have c4 := p3.cell 1 rfl; clear p1 p2 p3; first | (go_simp; done) | (go_simp; with_reducible rfl))
      case rest7 =>
      try simp only [Act.put]
      refine wpAnyP_take (i := 9) (oi := ?oi8) (v := .pointer (some ⟨q, 1, none⟩)) ?ho8 ?h18 (fun _ _ _ h => h) ?hy8 ?hs8 ?rest8
      case ho8 => (simp only [List.getElem?_toArray, List.getElem?_cons_succ, List.getElem?_cons_zero]; rfl)
      case h18 => kernel_rfl
      case hs8 => assumption
      case hy8 => (refine Or.inl ⟨by rfl, fun w hSw => ?_⟩; obtain ⟨p1, p2, p3⟩ := hSw; have c1 := p1.cell 0 rfl; have c2 := p2.cell 1 rfl; have c3 := p3.cell 0 rfl; have c4 := p3.cell 1 rfl; clear p1 p2 p3; first | (go_simp; done) | (go_simp; with_reducible rfl))
      case rest8 =>
      try simp only [Act.put]
      have c5q := q5.cell 1 rfl
      have f5q := q5.froz 1
      refine wpAnyP_ready (rs := [10]) (by kernel_rfl) (by simp) ?_
      refine AllReadyP.cons rfl (fun K hK => ?_) ?_
      · go_simp
        refine hK.out _ _ (fun h => absurd h (by decide)) (fun hHeld => ?_)
        clear hHeld
        clear hK K
        try simp only [Act.put, List.setIfInBounds_toArray, List.set_cons_zero, List.set_cons_succ]
        refine wpAnyP_done (by kernel_rfl) ?_ _
        refine NoPanic.normal ?_
        obtain ⟨w6, hw6⟩ : ∃ w6, w6 = w5.setCell ⟨q, 1, none⟩ (.slice (some ⟨g5, 0, none⟩) (ss.length + 1) c5) := ⟨_, rfl⟩
        rw [← hw6] at tl5 ⊢
        have T6 := Lib.hid tl5
        have HW6 := Lib.hid hw6
        clear tl5 hw6 own5 grow5 ty5 s5 q5 c5q f5q hHeld HSS
        go_wp2
        have hdf := T6.out.df
        refine ⟨by simp, .inl ⟨_, _, rfl, run_takeDeferred hdf, ?_⟩⟩
        obtain ⟨z1, z2, z3⟩ := T6.out.wl hq hm hD (.deferred none)
        exact ⟨.bool false, by simp [results, Tryz.results47, go_sem], HP.out _ z1 z2 z3⟩
      exact AllReadyP.nil
    exact AllReadyP.nil
  exact AllReadyP.nil

set_option maxRecDepth 1000000 in
set_option maxHeartbeats 6400000 in
theorem tail47_cut (nn n0 q d mb Dd gw gb gs gg n bg bo bc N : Nat) (b : List UInt8) (k : Nat) (at_ : List Nat) (ua : Option Addr) (uc : Nat) (l : List Ent) (la : Option Addr) (lc : Nat) (ss : List Seg) (us : List Value) (sa : Option Addr) (sc : Nat) (D : List (List UInt8 × Fil)) (w0 W : World) (P : Ending → World → Prop)
    (u0 u3 u4 u6 u9 u10 u11 u12 u13 u14 u15 u16 u17 u18 u19 u20 u21 u22 u23 u24 u25 u26 u27 u28 u29 u30 u31 u32 u33 u34 u35 u36 u37 u38 u39 u40 u41 u42 u43 u44 u45 u46 u47 u48 u49 u50 u51 u52 u53 u54 u55 u56 u57 u58 u59 u60 u61 u62 u63 u64 u65 u66 u67 u68 u69 u70 u71 u72 u73 u74 u75 u76 u77 u78 u79 u80 u81 u82 u83 u84 u85 u86 u87 u88 u89 u90 u91 u92 u93 u94 u95 u96 u97 u98 u99 u100 u101 u102 u103 u104 u105 u106 u107 u108 u109 u110 u111 u112 u113 u114 u115 u116 u117 u118 u119 u120 u121 u122 u123 u124 u125 u126 u127 u128 : Value)
    (h : Tl n0 q d mb Dd gw gb gs gg n (.slice (some ⟨bg, bo, none⟩) b.length bc) b k (.slice ua at_.length uc) l la lc ss us sa sc D w0 W) (hn2 : 2 < n0) (hq : n0 ≤ q) (hm : LowM n0 mb) (hD : n0 ≤ Dd) (hn : n ≤ 99999999) (hkb : k ≤ b.length) (hb : b.length ≤ 1048576) (hk : k ≠ b.length) (hk0 : 0 < k) (hbc : k ≤ bc) (hg : Dg N D) (hN : N < 1000000) (hss : ss.length < 1000000000) (hu : W.ownsRow n0 22 1 (.slice ua at_.length uc) at_.length (nv at_)) (hnew : ∀ (k : Nat) (u' : Value) (g : Nat), us[k]? = some u' → u'.ownBlock = some g → Value.ownBlock (.slice ua at_.length uc) ≠ some g) (hgs : (Value.slice sa ss.length sc).ownBlock ≠ some gs)
    (hP : ∀ w', Fr walT w0 w' → Lo n0 mb w0 w' → WlE n0 w' q d mb (syncD (segName n) (replaceD (segName n) (b.take k) D)) (ss ++ [⟨n, at_⟩]) l → P (.returned (.bool true)) w') :
    Code.wp Tryz.prog tail47C (bodyPostM Fence.wide nn Tryz.prog Tryz.f47 P) ⟨#[u0, .int .i64 (n : Nat), .pointer (some ⟨gw, 0, none⟩), u3, u4, .pointer (some ⟨gb, 0, none⟩), u6, .pointer (some ⟨gs, 0, none⟩), .pointer (some ⟨gg, 0, none⟩), u9, u10, u11, u12, u13, u14, u15, u16, u17, u18, u19, u20, u21, u22, u23, u24, u25, u26, u27, u28, u29, u30, u31, u32, u33, u34, u35, u36, u37, u38, u39, u40, u41, u42, u43, u44, u45, u46, u47, u48, u49, u50, u51, u52, u53, u54, u55, u56, u57, u58, u59, u60, u61, u62, u63, u64, u65, u66, u67, u68, u69, u70, u71, u72, u73, u74, u75, u76, u77, u78, u79, u80, u81, u82, u83, u84, u85, u86, u87, u88, u89, u90, u91, u92, u93, u94, u95, u96, u97, u98, u99, u100, u101, u102, u103, u104, u105, u106, u107, u108, u109, u110, u111, u112, u113, u114, u115, u116, u117, u118, u119, u120, u121, u122, u123, u124, u125, u126, u127, u128], [{ target := .collected Dd, args := #[] }]⟩ W := by
  have HT := Lib.hid h
  have HP := Lib.hid hP
  have cg := h.bg.cell 0 rfl
  have cb := h.bb.cell 0 rfl
  have HU := Lib.hid hu
  have HNEW := Lib.hid hnew
  have HG := Lib.hid hg
  have HDL : Hid ((replaceD (segName n) (b.take k) D).length ≤ N + 1) := Lib.hid (hg.replace (segName n) (b.take k)).len
  have hbt : (b.take k).length = k := by simp; omega
  have HBL := Lib.hid hbt
  have hBk : ∀ W', Below W.heap.size W W' → Bt W' (.slice (some ⟨bg, bo, none⟩) k bc) (b.take k) := fun W' hW => by
    obtain ⟨x1, x2, ao, cap, hv, x3, x4, x5, x6⟩ := (h.below hW hm).hb.1
    cases hv
    refine ⟨by simp, bv_one _, some ⟨bg, bo, none⟩, bc, by rw [hbt], by rw [hbt]; exact hbc, x4, x5, ?_⟩
    rw [hbt]
    rcases x6 with x6 | ⟨g, off, e, x6⟩
    · exact Or.inl (by omega)
    · cases e
      refine Or.inr ⟨bg, bo, rfl, fun j y hj => x6 j y ?_⟩
      have hjl := (List.getElem?_eq_some_iff.1 hj).1
      rw [bv_length] at hjl
      rw [bv_get _ j hjl] at hj
      rw [bv_get b j (by omega)]
      rw [← hj]
      simp
  have HBK := Lib.hid hBk
  have hne : ((k : Int) == (b.length : Int)) = false := by rw [beq_eq_false_iff_ne]; omega
  have hd0 : decide ((0 : Int) < (k : Int)) = true := decide_eq_true (by omega)
  have hd1 : decide (0 < k) = true := decide_eq_true (by omega)
  have t1 : (0 : Int) ≤ (k : Int) := by omega
  have t2 : (k : Int) ≤ (bc : Int) := by omega
  clear h hP hu hnew hg hBk hbt hk
  conv => arg 4; zeta
  conv => arg 2; whnf
  go_wp2_with fail
  have HCSw3 : Hid (∀ W', Below W.heap.size W W' → (fun W => W.cell? ⟨gw, 0, none⟩ = some (.pointer (some ⟨q, 0, none⟩)) ∧ W.cell? ⟨q, 0, none⟩ = some (.pointer (some ⟨d, 0, none⟩)) ∧ W.cell? ⟨gb, 0, none⟩ = some (.slice (some ⟨bg, bo, none⟩) b.length bc) ∧ W.cell? ⟨gg, 0, none⟩ = some (.int .i64 k)) W') := Lib.hid (fun W' hW => by
    have z := HT.out.below hW hm
    exact ⟨z.bw.cell 0 rfl, z.bq.cell 0 rfl, z.bb.cell 0 rfl, z.bg.cell 0 rfl⟩)
  go_region_held3 (fun W => W.cell? ⟨gw, 0, none⟩ = some (.pointer (some ⟨q, 0, none⟩)) ∧ W.cell? ⟨q, 0, none⟩ = some (.pointer (some ⟨d, 0, none⟩)) ∧ W.cell? ⟨gb, 0, none⟩ = some (.slice (some ⟨bg, bo, none⟩) b.length bc) ∧ W.cell? ⟨gg, 0, none⟩ = some (.int .i64 k)) (first | exact HCSw3.out _ (Below.refl _ _).drew | exact (by have z := T4.out; exact ⟨z.bw.cell 0 rfl, z.bq.cell 0 rfl, z.bb.cell 0 rfl, z.bg.cell 0 rfl⟩) | exact HCSw3.out _ hbw3)
    (first
      | (go_at_call 52; (with_reducible refine (name52i n _ rfl hn _ (HT.out.tab.below (Below.refl _ _).drew (Nat.le_refl _))).mono ?_); rintro ee w3 ⟨rfl, b0⟩; have hbw3 : Below W.heap.size W w3 := (Below.refl _ _).drew.trans b0; clear b0)
      | (go_at_call 26; (with_reducible refine (replace26n k d mb D (segName n) (b.take k) _ bc _ HBL.out (HT.out.below hbw3 hm).dp (HBK.out _ hbw3) (by have := HBL.out; omega) (by have := HG.out.len; omega) HG.out.keysS (by have := HG.out.getLoose (segName n); omega)).mono ?_); rintro ee w4 ⟨rfl, hd0, hf0⟩; have T4 := Lib.hid ((HT.out.below hbw3 hm).fm hf0 hd0 hm); have Fw4 := Lib.hid ((Fm.of_below (m := mb) hbw3 (Nat.le_refl _)).trans hf0); clear hd0 hf0))
  clear HCSw3
  clear HT t1 t2
  replace HU := Lib.hid (own_fr HU.out Fw4.out.fr id)
  go_wp2_with fail
  refine wp_region_noPanic ?_
  refine wp_region_any (by kernel_rfl) ?_
  refine wpAny_of_P (S := fun W => Box W gw 32 #[.pointer (some ⟨q, 0, none⟩)] ∧ Box W q 37 #[.pointer (some ⟨d, 0, none⟩), .slice sa ss.length sc, .slice la l.length lc] ∧ Box W gs 81 #[.int .i64 n, .slice ua at_.length uc]) (A := fun i => decide (i < 10)) _ _ _ _ ?_
  have HSS : Hid (∀ W', Below w4.heap.size w4 W' → (fun W => Box W gw 32 #[.pointer (some ⟨q, 0, none⟩)] ∧ Box W q 37 #[.pointer (some ⟨d, 0, none⟩), .slice sa ss.length sc, .slice la l.length lc] ∧ Box W gs 81 #[.int .i64 n, .slice ua at_.length uc]) W') := Lib.hid (fun W' hW => by
    have h3 := T4.out.below hW hm
    exact ⟨h3.bw, h3.bq, h3.bs⟩)
  have hHeld := HSS.out _ (below_drewN w4 1)
  have hWn : n0 ≤ w4.heap.size := Nat.le_trans hq (Nat.le_of_lt T4.out.bq.lt)
  refine wpAnyP_take (i := 0) (oi := ?oi9) (v := .pointer (some ⟨q, 0, none⟩)) ?ho9 ?h19 (fun _ _ _ h => h) ?hy9 ?hs9 ?rest9
  case ho9 => (simp only [List.getElem?_toArray, List.getElem?_cons_zero]; rfl)
  case h19 => kernel_rfl
  case hs9 => assumption
  case hy9 => (refine Or.inl ⟨by rfl, fun w hSw => ?_⟩; obtain ⟨p1, p2, p3⟩ := hSw; have c1 := p1.cell 0 rfl; have c2 := p2.cell 1 rfl; have c3 := p3.cell 0 rfl; have c4 := p3.cell 1 rfl; clear p1 p2 p3; first | (go_simp; done) | (go_simp; with_reducible rfl))
  case rest9 =>
  try simp only [Act.put, List.setIfInBounds_toArray, List.set_cons_zero, List.set_cons_succ]
  refine wpAnyP_take (i := 1) (oi := ?oi10) (v := .pointer (some ⟨q, 0, none⟩)) ?ho10 ?h110 (fun _ _ _ h => h) ?hy10 ?hs10 ?rest10
  case ho10 => (simp only [List.getElem?_toArray, List.getElem?_cons_succ, List.getElem?_cons_zero]; rfl)
  case h110 => kernel_rfl
  case hs10 => assumption
  case hy10 => (refine Or.inl ⟨by rfl, fun w hSw => ?_⟩; obtain ⟨p1, p2, p3⟩ := hSw; have c1 := p1.cell 0 rfl; have c2 := p2.cell 1 rfl; have c3 := p3.cell 0 rfl; have c4 := p3.cell 1 rfl; clear p1 p2 p3; first | (go_simp; done) | (go_simp; with_reducible rfl))
  case rest10 =>
  try simp only [Act.put, List.setIfInBounds_toArray, List.set_cons_zero, List.set_cons_succ]
  refine wpAnyP_take (i := 2) (oi := ?oi11) (v := .pointer (some ⟨q, 0, none⟩)) ?ho11 ?h111 (fun _ _ _ h => h) ?hy11 ?hs11 ?rest11
  case ho11 => (simp only [List.getElem?_toArray, List.getElem?_cons_succ, List.getElem?_cons_zero]; rfl)
  case h111 => kernel_rfl
  case hs11 => assumption
  case hy11 => (refine Or.inl ⟨by rfl, fun w hSw => ?_⟩; obtain ⟨p1, p2, p3⟩ := hSw; have c1 := p1.cell 0 rfl; have c2 := p2.cell 1 rfl; have c3 := p3.cell 0 rfl; have c4 := p3.cell 1 rfl; clear p1 p2 p3; first | (go_simp; done) | (go_simp; with_reducible rfl))
  case rest11 =>
  try simp only [Act.put, List.setIfInBounds_toArray, List.set_cons_zero, List.set_cons_succ]
  refine wpAnyP_take (i := 3) (oi := ?oi12) (v := .pointer (some ⟨q, 1, none⟩)) ?ho12 ?h112 (fun _ _ _ h => h) ?hy12 ?hs12 ?rest12
  case ho12 => (simp only [List.getElem?_toArray, List.getElem?_cons_succ, List.getElem?_cons_zero]; rfl)
  case h112 => kernel_rfl
  case hs12 => assumption
  case hy12 => (refine Or.inl ⟨by rfl, fun w hSw => ?_⟩; obtain ⟨p1, p2, p3⟩ := hSw; have c1 := p1.cell 0 rfl; have c2 := p2.cell 1 rfl; have c3 := p3.cell 0 rfl; have c4 := p3.cell 1 rfl; clear p1 p2 p3; first | (go_simp; done) | (go_simp; with_reducible rfl))
  case rest12 =>
  try simp only [Act.put, List.setIfInBounds_toArray, List.set_cons_zero, List.set_cons_succ]
  refine wpAnyP_take (i := 4) (oi := ?oi13) (v := .slice sa ss.length sc) ?ho13 ?h113 (fun _ _ _ h => h) ?hy13 ?hs13 ?rest13
  case ho13 => (simp only [List.getElem?_toArray, List.getElem?_cons_succ, List.getElem?_cons_zero]; rfl)
  case h113 => kernel_rfl
  case hs13 => assumption
  case hy13 => (refine Or.inl ⟨by rfl, fun w hSw => ?_⟩; obtain ⟨p1, p2, p3⟩ := hSw; have c1 := p1.cell 0 rfl; have c2 := p2.cell 1 rfl; have c3 := p3.cell 0 rfl; have c4 := p3.cell 1 rfl; clear p1 p2 p3; first | (go_simp; done) | (go_simp; with_reducible rfl))
  case rest13 =>
  try simp only [Act.put, List.setIfInBounds_toArray, List.set_cons_zero, List.set_cons_succ]
  refine wpAnyP_take (i := 5) (oi := ?oi14) (v := .agg #[.int .i64 n, .slice ua at_.length uc]) ?ho14 ?h114 (fun _ _ _ h => h) ?hy14 ?hs14 ?rest14
  case ho14 => (simp only [List.getElem?_toArray, List.getElem?_cons_succ, List.getElem?_cons_zero]; rfl)
  case h114 => kernel_rfl
  case hs14 => assumption
  case hy14 => (refine Or.inl ⟨by rfl, fun w hSw => ?_⟩; obtain ⟨p1, p2, p3⟩ := hSw; have c1 := p1.cell 0 rfl; have c2 := p2.cell 1 rfl; have c3 := p3.cell 0 rfl; have c4 := p3.cell 1 rfl; clear p1 p2 p3; first | (go_simp; done) | (go_simp; with_reducible rfl))
  case rest14 =>
  try simp only [Act.put, List.setIfInBounds_toArray, List.set_cons_zero, List.set_cons_succ]
  refine wpAnyP_ready (rs := [6]) (by kernel_rfl) (by simp) ?_
  refine AllReadyP.cons rfl (fun K hK => ?_) ?_
  · go_simp
    refine hK.out _ _ (fun _ => HSS.out _ (((Below.refl w4.heap.size w4).alloc (Nat.le_refl _) (Obj.cells #[.int .i64 n, .slice ua at_.length uc] 81)).drew)) (fun hHeld => ?_)
    replace hHeld := hHeld rfl
    clear hK K
    try simp only [Act.put, List.setIfInBounds_toArray, List.set_cons_zero, List.set_cons_succ]
    refine wpAnyP_ready (rs := [7]) (by kernel_rfl) (by simp) ?_
    refine AllReadyP.cons rfl (fun K hK => ?_) ?_
    · refine step_seg2 rfl (.tmp 109) (.tmp 111) rfl n0 ss us sa sc w4.heap.size n (.slice ua at_.length uc) rfl w4 (((Below.refl w4.heap.size w4).alloc (Nat.le_refl _) (Obj.cells #[.int .i64 n, .slice ua at_.length uc] 81)).drew) (by simp [Act.eval]) T4.out.sg.2.1 (by simp [Act.eval]) (show Box ((w4.alloc (Obj.cells #[.int .i64 n, .slice ua at_.length uc] 81)).drew) w4.heap.size 81 _ from Box.new w4 _ _ _ rfl) (by omega) (by simp; omega) ?_
      intro W5 g5 c5 w5 hb25 own5 grow5
      have ty5 := Ty.of_own (own_fr T4.out.sg.2.1 (Fr.of_below (M := noTypes) hb25 (Nat.le_refl _)) id)
      have tl5 := Tl.seg (T4.out.below hb25 hm) hn2 hq (own_fr HU.out (Fr.of_below (M := noTypes) hb25 (Nat.le_refl _)) id) HNEW.out own5 grow5 hgs
      have s5 := HSS.out _ hb25
      have q5 := s5.2.1.grown grow5 ty5 (by decide)
      refine hK.out _ _ (fun _ => ⟨s5.1.grown grow5 ty5 (by decide), q5, (grow5.block gs (lt_of_get s5.2.2) fun e => hgs e.symm).trans s5.2.2⟩) (fun hHeld => ?_)
      replace hHeld := hHeld rfl
      clear hK K
      try simp only [Act.put, List.setIfInBounds_toArray]
      refine wpAnyP_take (i := 8) (oi := ?oi15) (v := .pointer (some ⟨q, 0, none⟩)) ?ho15 ?h115 (fun _ _ _ h => h) ?hy15 ?hs15 ?rest15
      case ho15 => (simp only [List.getElem?_toArray, List.getElem?_cons_succ, List.getElem?_cons_zero]; rfl)
      case h115 => kernel_rfl
      case hs15 => assumption
      case hy15 => (refine Or.inl ⟨by rfl, fun w hSw => ?_⟩; obtain ⟨p1, p2, p3⟩ := hSw; have c1 := p1.cell 0 rfl; have c2 := p2.cell 1 rfl; have c3 := p3.cell 0 rfl; have c4 := p3.cell 1 rfl; clear p1 p2 p3; first | (go_simp; done) | (go_simp; with_reducible rfl))
      case rest15 =>
      try simp only [Act.put]
      refine wpAnyP_take (i := 9) (oi := ?oi16) (v := .pointer (some ⟨q, 1, none⟩)) ?ho16 ?h116 (fun _ _ _ h => h) ?hy16 ?hs16 ?rest16
      case ho16 => (simp only [List.getElem?_toArray, List.getElem?_cons_succ, List.getElem?_cons_zero]; rfl)
      case h116 => kernel_rfl
      case hs16 => assumption
      case hy16 => (refine Or.inl ⟨by rfl, fun w hSw => ?_⟩; obtain ⟨p1, p2, p3⟩ := hSw; have c1 := p1.cell 0 rfl; have c2 := p2.cell 1 rfl; have c3 := p3.cell 0 rfl; have c4 := p3.cell 1 rfl; clear p1 p2 p3; first | (go_simp; done) | (go_simp; with_reducible rfl))
      case rest16 =>
      try simp only [Act.put]
      have c5q := q5.cell 1 rfl
      have f5q := q5.froz 1
      refine wpAnyP_ready (rs := [10]) (by kernel_rfl) (by simp) ?_
      refine AllReadyP.cons rfl (fun K hK => ?_) ?_
      · go_simp
        refine hK.out _ _ (fun h => absurd h (by decide)) (fun hHeld => ?_)
        clear hHeld
        clear hK K
        try simp only [Act.put, List.setIfInBounds_toArray, List.set_cons_zero, List.set_cons_succ]
        refine wpAnyP_done (by kernel_rfl) ?_ _
        refine NoPanic.normal ?_
        obtain ⟨w6, hw6⟩ : ∃ w6, w6 = w5.setCell ⟨q, 1, none⟩ (.slice (some ⟨g5, 0, none⟩) (ss.length + 1) c5) := ⟨_, rfl⟩
        rw [← hw6] at tl5 ⊢
        have T6 := Lib.hid tl5
        have HW6 := Lib.hid hw6
        clear tl5 hw6 own5 grow5 ty5 s5 q5 c5q f5q hHeld HSS
        go_wp2_with fail
        have HCSw7 : Hid (∀ W', Below w6.heap.size w6 W' → (fun W => W.cell? ⟨gw, 0, none⟩ = some (.pointer (some ⟨q, 0, none⟩)) ∧ W.cell? ⟨q, 0, none⟩ = some (.pointer (some ⟨d, 0, none⟩)) ∧ W.cell? ⟨gb, 0, none⟩ = some (.slice (some ⟨bg, bo, none⟩) b.length bc) ∧ W.cell? ⟨gg, 0, none⟩ = some (.int .i64 k)) W') := Lib.hid (fun W' hW => by
          have z := T6.out.below hW hm
          exact ⟨z.bw.cell 0 rfl, z.bq.cell 0 rfl, z.bb.cell 0 rfl, z.bg.cell 0 rfl⟩)
        go_region_held3 (fun W => W.cell? ⟨gw, 0, none⟩ = some (.pointer (some ⟨q, 0, none⟩)) ∧ W.cell? ⟨q, 0, none⟩ = some (.pointer (some ⟨d, 0, none⟩)) ∧ W.cell? ⟨gb, 0, none⟩ = some (.slice (some ⟨bg, bo, none⟩) b.length bc) ∧ W.cell? ⟨gg, 0, none⟩ = some (.int .i64 k)) (first | exact HCSw7.out _ (Below.refl _ _).drew | exact (by have z := T8.out; exact ⟨z.bw.cell 0 rfl, z.bq.cell 0 rfl, z.bb.cell 0 rfl, z.bg.cell 0 rfl⟩) | exact HCSw7.out _ hbw7)
          (first
            | (go_at_call 52; (with_reducible refine (name52i n _ rfl hn _ (T6.out.tab.below (Below.refl _ _).drew (Nat.le_refl _))).mono ?_); rintro ee w7 ⟨rfl, b0⟩; have hbw7 : Below w6.heap.size w6 w7 := (Below.refl _ _).drew.trans b0; clear b0)
            | (go_at_call 28; (with_reducible refine (sync28 d mb _ (segName n) _ (T6.out.below hbw7 hm).dp (by have := HG.out.len; have := HDL.out; unfold maxLen; omega)).mono ?_); rintro ee w8 ⟨rfl, hd0, hf0⟩; have T8 := Lib.hid ((T6.out.below hbw7 hm).fm hf0 hd0 hm); have Fw8 := Lib.hid ((Fm.of_below (m := mb) hbw7 (Nat.le_refl _)).trans hf0); clear hd0 hf0))
        clear HCSw7
        go_wp2
        have hdf := T8.out.df
        refine ⟨by simp, .inl ⟨_, _, rfl, run_takeDeferred hdf, ?_⟩⟩
        obtain ⟨z1, z2, z3⟩ := T8.out.wl hq hm hD (.deferred none)
        exact ⟨.bool true, by simp [results, Tryz.results47, go_sem], HP.out _ z1 z2 z3⟩
      exact AllReadyP.nil
    exact AllReadyP.nil
  exact AllReadyP.nil

set_option maxRecDepth 1000000 in
set_option maxHeartbeats 6400000 in
theorem tail47_none (nn n0 q d mb Dd gw gb gs gg n bc N : Nat) (va : Option Addr) (b : List UInt8) (k : Nat) (at_ : List Nat) (ua : Option Addr) (uc : Nat) (l : List Ent) (la : Option Addr) (lc : Nat) (ss : List Seg) (us : List Value) (sa : Option Addr) (sc : Nat) (D : List (List UInt8 × Fil)) (w0 W : World) (P : Ending → World → Prop)
    (u0 u3 u4 u6 u9 u10 u11 u12 u13 u14 u15 u16 u17 u18 u19 u20 u21 u22 u23 u24 u25 u26 u27 u28 u29 u30 u31 u32 u33 u34 u35 u36 u37 u38 u39 u40 u41 u42 u43 u44 u45 u46 u47 u48 u49 u50 u51 u52 u53 u54 u55 u56 u57 u58 u59 u60 u61 u62 u63 u64 u65 u66 u67 u68 u69 u70 u71 u72 u73 u74 u75 u76 u77 u78 u79 u80 u81 u82 u83 u84 u85 u86 u87 u88 u89 u90 u91 u92 u93 u94 u95 u96 u97 u98 u99 u100 u101 u102 u103 u104 u105 u106 u107 u108 u109 u110 u111 u112 u113 u114 u115 u116 u117 u118 u119 u120 u121 u122 u123 u124 u125 u126 u127 u128 : Value)
    (h : Tl n0 q d mb Dd gw gb gs gg n (.slice va b.length bc) b k (.slice ua at_.length uc) l la lc ss us sa sc D w0 W) (_hn2 : 2 < n0) (hq : n0 ≤ q) (hm : LowM n0 mb) (hD : n0 ≤ Dd) (hn : n ≤ 99999999) (_hkb : k ≤ b.length) (hb : b.length ≤ 1048576) (hk : k = 0) (hg : Dg N D) (hN : N < 1000000)
    (hP : ∀ w', Fr walT w0 w' → Lo n0 mb w0 w' → WlE n0 w' q d mb (syncD (segName n) (removeD (segName n) D)) ss l → P (.returned (.bool true)) w') :
    Code.wp Tryz.prog tail47C (bodyPostM Fence.wide nn Tryz.prog Tryz.f47 P) ⟨#[u0, .int .i64 (n : Nat), .pointer (some ⟨gw, 0, none⟩), u3, u4, .pointer (some ⟨gb, 0, none⟩), u6, .pointer (some ⟨gs, 0, none⟩), .pointer (some ⟨gg, 0, none⟩), u9, u10, u11, u12, u13, u14, u15, u16, u17, u18, u19, u20, u21, u22, u23, u24, u25, u26, u27, u28, u29, u30, u31, u32, u33, u34, u35, u36, u37, u38, u39, u40, u41, u42, u43, u44, u45, u46, u47, u48, u49, u50, u51, u52, u53, u54, u55, u56, u57, u58, u59, u60, u61, u62, u63, u64, u65, u66, u67, u68, u69, u70, u71, u72, u73, u74, u75, u76, u77, u78, u79, u80, u81, u82, u83, u84, u85, u86, u87, u88, u89, u90, u91, u92, u93, u94, u95, u96, u97, u98, u99, u100, u101, u102, u103, u104, u105, u106, u107, u108, u109, u110, u111, u112, u113, u114, u115, u116, u117, u118, u119, u120, u121, u122, u123, u124, u125, u126, u127, u128], [{ target := .collected Dd, args := #[] }]⟩ W := by
  have HT := Lib.hid h
  have HP := Lib.hid hP
  have cg := h.bg.cell 0 rfl
  have cb := h.bb.cell 0 rfl
  have HG := Lib.hid hg
  have HDL : Hid ((removeD (segName n) D).length ≤ N + 1) := Lib.hid (hg.remove (segName n)).len
  have h63 : b.length ≤ 9223372036854775807 := by omega
  have hd0 : decide ((0 : Int) < (k : Int)) = false := decide_eq_false (by omega)
  have hd1 : decide (0 < k) = false := decide_eq_false (by omega)
  clear h hP hg
  by_cases hb0 : b.length = 0
  · have hne : ((k : Int) == (b.length : Int)) = true := by rw [beq_iff_eq]; omega
    clear hb0 hk
    conv => arg 4; zeta
    conv => arg 2; whnf
    go_wp2_with fail
    have HCSw3 : Hid (∀ W', Below W.heap.size W W' → (fun W => W.cell? ⟨gw, 0, none⟩ = some (.pointer (some ⟨q, 0, none⟩)) ∧ W.cell? ⟨q, 0, none⟩ = some (.pointer (some ⟨d, 0, none⟩)) ∧ W.cell? ⟨gb, 0, none⟩ = some (.slice va b.length bc) ∧ W.cell? ⟨gg, 0, none⟩ = some (.int .i64 k)) W') := Lib.hid (fun W' hW => by
      have z := HT.out.below hW hm
      exact ⟨z.bw.cell 0 rfl, z.bq.cell 0 rfl, z.bb.cell 0 rfl, z.bg.cell 0 rfl⟩)
    go_region_held3 (fun W => W.cell? ⟨gw, 0, none⟩ = some (.pointer (some ⟨q, 0, none⟩)) ∧ W.cell? ⟨q, 0, none⟩ = some (.pointer (some ⟨d, 0, none⟩)) ∧ W.cell? ⟨gb, 0, none⟩ = some (.slice va b.length bc) ∧ W.cell? ⟨gg, 0, none⟩ = some (.int .i64 k)) (first | exact HCSw3.out _ (Below.refl _ _).drew | exact (by have z := T4.out; exact ⟨z.bw.cell 0 rfl, z.bq.cell 0 rfl, z.bb.cell 0 rfl, z.bg.cell 0 rfl⟩) | exact HCSw3.out _ hbw3)
      (first
        | (go_at_call 52; (with_reducible refine (name52i n _ rfl hn _ (HT.out.tab.below (Below.refl _ _).drew (Nat.le_refl _))).mono ?_); rintro ee w3 ⟨rfl, b0⟩; have hbw3 : Below W.heap.size W w3 := (Below.refl _ _).drew.trans b0; clear b0)
        | (go_at_call 46; (with_reducible refine (remove46 d mb D (segName n) _ (HT.out.below hbw3 hm).dp (by have := HG.out.len; omega) (by have := HG.out.getLoose (segName n); omega)).mono ?_); rintro ee w4 ⟨rfl, hd0, hf0⟩; have T4 := Lib.hid ((HT.out.below hbw3 hm).fm hf0 hd0 hm); have Fw4 := Lib.hid ((Fm.of_below (m := mb) hbw3 (Nat.le_refl _)).trans hf0); clear hd0 hf0))
    clear HCSw3
    clear HT
    go_wp2_with fail
    have HCSw7 : Hid (∀ W', Below w4.heap.size w4 W' → (fun W => W.cell? ⟨gw, 0, none⟩ = some (.pointer (some ⟨q, 0, none⟩)) ∧ W.cell? ⟨q, 0, none⟩ = some (.pointer (some ⟨d, 0, none⟩)) ∧ W.cell? ⟨gb, 0, none⟩ = some (.slice va b.length bc) ∧ W.cell? ⟨gg, 0, none⟩ = some (.int .i64 k)) W') := Lib.hid (fun W' hW => by
      have z := T4.out.below hW hm
      exact ⟨z.bw.cell 0 rfl, z.bq.cell 0 rfl, z.bb.cell 0 rfl, z.bg.cell 0 rfl⟩)
    go_region_held3 (fun W => W.cell? ⟨gw, 0, none⟩ = some (.pointer (some ⟨q, 0, none⟩)) ∧ W.cell? ⟨q, 0, none⟩ = some (.pointer (some ⟨d, 0, none⟩)) ∧ W.cell? ⟨gb, 0, none⟩ = some (.slice va b.length bc) ∧ W.cell? ⟨gg, 0, none⟩ = some (.int .i64 k)) (first | exact HCSw7.out _ (Below.refl _ _).drew | exact (by have z := T8.out; exact ⟨z.bw.cell 0 rfl, z.bq.cell 0 rfl, z.bb.cell 0 rfl, z.bg.cell 0 rfl⟩) | exact HCSw7.out _ hbw7)
      (first
        | (go_at_call 52; (with_reducible refine (name52i n _ rfl hn _ (T4.out.tab.below (Below.refl _ _).drew (Nat.le_refl _))).mono ?_); rintro ee w7 ⟨rfl, b0⟩; have hbw7 : Below w4.heap.size w4 w7 := (Below.refl _ _).drew.trans b0; clear b0)
        | (go_at_call 28; (with_reducible refine (sync28 d mb _ (segName n) _ (T4.out.below hbw7 hm).dp (by have := HG.out.len; have := HDL.out; unfold maxLen; omega)).mono ?_); rintro ee w8 ⟨rfl, hd0, hf0⟩; have T8 := Lib.hid ((T4.out.below hbw7 hm).fm hf0 hd0 hm); have Fw8 := Lib.hid ((Fm.of_below (m := mb) hbw7 (Nat.le_refl _)).trans hf0); clear hd0 hf0))
    clear HCSw7
    go_wp2
    have hdf := T8.out.df
    refine ⟨by simp, .inl ⟨_, _, rfl, run_takeDeferred hdf, ?_⟩⟩
    obtain ⟨z1, z2, z3⟩ := T8.out.wl hq hm hD (.deferred none)
    exact ⟨.bool true, by simp [results, Tryz.results47, go_sem], HP.out _ z1 z2 z3⟩
  · have hne : ((k : Int) == (b.length : Int)) = false := by rw [beq_eq_false_iff_ne]; omega
    clear hb0 hk
    conv => arg 4; zeta
    conv => arg 2; whnf
    go_wp2_with fail
    have HCSw3 : Hid (∀ W', Below W.heap.size W W' → (fun W => W.cell? ⟨gw, 0, none⟩ = some (.pointer (some ⟨q, 0, none⟩)) ∧ W.cell? ⟨q, 0, none⟩ = some (.pointer (some ⟨d, 0, none⟩)) ∧ W.cell? ⟨gb, 0, none⟩ = some (.slice va b.length bc) ∧ W.cell? ⟨gg, 0, none⟩ = some (.int .i64 k)) W') := Lib.hid (fun W' hW => by
      have z := HT.out.below hW hm
      exact ⟨z.bw.cell 0 rfl, z.bq.cell 0 rfl, z.bb.cell 0 rfl, z.bg.cell 0 rfl⟩)
    go_region_held3 (fun W => W.cell? ⟨gw, 0, none⟩ = some (.pointer (some ⟨q, 0, none⟩)) ∧ W.cell? ⟨q, 0, none⟩ = some (.pointer (some ⟨d, 0, none⟩)) ∧ W.cell? ⟨gb, 0, none⟩ = some (.slice va b.length bc) ∧ W.cell? ⟨gg, 0, none⟩ = some (.int .i64 k)) (first | exact HCSw3.out _ (Below.refl _ _).drew | exact (by have z := T4.out; exact ⟨z.bw.cell 0 rfl, z.bq.cell 0 rfl, z.bb.cell 0 rfl, z.bg.cell 0 rfl⟩) | exact HCSw3.out _ hbw3)
      (first
        | (go_at_call 52; (with_reducible refine (name52i n _ rfl hn _ (HT.out.tab.below (Below.refl _ _).drew (Nat.le_refl _))).mono ?_); rintro ee w3 ⟨rfl, b0⟩; have hbw3 : Below W.heap.size W w3 := (Below.refl _ _).drew.trans b0; clear b0)
        | (go_at_call 46; (with_reducible refine (remove46 d mb D (segName n) _ (HT.out.below hbw3 hm).dp (by have := HG.out.len; omega) (by have := HG.out.getLoose (segName n); omega)).mono ?_); rintro ee w4 ⟨rfl, hd0, hf0⟩; have T4 := Lib.hid ((HT.out.below hbw3 hm).fm hf0 hd0 hm); have Fw4 := Lib.hid ((Fm.of_below (m := mb) hbw3 (Nat.le_refl _)).trans hf0); clear hd0 hf0))
    clear HCSw3
    clear HT
    go_wp2_with fail
    have HCSw7 : Hid (∀ W', Below w4.heap.size w4 W' → (fun W => W.cell? ⟨gw, 0, none⟩ = some (.pointer (some ⟨q, 0, none⟩)) ∧ W.cell? ⟨q, 0, none⟩ = some (.pointer (some ⟨d, 0, none⟩)) ∧ W.cell? ⟨gb, 0, none⟩ = some (.slice va b.length bc) ∧ W.cell? ⟨gg, 0, none⟩ = some (.int .i64 k)) W') := Lib.hid (fun W' hW => by
      have z := T4.out.below hW hm
      exact ⟨z.bw.cell 0 rfl, z.bq.cell 0 rfl, z.bb.cell 0 rfl, z.bg.cell 0 rfl⟩)
    go_region_held3 (fun W => W.cell? ⟨gw, 0, none⟩ = some (.pointer (some ⟨q, 0, none⟩)) ∧ W.cell? ⟨q, 0, none⟩ = some (.pointer (some ⟨d, 0, none⟩)) ∧ W.cell? ⟨gb, 0, none⟩ = some (.slice va b.length bc) ∧ W.cell? ⟨gg, 0, none⟩ = some (.int .i64 k)) (first | exact HCSw7.out _ (Below.refl _ _).drew | exact (by have z := T8.out; exact ⟨z.bw.cell 0 rfl, z.bq.cell 0 rfl, z.bb.cell 0 rfl, z.bg.cell 0 rfl⟩) | exact HCSw7.out _ hbw7)
      (first
        | (go_at_call 52; (with_reducible refine (name52i n _ rfl hn _ (T4.out.tab.below (Below.refl _ _).drew (Nat.le_refl _))).mono ?_); rintro ee w7 ⟨rfl, b0⟩; have hbw7 : Below w4.heap.size w4 w7 := (Below.refl _ _).drew.trans b0; clear b0)
        | (go_at_call 28; (with_reducible refine (sync28 d mb _ (segName n) _ (T4.out.below hbw7 hm).dp (by have := HG.out.len; have := HDL.out; unfold maxLen; omega)).mono ?_); rintro ee w8 ⟨rfl, hd0, hf0⟩; have T8 := Lib.hid ((T4.out.below hbw7 hm).fm hf0 hd0 hm); have Fw8 := Lib.hid ((Fm.of_below (m := mb) hbw7 (Nat.le_refl _)).trans hf0); clear hd0 hf0))
    clear HCSw7
    go_wp2
    have hdf := T8.out.df
    refine ⟨by simp, .inl ⟨_, _, rfl, run_takeDeferred hdf, ?_⟩⟩
    obtain ⟨z1, z2, z3⟩ := T8.out.wl hq hm hD (.deferred none)
    exact ⟨.bool true, by simp [results, Tryz.results47, go_sem], HP.out _ z1 z2 z3⟩
end Go.Proofs.YtpcipfnahknngaaGreatDoor

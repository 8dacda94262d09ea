/- Contract of wal.write: refused behind no segment; behind a full one. No statement of the seat. -/
import Derived.Test.YtpcipfnahknngaaGreatDoorWr2
import Derived.Test.YtpcipfnahknngaaGreatDoorWr3
namespace Go.Proofs.YtpcipfnahknngaaGreatDoor
open Go.RowKit Go.Maps

set_option maxRecDepth 100000 in
set_option maxHeartbeats 6400000 in
theorem write49_new_six (n0 q d mb N : Nat) (D : List (List UInt8 × Fil)) (l : List Ent) (x : Ent) (u : Value) (sa : Option Addr) (sc : Nat) (la : Option Addr) (lc : Nat) (w : World)
    (h : Wl n0 w q d mb D [] l sa sc la lc) (_hn2 : 2 < n0) (hx : x.ok) (h0 : x.i ≠ 0) (hb : x.b.length ≤ 2000) (hu : BtX n0 w u x.b) (htab : PowTab w) (hg : Dg N D) (hN : N < 1000000) (_hl : l.length < 1000000000)
    (hae : appendE (segName 1) (frameL (recL x)) D ≠ 0) :
    Calls Tryz.prog 49 #[.pointer (some ⟨q, 0, none⟩), .agg #[.int .u64 x.i, .int .u64 x.t, u]] w fun e w' => e = .returned (.int .i64 6) ∧ Fr noTypes w w' ∧ Lo n0 mb w w' ∧ Wl n0 w' q d mb D [] l sa sc la lc := by
  obtain ⟨uo, un, uc0, rfl⟩ : ∃ uo un uc, u = .slice uo un uc := by
    obtain ⟨⟨_, _, uo, uc, rfl, _⟩, _⟩ := hu
    exact ⟨_, _, _, rfl⟩
  obtain ⟨w0, hw0⟩ : ∃ w0, w0 = w.alloc (Obj.cells #[Value.int .u64 x.i, Value.int .u64 x.t, Value.slice uo un uc0] 25) := ⟨_, rfl⟩
  have b0 : Below w.heap.size w w0 := by rw [hw0]; exact (Below.refl w.heap.size w).alloc (Nat.le_refl _) _
  have f0 : Fr noTypes w w0 := Fr.of_below b0 (Nat.le_refl _)
  have hW := h
  obtain ⟨hq, hd, hlow, hlowm, ⟨us, hsg⟩, hes⟩ := h
  have hB : WrA n0 w0 q d sa sc la lc [] us l x (.slice uo un uc0) w.heap.size :=
    ⟨hq.fr f0 id, by rw [hw0]; exact Box.new w _ _ _ rfl, hsg.fr f0 id id, hu.fr0 f0, htab.fr f0, hes.fr f0 id id⟩
  have HD := Lib.hid (hd.below b0 (Nat.le_refl _))
  have HB := Lib.hid hB
  obtain ⟨hr1, hr2⟩ := frameL_len x hx hb
  have hA := fun ca cc W (hDW : Dp W d mb D) hv => append92 d mb D (segName 1) (frameL (recL x)) ca cc W hDW hv hr2 (by have := hg.len; omega) hg.keysS (by have := hg.getLoose (segName 1); omega) (hg.getNow _)
  obtain ⟨e6, e7⟩ := append_six _ _ D (segName_ok 1 (by decide)) hae
  rw [e6, e7] at hA
  have HA := Lib.hid hA
  have HW := Lib.hid hW
  have F0 := Lib.hid f0
  have HR1 := Lib.hid hr1
  have HX := Lib.hid hx
  have HBL := Lib.hid hb
  clear hA hq hd hsg hes hB b0 f0 hu htab e6 e7 hae hg hr2 hr1 hx hb hW
  subst hw0
  go_enter Tryz.func49, Tryz.ntmps49
  go_upto_region 13 with (first
    | (go_at_call 7; refine (record7 x _ _ HX.out HB.out.ut.1 h0 HBL.out).mono ?_; rintro e w1 ⟨v1, rfl, own1, b1⟩; obtain ⟨a1, q1, rfl⟩ := own_shape own1)
    | (go_at_call 91; refine (fput91 _ (recL x) _ (Bt.of_own own1) HR1.out).mono ?_; rintro e w2 ⟨v2, rfl, own2, b2⟩; obtain ⟨a2, q2, rfl⟩ := own_shape own2; have b12 := b1.trans (b2.mono b1.size); have HB2 := Lib.hid (HB.out.fr (Fr.of_below b12 (Nat.le_refl _))); have c0 := HB2.out.bq.cell 0 rfl; have c1 := HB2.out.bq.cell 1 rfl))
  have b02 : Below w.heap.size w w2 := by
    have h1 := ((Below.refl w.heap.size w).alloc (Nat.le_refl _) (Obj.cells #[Value.int .u64 x.i, Value.int .u64 x.t, Value.slice uo un uc0] 25))
    exact h1.trans (b12.mono (by simp))
  have HDp := Lib.hid ((HD.out.below b12 (Nat.le_refl _)))
  have HO2 := Lib.hid own2
  clear own1 own2 b1 b2 b12
  go_cut [12] (fun s12 wx => s12 = .int .i64 6 ∧ Dp wx d mb D ∧ Fm mb w2 wx)
  case first =>
    go_must (go_region_law (first
      | (go_simp; go_at_call 52; (with_reducible refine (name52i 1 1 rfl (by decide) _ (HB2.out.tab.below ((Below.refl _ _).drew) (Nat.le_refl _))).mono ?_); rintro e w3 ⟨rfl, b3⟩; have b23 : Below w2.heap.size w2 w3 := ((Below.refl _ _).drew).trans (b3.mono (Nat.le_refl _)); have c0b := (HB2.out.fr (Fr.of_below b23 (Nat.le_refl _))).bq.cell 0 rfl)
      | (go_simp; go_at_call 92; (with_reducible refine (HA.out a2 q2 _ (HDp.out.below b23 (Nat.le_refl _)) ((Bt.of_own HO2.out).below b23 (Nat.le_refl _))).mono ?_); rintro e w4 ⟨rfl, hD4, f4⟩)))
    all_goals (go_wp2_with fail; go_meet; exact ⟨rfl, hD4, (Fm.of_below b23 (Nat.le_refl _)).trans f4⟩)
  case rest =>
  obtain ⟨rfl, hD4, m24⟩ := hcut
  have f24 := m24.fr
  have LO24 := Lib.hid (m24.lo hlowm)
  clear m24
  have HD4 := Lib.hid hD4
  have f04 := (Fr.of_below (M := noTypes) b02 (Nat.le_refl _)).trans f24
  have HF := Lib.hid f04
  clear c0 c1 f24 hD4 f04
  go_wp2
  go_ret
  exact ⟨rfl, HF.out, (Lo.blw b02 (Nat.le_refl _)).trans LO24.out, HW.out.disked HF.out HD4.out⟩

set_option maxRecDepth 100000 in
set_option maxHeartbeats 6400000 in
theorem write49_full_over (n0 q d mb N : Nat) (D : List (List UInt8 × Fil)) (ss0 : List Seg) (s : Seg) (l : List Ent) (x : Ent) (u : Value) (sa : Option Addr) (sc : Nat) (la : Option Addr) (lc : Nat) (w : World)
    (h : Wl n0 w q d mb D (ss0 ++ [s]) l sa sc la lc) (hs : 8 ≤ s.at_.length) (hsl : s.at_.length < 1000000000) (_hn2 : 2 < n0) (hx : x.ok) (h0 : x.i ≠ 0) (hb : x.b.length ≤ 2000) (hu : BtX n0 w u x.b) (htab : PowTab w) (hg : Dg N D) (hN : N < 1000000) (hn : s.n ≤ 99999999) (hss : ss0.length < 1000000000) (_hl : l.length < 1000000000)
    (hov : ¬ s.n < 99999999) :
    Calls Tryz.prog 49 #[.pointer (some ⟨q, 0, none⟩), .agg #[.int .u64 x.i, .int .u64 x.t, u]] w fun e w' => e = .returned (.int .i64 6) ∧ Fr noTypes w w' ∧ Lo n0 mb w w' ∧ Wl n0 w' q d mb (syncD (segName s.n) D) (ss0 ++ [s]) l sa sc la lc := by
  obtain ⟨uo, un, uc0, rfl⟩ : ∃ uo un uc, u = .slice uo un uc := by
    obtain ⟨⟨_, _, uo, uc, rfl, _⟩, _⟩ := hu
    exact ⟨_, _, _, rfl⟩
  obtain ⟨w0, hw0⟩ : ∃ w0, w0 = w.alloc (Obj.cells #[Value.int .u64 x.i, Value.int .u64 x.t, Value.slice uo un uc0] 25) := ⟨_, rfl⟩
  have b0 : Below w.heap.size w w0 := by rw [hw0]; exact (Below.refl w.heap.size w).alloc (Nat.le_refl _) _
  have f0 : Fr noTypes w w0 := Fr.of_below b0 (Nat.le_refl _)
  have hW := h
  obtain ⟨hq, hd, hlow, hlowm, ⟨us, hsg⟩, hes⟩ := h
  obtain ⟨g, rfl⟩ : ∃ g, sa = some ⟨g, 0, none⟩ := by
    rcases hsg.2.1.2 with ⟨e, _⟩ | ⟨g, _, _, e, _⟩
    · simp at e
    · cases e; exact ⟨g, rfl⟩
  have hlen : (ss0 ++ [s]).length = ss0.length + 1 := by simp
  rw [hlen] at hq hsg
  have hB : WrB n0 w0 q d g ss0.length sc la lc (ss0 ++ [s]) us l x (.slice uo un uc0) w.heap.size :=
    ⟨hq.fr f0 id, by rw [hw0]; exact Box.new w _ _ _ rfl, hsg.fr f0 id id, hu.fr0 f0, htab.fr f0, hes.fr f0 id id⟩
  have HD := Lib.hid (hd.below b0 (Nat.le_refl _))
  have HB := Lib.hid hB
  obtain ⟨hr1, hr2⟩ := frameL_len x hx hb
  have hS := fun W (hDW : Dp W d mb D) => sync28 d mb D (segName s.n) W hDW (by have := hg.len; unfold maxLen; omega)
  have HS := Lib.hid hS
  have HW := Lib.hid hW
  have F0 := Lib.hid f0
  have HR1 := Lib.hid hr1
  have HX := Lib.hid hx
  have HBL := Lib.hid hb
  clear hS hq hd hsg hes hlen hB b0 f0 hu htab hg hr1 hr2 hx hb hW
  subst hw0
  go_enter Tryz.func49, Tryz.ntmps49
  go_upto_region 9 with (first
    | (go_at_call 7; refine (record7 x _ _ HX.out HB.out.ut.1 h0 HBL.out).mono ?_; rintro e w1 ⟨v1, rfl, own1, b1⟩; obtain ⟨a1, q1, rfl⟩ := own_shape own1)
    | (go_at_call 91; refine (fput91 _ (recL x) _ (Bt.of_own own1) HR1.out).mono ?_; rintro e w2 ⟨v2, rfl, own2, b2⟩; obtain ⟨a2, q2, rfl⟩ := own_shape own2; have b12 := b1.trans (b2.mono b1.size); have HB2 := Lib.hid (HB.out.fr (Fr.of_below b12 (Nat.le_refl _))); have c0 := HB2.out.bq.cell 0 rfl; have c1 := HB2.out.bq.cell 1 rfl; obtain ⟨ua, uc, hus, d0, d1, fz, hown, huc, hsc, hscm⟩ := HB2.out.last; have HUS := Lib.hid hus; have HOWN := Lib.hid hown; clear hus hown fz))
  have b02 : Below w.heap.size w w2 := by
    have h1 := ((Below.refl w.heap.size w).alloc (Nat.le_refl _) (Obj.cells #[Value.int .u64 x.i, Value.int .u64 x.t, Value.slice uo un uc0] 25))
    exact h1.trans (b12.mono (by simp))
  have HDp := Lib.hid ((HD.out.below b12 (Nat.le_refl _)))
  have HO2 := Lib.hid own2
  clear own1 own2 b1 b2 b12
  go_cut [] (fun wx => Hid (Dp wx d mb (syncD (segName s.n) D)) ∧ Hid (Fm mb w2 wx))
  case first =>
    go_must (go_region_law (first
      | (go_simp; go_at_call 52; (with_reducible refine (name52 s.n hn _ (HB2.out.tab.below ((Below.refl _ _).drew) (Nat.le_refl _))).mono ?_); rintro e w3 ⟨rfl, b3⟩; have b23 : Below w2.heap.size w2 w3 := ((Below.refl _ _).drew).trans (b3.mono (Nat.le_refl _)); have c0b := (HB2.out.fr (Fr.of_below b23 (Nat.le_refl _))).bq.cell 0 rfl)
      | (go_simp; go_at_call 28; (with_reducible refine (HS.out _ (HDp.out.below b23 (Nat.le_refl _))).mono ?_); rintro e w4 ⟨rfl, hD4, f4⟩)))
    all_goals (go_wp2_with fail; go_meet; exact ⟨Lib.hid hD4, Lib.hid ((Fm.of_below b23 (Nat.le_refl _)).trans f4)⟩)
  case rest =>
  obtain ⟨HD3, M23⟩ := hcut
  have F23 := Lib.hid M23.out.fr
  rename World => w3
  have HB3 := Lib.hid (HB2.out.fr F23.out)
  have c03 := HB3.out.bq.cell 0 rfl
  clear c0 c1 d0 d1
  have hgt : (99999999 : Int) < (s.n : Int) + 1 := by omega
  go_wp2
  go_ret
  have f03 := (Fr.of_below (M := noTypes) b02 (Nat.le_refl _)).trans F23.out
  exact ⟨rfl, f03, (Lo.blw b02 (Nat.le_refl _)).trans (M23.out.lo hlowm), HW.out.disked f03 HD3.out⟩

set_option maxRecDepth 100000 in
set_option maxHeartbeats 6400000 in
theorem write49_full_six (n0 q d mb N : Nat) (D : List (List UInt8 × Fil)) (ss0 : List Seg) (s : Seg) (l : List Ent) (x : Ent) (u : Value) (sa : Option Addr) (sc : Nat) (la : Option Addr) (lc : Nat) (w : World)
    (h : Wl n0 w q d mb D (ss0 ++ [s]) l sa sc la lc) (hs : 8 ≤ s.at_.length) (hsl : s.at_.length < 1000000000) (_hn2 : 2 < n0) (hx : x.ok) (h0 : x.i ≠ 0) (hb : x.b.length ≤ 2000) (hu : BtX n0 w u x.b) (htab : PowTab w) (hg : Dg N D) (hN : N < 1000000) (hn : s.n ≤ 99999999) (hn1 : s.n + 1 ≤ 99999999) (hss : ss0.length < 1000000000) (_hl : l.length < 1000000000)
    (hae : appendE (segName (s.n + 1)) (frameL (recL x)) (syncD (segName s.n) D) ≠ 0) :
    Calls Tryz.prog 49 #[.pointer (some ⟨q, 0, none⟩), .agg #[.int .u64 x.i, .int .u64 x.t, u]] w fun e w' => e = .returned (.int .i64 6) ∧ Fr noTypes w w' ∧ Lo n0 mb w w' ∧ Wl n0 w' q d mb (syncD (segName s.n) D) (ss0 ++ [s]) l sa sc la lc := by
  obtain ⟨uo, un, uc0, rfl⟩ : ∃ uo un uc, u = .slice uo un uc := by
    obtain ⟨⟨_, _, uo, uc, rfl, _⟩, _⟩ := hu
    exact ⟨_, _, _, rfl⟩
  obtain ⟨w0, hw0⟩ : ∃ w0, w0 = w.alloc (Obj.cells #[Value.int .u64 x.i, Value.int .u64 x.t, Value.slice uo un uc0] 25) := ⟨_, rfl⟩
  have b0 : Below w.heap.size w w0 := by rw [hw0]; exact (Below.refl w.heap.size w).alloc (Nat.le_refl _) _
  have f0 : Fr noTypes w w0 := Fr.of_below b0 (Nat.le_refl _)
  have hW := h
  obtain ⟨hq, hd, hlow, hlowm, ⟨us, hsg⟩, hes⟩ := h
  obtain ⟨g, rfl⟩ : ∃ g, sa = some ⟨g, 0, none⟩ := by
    rcases hsg.2.1.2 with ⟨e, _⟩ | ⟨g, _, _, e, _⟩
    · simp at e
    · cases e; exact ⟨g, rfl⟩
  have hlen : (ss0 ++ [s]).length = ss0.length + 1 := by simp
  rw [hlen] at hq hsg
  have hB : WrB n0 w0 q d g ss0.length sc la lc (ss0 ++ [s]) us l x (.slice uo un uc0) w.heap.size :=
    ⟨hq.fr f0 id, by rw [hw0]; exact Box.new w _ _ _ rfl, hsg.fr f0 id id, hu.fr0 f0, htab.fr f0, hes.fr f0 id id⟩
  have HD := Lib.hid (hd.below b0 (Nat.le_refl _))
  have HB := Lib.hid hB
  obtain ⟨hr1, hr2⟩ := frameL_len x hx hb
  have hS := fun W (hDW : Dp W d mb D) => sync28 d mb D (segName s.n) W hDW (by have := hg.len; unfold maxLen; omega)
  have HS := Lib.hid hS
  have hg1 := hg.sync (segName s.n)
  have hA := fun ca cc W (hDW : Dp W d mb (syncD (segName s.n) D)) hv => append92 d mb (syncD (segName s.n) D) (segName (s.n + 1)) (frameL (recL x)) ca cc W hDW hv hr2 (by have := hg1.len; omega) hg1.keysS (by have := hg1.getLoose (segName (s.n + 1)); omega) (hg1.getNow _)
  obtain ⟨e6, e7⟩ := append_six _ _ _ (segName_ok (s.n + 1) hn1) hae
  rw [e6, e7] at hA
  have HA := Lib.hid hA
  have HW := Lib.hid hW
  have F0 := Lib.hid f0
  have HR1 := Lib.hid hr1
  have HX := Lib.hid hx
  have HBL := Lib.hid hb
  clear hS hA hq hd hsg hes hlen hB b0 f0 hu htab e6 e7 hae hg hg1 hr2 hr1 hx hb hW
  subst hw0
  go_enter Tryz.func49, Tryz.ntmps49
  go_upto_region 9 with (first
    | (go_at_call 7; refine (record7 x _ _ HX.out HB.out.ut.1 h0 HBL.out).mono ?_; rintro e w1 ⟨v1, rfl, own1, b1⟩; obtain ⟨a1, q1, rfl⟩ := own_shape own1)
    | (go_at_call 91; refine (fput91 _ (recL x) _ (Bt.of_own own1) HR1.out).mono ?_; rintro e w2 ⟨v2, rfl, own2, b2⟩; obtain ⟨a2, q2, rfl⟩ := own_shape own2; have b12 := b1.trans (b2.mono b1.size); have HB2 := Lib.hid (HB.out.fr (Fr.of_below b12 (Nat.le_refl _))); have c0 := HB2.out.bq.cell 0 rfl; have c1 := HB2.out.bq.cell 1 rfl; obtain ⟨ua, uc, hus, d0, d1, fz, hown, huc, hsc, hscm⟩ := HB2.out.last; have HUS := Lib.hid hus; have HOWN := Lib.hid hown; clear hus hown fz))
  have b02 : Below w.heap.size w w2 := by
    have h1 := ((Below.refl w.heap.size w).alloc (Nat.le_refl _) (Obj.cells #[Value.int .u64 x.i, Value.int .u64 x.t, Value.slice uo un uc0] 25))
    exact h1.trans (b12.mono (by simp))
  have HDp := Lib.hid ((HD.out.below b12 (Nat.le_refl _)))
  have HO2 := Lib.hid own2
  clear own1 own2 b1 b2 b12
  go_cut [] (fun wx => Hid (Dp wx d mb (syncD (segName s.n) D)) ∧ Hid (Fm mb w2 wx))
  case first =>
    go_must (go_region_law (first
      | (go_simp; go_at_call 52; (with_reducible refine (name52 s.n hn _ (HB2.out.tab.below ((Below.refl _ _).drew) (Nat.le_refl _))).mono ?_); rintro e w3 ⟨rfl, b3⟩; have b23 : Below w2.heap.size w2 w3 := ((Below.refl _ _).drew).trans (b3.mono (Nat.le_refl _)); have c0b := (HB2.out.fr (Fr.of_below b23 (Nat.le_refl _))).bq.cell 0 rfl)
      | (go_simp; go_at_call 28; (with_reducible refine (HS.out _ (HDp.out.below b23 (Nat.le_refl _))).mono ?_); rintro e w4 ⟨rfl, hD4, f4⟩)))
    all_goals (go_wp2_with fail; go_meet; exact ⟨Lib.hid hD4, Lib.hid ((Fm.of_below b23 (Nat.le_refl _)).trans f4)⟩)
  case rest =>
  obtain ⟨HD3, M23⟩ := hcut
  have F23 := Lib.hid M23.out.fr
  rename World => w3
  have HB3 := Lib.hid (HB2.out.fr F23.out)
  have c03 := HB3.out.bq.cell 0 rfl
  clear c0 c1 d0 d1
  have hgt : ¬ (99999999 : Int) < (s.n : Int) + 1 := by omega
  have HO3 := Lib.hid ((BtT.of_own HO2.out).fr F23.out id).1
  go_upto_region 13 with fail
  go_cut [12] (fun s12 wx => s12 = .int .i64 6 ∧ Hid (Dp wx d mb (syncD (segName s.n) D)) ∧ Hid (Fm mb w3 wx))
  case first =>
    go_must (go_region_law (first
      | (go_simp; go_at_call 52; (with_reducible refine (name52i (s.n + 1) _ (by simp) hn1 _ (HB3.out.tab.below ((Below.refl _ _).drew) (Nat.le_refl _))).mono ?_); rintro e w4 ⟨rfl, b4⟩; have b34 : Below w3.heap.size w3 w4 := ((Below.refl _ _).drew).trans (b4.mono (Nat.le_refl _)); have c0b := (HB3.out.fr (Fr.of_below b34 (Nat.le_refl _))).bq.cell 0 rfl)
      | (go_simp; go_at_call 92; (with_reducible refine (HA.out a2 q2 _ (HD3.out.below b34 (Nat.le_refl _)) (HO3.out.below b34 (Nat.le_refl _))).mono ?_); rintro e w5 ⟨rfl, hD5, f5⟩)))
    all_goals (go_wp2_with fail; go_meet; exact ⟨rfl, Lib.hid hD5, Lib.hid ((Fm.of_below b34 (Nat.le_refl _)).trans f5)⟩)
  case rest =>
  obtain ⟨rfl, HD4, M34⟩ := hcut
  have F34 := Lib.hid M34.out.fr
  rename World => w4
  have f04 := ((Fr.of_below (M := noTypes) b02 (Nat.le_refl _)).trans F23.out).trans F34.out
  have HF := Lib.hid f04
  clear f04 c03
  go_wp2
  go_ret
  exact ⟨rfl, HF.out, ((Lo.blw b02 (Nat.le_refl _)).trans (M23.out.lo hlowm)).trans (M34.out.lo hlowm), HW.out.disked HF.out HD4.out⟩

set_option maxRecDepth 100000 in
set_option maxHeartbeats 6400000 in
theorem write49_full_ok (n0 q d mb N : Nat) (D : List (List UInt8 × Fil)) (ss0 : List Seg) (s : Seg) (l : List Ent) (x : Ent) (u : Value) (sa : Option Addr) (sc : Nat) (la : Option Addr) (lc : Nat) (w : World)
    (h : Wl n0 w q d mb D (ss0 ++ [s]) l sa sc la lc) (hs : 8 ≤ s.at_.length) (hsl : s.at_.length < 1000000000) (hn2 : 2 < n0) (hx : x.ok) (h0 : x.i ≠ 0) (hb : x.b.length ≤ 2000) (hu : BtX n0 w u x.b) (htab : PowTab w) (hg : Dg N D) (hN : N < 1000000) (hn : s.n ≤ 99999999) (hn1 : s.n + 1 ≤ 99999999) (hss : ss0.length + 1 < 1000000000) (hl : l.length < 1000000000)
    (hae : appendE (segName (s.n + 1)) (frameL (recL x)) (syncD (segName s.n) D) = 0) :
    Calls Tryz.prog 49 #[.pointer (some ⟨q, 0, none⟩), .agg #[.int .u64 x.i, .int .u64 x.t, u]] w fun e w' => e = .returned (.int .i64 0) ∧ Fr walT w w' ∧ Lo n0 mb w w' ∧ WlE n0 w' q d mb (appendD (segName (s.n + 1)) (frameL (recL x)) (syncD (segName s.n) D)) (ss0 ++ [s] ++ [⟨s.n + 1, [x.i]⟩]) (putE l x) := by
  obtain ⟨uo, un, uc0, rfl⟩ : ∃ uo un uc, u = .slice uo un uc := by
    obtain ⟨⟨_, _, uo, uc, rfl, _⟩, _⟩ := hu
    exact ⟨_, _, _, rfl⟩
  obtain ⟨w0, hw0⟩ : ∃ w0, w0 = w.alloc (Obj.cells #[Value.int .u64 x.i, Value.int .u64 x.t, Value.slice uo un uc0] 25) := ⟨_, rfl⟩
  have b0 : Below w.heap.size w w0 := by rw [hw0]; exact (Below.refl w.heap.size w).alloc (Nat.le_refl _) _
  have f0 : Fr noTypes w w0 := Fr.of_below b0 (Nat.le_refl _)
  have hW := h
  obtain ⟨hq, hd, hlow, hlowm, ⟨us, hsg⟩, hes⟩ := h
  obtain ⟨g, rfl⟩ : ∃ g, sa = some ⟨g, 0, none⟩ := by
    rcases hsg.2.1.2 with ⟨e, _⟩ | ⟨g, _, _, e, _⟩
    · simp at e
    · cases e; exact ⟨g, rfl⟩
  have hlen : (ss0 ++ [s]).length = ss0.length + 1 := by simp
  rw [hlen] at hq hsg
  have hB : WrB n0 w0 q d g ss0.length sc la lc (ss0 ++ [s]) us l x (.slice uo un uc0) w.heap.size :=
    ⟨hq.fr f0 id, by rw [hw0]; exact Box.new w _ _ _ rfl, hsg.fr f0 id id, hu.fr0 f0, htab.fr f0, hes.fr f0 id id⟩
  have HD := Lib.hid (hd.below b0 (Nat.le_refl _))
  have HB := Lib.hid hB
  obtain ⟨hr1, hr2⟩ := frameL_len x hx hb
  have hS := fun W (hDW : Dp W d mb D) => sync28 d mb D (segName s.n) W hDW (by have := hg.len; unfold maxLen; omega)
  have HS := Lib.hid hS
  have hg1 := hg.sync (segName s.n)
  have hA := fun ca cc W (hDW : Dp W d mb (syncD (segName s.n) D)) hv => append92 d mb (syncD (segName s.n) D) (segName (s.n + 1)) (frameL (recL x)) ca cc W hDW hv hr2 (by have := hg1.len; omega) hg1.keysS (by have := hg1.getLoose (segName (s.n + 1)); omega) (hg1.getNow _)
  rw [hae] at hA
  have HA := Lib.hid hA
  have HW := Lib.hid hW
  have F0 := Lib.hid f0
  have HR1 := Lib.hid hr1
  have HX := Lib.hid hx
  have HBL := Lib.hid hb
  clear hS hA hq hd hsg hes hlen hB b0 f0 hu htab hae hg hg1 hr2 hr1 hx hb hW
  subst hw0
  go_enter Tryz.func49, Tryz.ntmps49
  go_upto_region 9 with (first
    | (go_at_call 7; refine (record7 x _ _ HX.out HB.out.ut.1 h0 HBL.out).mono ?_; rintro e w1 ⟨v1, rfl, own1, b1⟩; obtain ⟨a1, q1, rfl⟩ := own_shape own1)
    | (go_at_call 91; refine (fput91 _ (recL x) _ (Bt.of_own own1) HR1.out).mono ?_; rintro e w2 ⟨v2, rfl, own2, b2⟩; obtain ⟨a2, q2, rfl⟩ := own_shape own2; have b12 := b1.trans (b2.mono b1.size); have HB2 := Lib.hid (HB.out.fr (Fr.of_below b12 (Nat.le_refl _))); have c0 := HB2.out.bq.cell 0 rfl; have c1 := HB2.out.bq.cell 1 rfl; obtain ⟨ua, uc, hus, d0, d1, fz, hown, huc, hsc, hscm⟩ := HB2.out.last; have HUS := Lib.hid hus; have HOWN := Lib.hid hown; clear hus hown fz))
  have b02 : Below w.heap.size w w2 := by
    have h1 := ((Below.refl w.heap.size w).alloc (Nat.le_refl _) (Obj.cells #[Value.int .u64 x.i, Value.int .u64 x.t, Value.slice uo un uc0] 25))
    exact h1.trans (b12.mono (by simp))
  have HDp := Lib.hid ((HD.out.below b12 (Nat.le_refl _)))
  have HO2 := Lib.hid own2
  clear own1 own2 b1 b2 b12
  go_cut [] (fun wx => Hid (Dp wx d mb (syncD (segName s.n) D)) ∧ Hid (Fm mb w2 wx))
  case first =>
    go_must (go_region_law (first
      | (go_simp; go_at_call 52; (with_reducible refine (name52 s.n hn _ (HB2.out.tab.below ((Below.refl _ _).drew) (Nat.le_refl _))).mono ?_); rintro e w3 ⟨rfl, b3⟩; have b23 : Below w2.heap.size w2 w3 := ((Below.refl _ _).drew).trans (b3.mono (Nat.le_refl _)); have c0b := (HB2.out.fr (Fr.of_below b23 (Nat.le_refl _))).bq.cell 0 rfl)
      | (go_simp; go_at_call 28; (with_reducible refine (HS.out _ (HDp.out.below b23 (Nat.le_refl _))).mono ?_); rintro e w4 ⟨rfl, hD4, f4⟩)))
    all_goals (go_wp2_with fail; go_meet; exact ⟨Lib.hid hD4, Lib.hid ((Fm.of_below b23 (Nat.le_refl _)).trans f4)⟩)
  case rest =>
  obtain ⟨HD3, M23⟩ := hcut
  have F23 := Lib.hid M23.out.fr
  rename World => w3
  have HB3 := Lib.hid (HB2.out.fr F23.out)
  have c03 := HB3.out.bq.cell 0 rfl
  clear c0 c1 d0 d1
  have hgt : ¬ (99999999 : Int) < (s.n : Int) + 1 := by omega
  have HO3 := Lib.hid ((BtT.of_own HO2.out).fr F23.out id).1
  go_upto_region 13 with fail
  go_cut [12] (fun s12 wx => s12 = .int .i64 0 ∧ Hid (Dp wx d mb (appendD (segName (s.n + 1)) (frameL (recL x)) (syncD (segName s.n) D))) ∧ Hid (Fm mb w3 wx))
  case first =>
    go_must (go_region_law (first
      | (go_simp; go_at_call 52; (with_reducible refine (name52i (s.n + 1) _ (by simp) hn1 _ (HB3.out.tab.below ((Below.refl _ _).drew) (Nat.le_refl _))).mono ?_); rintro e w4 ⟨rfl, b4⟩; have b34 : Below w3.heap.size w3 w4 := ((Below.refl _ _).drew).trans (b4.mono (Nat.le_refl _)); have c0b := (HB3.out.fr (Fr.of_below b34 (Nat.le_refl _))).bq.cell 0 rfl)
      | (go_simp; go_at_call 92; (with_reducible refine (HA.out a2 q2 _ (HD3.out.below b34 (Nat.le_refl _)) (HO3.out.below b34 (Nat.le_refl _))).mono ?_); rintro e w5 ⟨rfl, hD5, f5⟩)))
    all_goals (go_wp2_with fail; go_meet; exact ⟨rfl, Lib.hid hD5, Lib.hid ((Fm.of_below b34 (Nat.le_refl _)).trans f5)⟩)
  case rest =>
  obtain ⟨rfl, HD4, M34⟩ := hcut
  have F34 := Lib.hid M34.out.fr
  rename World => w4
  have HB4 := Lib.hid (HB3.out.fr F34.out)
  have hq4 : q < w4.heap.size := HB4.out.bq.lt
  have hn0 : n0 ≤ w4.heap.size := Nat.le_trans hlow (Nat.le_of_lt hq4)
  have c1q := HB4.out.bq.cell 1 rfl
  have hlen2 : (ss0 ++ [s]).length = ss0.length + 1 := by simp
  have hA4 : WrA n0 w4 q d (some ⟨g, 0, none⟩) sc la lc (ss0 ++ [s]) us l x (.slice uo un uc0) w.heap.size := by
    obtain ⟨b1, b2, b3, b4, b5, b6⟩ := HB4.out
    exact ⟨by rw [hlen2]; exact b1, b2, by rw [hlen2]; exact b3, b4, b5, b6⟩
  have HA4 := Lib.hid hA4
  have HL2 := Lib.hid hlen2
  clear c03 hA4 hlen2
  go_upto_region 16 with fail
  rename_i kk hkk _ _
  have HK := Lib.hid hkk
  clear hkk
  go_wp2_with (at_builtin; go_must (refine wl_seg rfl _ _ rfl n0 (ss0 ++ [s]) us (some ⟨g, 0, none⟩) sc _ (s.n + 1) w4 (by repeat (first | exact Below.refl _ _ | refine Below.alloc ?_ (by first | omega | (simp; done) | (simp; omega)) _)) (by rw [HL2.out]; rfl) HA4.out.sg.2.1 rfl (Box.new _ _ _ _ rfl) (by rw [HL2.out]; omega) (by simp; omega) ?_); intro W5 g5 c5 w5 hb45 own5 grow5; rw [HL2.out] at own5 grow5; rw [HL2.out]; have f45 : Fr (fun e => e = 81) w4 w5 := ((Fr.of_below (M := noTypes) hb45 (Nat.le_refl _)).mono fun _ => False.elim).trans (Fr.grown grow5 (Ty.of_own (own_fr HB4.out.sg.2.1 (Fr.of_below (M := noTypes) hb45 (Nat.le_refl _)) id)) rfl); have hbq5 := HB4.out.bq.fr f45 (by decide); have c15 := hbq5.cell 1 rfl; have fz5 := hbq5.froz 1)
  have hsl := HL2.out
  rw [← hsl] at own5 grow5
  rw [← hsl]
  rw [show ((ss0.length : Int) + 1) = (((ss0 ++ [s]).length : Nat) : Int) by rw [hsl]; rfl]
  have b45 : Fr noTypes w4 W5 := Fr.of_below hb45 (Nat.le_refl _)
  obtain ⟨s1, s2, s3, s4⟩ := WrA.snoc (mb := mb) (HA4.out.fr b45) hn2 hlow (s.n + 1) g5 c5 own5 grow5
  obtain ⟨es, c, hm⟩ := HD4.out.map
  have e1 := hb45.block mb (lt_of_get hm)
  have e2 := (s4 mb es c (e1.trans hm)).trans e1
  have s2' := (b45.mono fun _ => False.elim).trans s2
  have w5 : ¬ walT 5 := by unfold walT; decide
  have w108 : ¬ walT 108 := by unfold walT; decide
  have w91 : ¬ walT 91 := by unfold walT; decide
  refine HK.out _ _ ?_
  refine tail49 n0 q d mb g5 c5 w.heap.size _ (ss0 ++ [s]) ⟨s.n + 1, []⟩ _ l x uo un uc0 la lc _ _ _ _ _ _ _ _ _ _ _ _ _ _ _ _ _ _ _ _ _ _ _ _ _ _ _ _ _ _ _ _ _ _ _ _ _ _ _ _ _ _ _ _ _ _ _ _ _ _ _ _ _ _ _ _ _ _ _ _ _ _ _ _ _ _ _ _ _ _ _ _ _ _ _ _ _ _ _ _ _ _ _ _ _ _ _ _ _ _ _ _ _ _ _ _ _ _ _ _ _ _ _ _ _ _ _ _ _ _ _ _ _ _ _ _ _ s1 hlow hlowm (HD4.out.fr s2' w5 w108 w91 e2) (by simp) (by rw [hsl]; omega) hl HBL.out ?_
  intro w' hf hlo hW'
  have f04 := ((Fr.of_below b02 (Nat.le_refl _)).trans F23.out).trans F34.out
  exact ⟨rfl, ((f04.mono fun _ => False.elim).trans s2').trans hf, (((((Lo.blw b02 (Nat.le_refl _)).trans (M23.out.lo hlowm)).trans (M34.out.lo hlowm)).trans (Lo.blw hb45 (Nat.le_refl _))).trans s3).trans hlo, hW'⟩
/-! ### the write, joined -/
def wNum (ss : List Seg) : Nat := match ss.getLast? with
  | none => 1
  | some s => if 8 ≤ s.at_.length then s.n + 1 else s.n
def wPre (ss : List Seg) (D : List (List UInt8 × Fil)) : List (List UInt8 × Fil) := match ss.getLast? with
  | none => D
  | some s => if 8 ≤ s.at_.length then syncD (segName s.n) D else D
def wErr (ss : List Seg) (x : Ent) (D : List (List UInt8 × Fil)) : Nat := if 99999999 < wNum ss then 6 else appendE (segName (wNum ss)) (frameL (recL x)) (wPre ss D)
def wDisk (ss : List Seg) (x : Ent) (D : List (List UInt8 × Fil)) : List (List UInt8 × Fil) := if 99999999 < wNum ss then wPre ss D else appendD (segName (wNum ss)) (frameL (recL x)) (wPre ss D)
def wSegs (ss : List Seg) (i : Nat) : List Seg := match ss.getLast? with
  | none => [⟨1, [i]⟩]
  | some s => if 8 ≤ s.at_.length then ss ++ [⟨s.n + 1, [i]⟩] else ss.dropLast ++ [⟨s.n, s.at_ ++ [i]⟩]
/-- segments as a log has them -/
def SgOk (ss : List Seg) : Prop := ∀ s ∈ ss, 1 ≤ s.n ∧ s.n ≤ 99999999 ∧ s.at_.length < 1000000000

theorem write49 (n0 q d mb N : Nat) (D : List (List UInt8 × Fil)) (ss : List Seg) (l : List Ent) (x : Ent) (u : Value) (w : World)
    (h : WlE n0 w q d mb D ss l) (hn2 : 2 < n0) (hx : x.ok) (h0 : x.i ≠ 0) (hb : x.b.length ≤ 2000) (hu : BtX n0 w u x.b) (htab : PowTab w) (hg : Dg N D) (hN : N < 900000) (hok : SgOk ss) (hss : ss.length < 1000000000) (hl : l.length < 1000000000) :
    Calls Tryz.prog 49 #[.pointer (some ⟨q, 0, none⟩), .agg #[.int .u64 x.i, .int .u64 x.t, u]] w fun e w' => e = .returned (.int .i64 (wErr ss x D)) ∧ Fr walT w w' ∧ Lo n0 mb w w' ∧
      WlE n0 w' q d mb (wDisk ss x D) (if wErr ss x D = 0 then wSegs ss x.i else ss) (if wErr ss x D = 0 then putE l x else l) := by
  obtain ⟨sa, sc, la, lc, h⟩ := h
  have wal : ∀ {a b : World}, Fr noTypes a b → Fr walT a b := fun h => h.mono fun _ => False.elim
  rcases List.eq_nil_or_concat ss with rfl | ⟨ss0, s, rfl⟩
  · have e1 : wNum [] = 1 := rfl
    have e2 : wPre [] D = D := rfl
    have e3 : wErr [] x D = appendE (segName 1) (frameL (recL x)) D := by unfold wErr; rw [e1, e2, if_neg (by decide)]
    have e4 : wDisk [] x D = appendD (segName 1) (frameL (recL x)) D := by unfold wDisk; rw [e1, e2, if_neg (by decide)]
    rw [e3, e4]
    by_cases hae : appendE (segName 1) (frameL (recL x)) D = 0
    · refine (write49_new_ok n0 q d mb N D l x u sa sc la lc w h hn2 hx h0 hb hu htab hg (by omega) hl hae).mono ?_
      rintro e w' ⟨rfl, h1, h2, h3⟩
      refine ⟨by rw [hae]; rfl, h1, h2, ?_⟩
      rw [if_pos hae, if_pos hae]
      exact h3
    · obtain ⟨e6, e7⟩ := append_six _ _ D (segName_ok 1 (by decide)) hae
      refine (write49_new_six n0 q d mb N D l x u sa sc la lc w h hn2 hx h0 hb hu htab hg (by omega) hl hae).mono ?_
      rintro e w' ⟨rfl, h1, hlo, h2⟩
      refine ⟨by rw [e6]; rfl, wal h1, hlo, ?_⟩
      rw [if_neg hae, if_neg hae, e7]
      exact ⟨sa, sc, la, lc, h2⟩
  · rw [List.concat_eq_append] at h hok hss ⊢
    have hl1 : (ss0 ++ [s]).getLast? = some s := by simp
    have hl2 : (ss0 ++ [s]).length = ss0.length + 1 := by simp
    rw [hl2] at hss
    obtain ⟨hs1, hs2, hs3⟩ := hok s (by simp)
    by_cases hf : 8 ≤ s.at_.length
    · have e1 : wNum (ss0 ++ [s]) = s.n + 1 := by unfold wNum; rw [hl1]; exact if_pos hf
      have e2 : wPre (ss0 ++ [s]) D = syncD (segName s.n) D := by unfold wPre; rw [hl1]; exact if_pos hf
      have e5 : wSegs (ss0 ++ [s]) x.i = ss0 ++ [s] ++ [⟨s.n + 1, [x.i]⟩] := by unfold wSegs; rw [hl1]; exact if_pos hf
      by_cases hov : 99999999 < s.n + 1
      · have e3 : wErr (ss0 ++ [s]) x D = 6 := by unfold wErr; rw [e1, if_pos hov]
        have e4 : wDisk (ss0 ++ [s]) x D = syncD (segName s.n) D := by unfold wDisk; rw [e1, e2, if_pos hov]
        rw [e3, e4]
        refine (write49_full_over n0 q d mb N D ss0 s l x u sa sc la lc w h hf hs3 hn2 hx h0 hb hu htab hg (by omega) hs2 (by omega) hl (by omega)).mono ?_
        rintro e w' ⟨rfl, h1, hlo, h2⟩
        exact ⟨rfl, wal h1, hlo, sa, sc, la, lc, h2⟩
      · have e3 : wErr (ss0 ++ [s]) x D = appendE (segName (s.n + 1)) (frameL (recL x)) (syncD (segName s.n) D) := by unfold wErr; rw [e1, e2, if_neg hov]
        have e4 : wDisk (ss0 ++ [s]) x D = appendD (segName (s.n + 1)) (frameL (recL x)) (syncD (segName s.n) D) := by unfold wDisk; rw [e1, e2, if_neg hov]
        rw [e3, e4, e5]
        by_cases hae : appendE (segName (s.n + 1)) (frameL (recL x)) (syncD (segName s.n) D) = 0
        · refine (write49_full_ok n0 q d mb N D ss0 s l x u sa sc la lc w h hf hs3 hn2 hx h0 hb hu htab hg (by omega) hs2 (by omega) hss hl hae).mono ?_
          rintro e w' ⟨rfl, h1, h2, h3⟩
          refine ⟨by rw [hae]; rfl, h1, h2, ?_⟩
          rw [if_pos hae, if_pos hae]
          exact h3
        · obtain ⟨e6, e7⟩ := append_six _ _ (syncD (segName s.n) D) (segName_ok (s.n + 1) (by omega)) hae
          refine (write49_full_six n0 q d mb N D ss0 s l x u sa sc la lc w h hf hs3 hn2 hx h0 hb hu htab hg (by omega) hs2 (by omega) (by omega) hl hae).mono ?_
          rintro e w' ⟨rfl, h1, hlo, h2⟩
          refine ⟨by rw [e6]; rfl, wal h1, hlo, ?_⟩
          rw [if_neg hae, if_neg hae, e7]
          exact ⟨sa, sc, la, lc, h2⟩
    · have e1 : wNum (ss0 ++ [s]) = s.n := by unfold wNum; rw [hl1]; exact if_neg hf
      have e2 : wPre (ss0 ++ [s]) D = D := by unfold wPre; rw [hl1]; exact if_neg hf
      have e5 : wSegs (ss0 ++ [s]) x.i = ss0 ++ [⟨s.n, s.at_ ++ [x.i]⟩] := by unfold wSegs; rw [hl1]; simp [hf]
      have e3 : wErr (ss0 ++ [s]) x D = appendE (segName s.n) (frameL (recL x)) D := by unfold wErr; rw [e1, e2, if_neg (by omega)]
      have e4 : wDisk (ss0 ++ [s]) x D = appendD (segName s.n) (frameL (recL x)) D := by unfold wDisk; rw [e1, e2, if_neg (by omega)]
      rw [e3, e4, e5]
      by_cases hae : appendE (segName s.n) (frameL (recL x)) D = 0
      · refine (write49_in_ok n0 q d mb N D ss0 s l x u sa sc la lc w h (by omega) hx h0 hb hu htab hg (by omega) hs2 (by omega) hl hae).mono ?_
        rintro e w' ⟨rfl, h1, h2, h3⟩
        refine ⟨by rw [hae]; rfl, h1, h2, ?_⟩
        rw [if_pos hae, if_pos hae]
        exact h3
      · obtain ⟨e6, e7⟩ := append_six _ _ D (segName_ok s.n hs2) hae
        refine (write49_in_six n0 q d mb N D ss0 s l x u sa sc la lc w h (by omega) hx h0 hb hu htab hg (by omega) hs2 (by omega) hae).mono ?_
        rintro e w' ⟨rfl, h1, hlo, h2⟩
        refine ⟨by rw [e6]; rfl, wal h1, hlo, ?_⟩
        rw [if_neg hae, if_neg hae, e7]
        exact ⟨sa, sc, la, lc, h2⟩
end Go.Proofs.YtpcipfnahknngaaGreatDoor

/- Contract of wal.write behind a segment that isn't full: it is written. No statement of the seat. -/
import Derived.Test.YtpcipfnahknngaaGreatDoorTail
namespace Go.Proofs.YtpcipfnahknngaaGreatDoor
open Go.RowKit Go.Maps

set_option maxRecDepth 100000 in
set_option maxHeartbeats 6400000 in
theorem write49_in_ok (n0 q d mb N : Nat) (D : List (List UInt8 × Fil)) (ss0 : List Seg) (s : Seg) (l : List Ent) (x : Ent) (u : Value) (sa : Option Addr) (sc : Nat) (la : Option Addr) (lc : Nat) (w : World)
    (h : Wl n0 w q d mb D (ss0 ++ [s]) l sa sc la lc) (hs : s.at_.length < 8) (hx : x.ok) (h0 : x.i ≠ 0) (hb : x.b.length ≤ 2000) (hu : BtX n0 w u x.b) (htab : PowTab w) (hg : Dg N D) (hN : N < 1000000) (hn : s.n ≤ 99999999) (hss : ss0.length < 1000000000) (hl : l.length < 1000000000)
    (hae : appendE (segName s.n) (frameL (recL x)) D = 0) :
    Calls Tryz.prog 49 #[.pointer (some ⟨q, 0, none⟩), .agg #[.int .u64 x.i, .int .u64 x.t, u]] w fun e w' => e = .returned (.int .i64 0) ∧ Fr walT w w' ∧ Lo n0 mb w w' ∧ WlE n0 w' q d mb (appendD (segName s.n) (frameL (recL x)) D) (ss0 ++ [⟨s.n, s.at_ ++ [x.i]⟩]) (putE l x) := by
  obtain ⟨uo, un, uc0, rfl⟩ : ∃ uo un uc, u = .slice uo un uc := by
    obtain ⟨⟨_, _, uo, uc, rfl, _⟩, _⟩ := hu
    exact ⟨_, _, _, rfl⟩
  obtain ⟨w0, hw0⟩ : ∃ w0, w0 = w.alloc (Obj.cells #[Value.int .u64 x.i, Value.int .u64 x.t, Value.slice uo un uc0] 25) := ⟨_, rfl⟩
  have b0 : Below w.heap.size w w0 := by rw [hw0]; exact (Below.refl w.heap.size w).alloc (Nat.le_refl _) _
  have f0 : Fr noTypes w w0 := Fr.of_below b0 (Nat.le_refl _)
  have hW := h
  obtain ⟨hq, hd, hlow, hlowm, ⟨us, hsg⟩, hes⟩ := h
  obtain ⟨g, rfl⟩ : ∃ g, sa = some ⟨g, 0, none⟩ := by
    rcases hsg.2.1.2 with ⟨e, _⟩ | ⟨g, _, _, e, _⟩
    · simp at e
    · cases e; exact ⟨g, rfl⟩
  have hlen : (ss0 ++ [s]).length = ss0.length + 1 := by simp
  rw [hlen] at hq hsg
  have hB : WrB n0 w0 q d g ss0.length sc la lc (ss0 ++ [s]) us l x (.slice uo un uc0) w.heap.size :=
    ⟨hq.fr f0 id, by rw [hw0]; exact Box.new w _ _ _ rfl, hsg.fr f0 id id, hu.fr0 f0, htab.fr f0, hes.fr f0 id id⟩
  have HD := Lib.hid (hd.below b0 (Nat.le_refl _))
  have HB := Lib.hid hB
  obtain ⟨hr1, hr2⟩ := frameL_len x hx hb
  have hA := fun ca cc W (hDW : Dp W d mb D) hv => append92 d mb D (segName s.n) (frameL (recL x)) ca cc W hDW hv hr2 (by have := hg.len; omega) hg.keysS (by have := hg.getLoose (segName s.n); omega) (hg.getNow _)
  rw [hae] at hA
  have HA := Lib.hid hA
  have HW := Lib.hid hW
  have F0 := Lib.hid f0
  have HR1 := Lib.hid hr1
  have HX := Lib.hid hx
  have HBL := Lib.hid hb
  clear hA hq hd hsg hes hlen hB b0 f0 hu htab hae hg hr2 hr1 hx hb hW
  subst hw0
  go_enter Tryz.func49, Tryz.ntmps49
  go_upto_region 13 with (first
    | (go_at_call 7; refine (record7 x _ _ HX.out HB.out.ut.1 h0 HBL.out).mono ?_; rintro e w1 ⟨v1, rfl, own1, b1⟩; obtain ⟨a1, q1, rfl⟩ := own_shape own1)
    | (go_at_call 91; refine (fput91 _ (recL x) _ (Bt.of_own own1) HR1.out).mono ?_; rintro e w2 ⟨v2, rfl, own2, b2⟩; obtain ⟨a2, q2, rfl⟩ := own_shape own2; have b12 := b1.trans (b2.mono b1.size); have HB2 := Lib.hid (HB.out.fr (Fr.of_below b12 (Nat.le_refl _))); have c0 := HB2.out.bq.cell 0 rfl; have c1 := HB2.out.bq.cell 1 rfl; obtain ⟨ua, uc, hus, d0, d1, fz, hown, huc, hsc, hscm⟩ := HB2.out.last; have HUS := Lib.hid hus; have HOWN := Lib.hid hown; clear hus hown fz))
  have b02 : Below w.heap.size w w2 := by
    have h1 := ((Below.refl w.heap.size w).alloc (Nat.le_refl _) (Obj.cells #[Value.int .u64 x.i, Value.int .u64 x.t, Value.slice uo un uc0] 25))
    exact h1.trans (b12.mono (by simp))
  have HDp := Lib.hid ((HD.out.below b12 (Nat.le_refl _)))
  have HO2 := Lib.hid own2
  clear own1 own2 b1 b2 b12
  go_cut [12] (fun s12 wx => s12 = .int .i64 0 ∧ Dp wx d mb (appendD (segName s.n) (frameL (recL x)) D) ∧ Fm mb w2 wx)
  case first =>
    go_must (go_region_law (first
      | (go_simp; go_at_call 52; (with_reducible refine (name52 s.n hn _ (HB2.out.tab.below ((Below.refl _ _).drew) (Nat.le_refl _))).mono ?_); rintro e w3 ⟨rfl, b3⟩; have b23 : Below w2.heap.size w2 w3 := ((Below.refl _ _).drew).trans (b3.mono (Nat.le_refl _)); have c0b := (HB2.out.fr (Fr.of_below b23 (Nat.le_refl _))).bq.cell 0 rfl)
      | (go_simp; go_at_call 92; (with_reducible refine (HA.out a2 q2 _ (HDp.out.below b23 (Nat.le_refl _)) ((Bt.of_own HO2.out).below b23 (Nat.le_refl _))).mono ?_); rintro e w4 ⟨rfl, hD4, f4⟩)))
    all_goals (go_wp2_with fail; go_meet; exact ⟨rfl, hD4, (Fm.of_below b23 (Nat.le_refl _)).trans f4⟩)
  case rest =>
  obtain ⟨rfl, hD4, m24⟩ := hcut
  have f24 := m24.fr
  have LO24 := Lib.hid (m24.lo hlowm)
  clear m24
  have HB4 := Lib.hid (HB2.out.fr f24)
  have F24 := Lib.hid f24
  have HD4 := Lib.hid hD4
  clear c0 c1 d0 d1 HUS HOWN f24 hD4
  go_upto_region 16 with fail
  rename_i kk hkk _ _
  have HK := Lib.hid hkk
  clear hkk
  go_wp2
  refine HK.out _ _ ?_
  refine tail49 n0 q d mb g sc w.heap.size _ ss0 s us l x uo un uc0 la lc _ _ _ _ _ _ _ _ _ _ _ _ _ _ _ _ _ _ _ _ _ _ _ _ _ _ _ _ _ _ _ _ _ _ _ _ _ _ _ _ _ _ _ _ _ _ _ _ _ _ _ _ _ _ _ _ _ _ _ _ _ _ _ _ _ _ _ _ _ _ _ _ _ _ _ _ _ _ _ _ _ _ _ _ _ _ _ _ _ _ _ _ _ _ _ _ _ _ _ _ _ _ _ _ _ _ _ _ _ _ _ _ _ _ _ _ _ HB4.out hlow hlowm HD4.out (by omega) hss hl HBL.out ?_
  intro w' hf hlo hW'
  have f04 := (Fr.of_below b02 (Nat.le_refl _)).trans F24.out
  exact ⟨rfl, (f04.mono fun _ => False.elim).trans hf, ((Lo.blw b02 (Nat.le_refl _)).trans LO24.out).trans hlo, hW'⟩
end Go.Proofs.YtpcipfnahknngaaGreatDoor

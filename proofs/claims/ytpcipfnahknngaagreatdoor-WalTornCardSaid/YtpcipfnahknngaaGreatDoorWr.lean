/- Contract of wal.write behind a segment that isn't full. No statement of the seat. -/
import Derived.Test.YtpcipfnahknngaaGreatDoorWl
import Derived.Test.YtpcipfnahknngaaGreatDoorMaNam
namespace Go.Proofs.YtpcipfnahknngaaGreatDoor
open Go.RowKit Go.Maps

theorem info22 : (Tryz.prog.info? 22).map (fun i => (i.zero, i.size, i.bytes)) = some (some (.int .u64 0), 1, 8) := by kernel_rfl
theorem segName_len (n : Nat) (hn : n ≤ 99999999) : (segName n).length = 12 := by
  unfold segName
  rw [List.length_append, List.length_drop, itoa9 n hn]; rfl
theorem segName_ok (n : Nat) (hn : n ≤ 99999999) : badName (segName n) = false := by
  unfold badName
  rw [segName_len n hn]; rfl
theorem frameL_len (x : Ent) (hx : x.ok) (hb : x.b.length ≤ 2000) : (recL x).length ≤ 4096 ∧ (frameL (recL x)).length ≤ 1407374883 := by
  have a1 := putL_len x.i hx.1
  have a2 := putL_len x.t hx.2.1
  have a3 := putL_len x.b.length (by omega)
  have h1 : (recL x).length ≤ 2040 := by simp [recL, putText]; omega
  have a4 := putL_len (recL x).length (by omega)
  refine ⟨by omega, ?_⟩
  simp [frameL, putText, fourN]
  omega
theorem append_six (k b : List UInt8) (D : List (List UInt8 × Fil)) (hk : badName k = false) (h : appendE k b D ≠ 0) : appendE k b D = 6 ∧ appendD k b D = D := by
  unfold appendE at h ⊢
  unfold appendD
  rw [hk] at h ⊢
  cases hf : fullA k b D
  · rw [hf] at h; exact absurd rfl h
  · exact ⟨rfl, rfl⟩

/-- what holds of all worlds ahead of the write to the disk -/
structure WrB (n0 : Nat) (W : World) (q d g k sc : Nat) (la : Option Addr) (lc : Nat) (ss : List Seg) (us : List Value) (l : List Ent) (x : Ent) (u : Value) (b : Nat) : Prop where
  bq : Box W q 37 #[.pointer (some ⟨d, 0, none⟩), .slice (some ⟨g, 0, none⟩) (k + 1) sc, .slice la l.length lc]
  bx : Box W b 25 #[.int .u64 x.i, .int .u64 x.t, u]
  sg : SgU n0 W (.slice (some ⟨g, 0, none⟩) (k + 1) sc) ss us
  ut : BtX n0 W u x.b
  tab : PowTab W
  es : Es W (.slice la l.length lc) l
theorem WrB.fr {n0 : Nat} {W W' : World} {q d g k sc : Nat} {la : Option Addr} {lc : Nat} {ss : List Seg} {us : List Value} {l : List Ent} {x : Ent} {u : Value} {b : Nat} (h : WrB n0 W q d g k sc la lc ss us l x u b) (hf : Fr noTypes W W') : WrB n0 W' q d g k sc la lc ss us l x u b :=
  ⟨h.bq.fr hf id, h.bx.fr hf id, h.sg.fr hf id id, h.ut.fr0 hf, h.tab.fr hf, h.es.fr hf id id⟩
/-- the last segment's cells -/
theorem WrB.last {n0 : Nat} {W : World} {q d g sc : Nat} {la : Option Addr} {lc : Nat} {ss0 : List Seg} {s : Seg} {us : List Value} {l : List Ent} {x : Ent} {u : Value} {b : Nat} (h : WrB n0 W q d g ss0.length sc la lc (ss0 ++ [s]) us l x u b) :
    ∃ ua uc, us[ss0.length]? = some (.slice ua s.at_.length uc) ∧ W.cell? ⟨g, ss0.length * 2, none⟩ = some (.int .i64 s.n) ∧ W.cell? ⟨g, ss0.length * 2 + 1, none⟩ = some (.slice ua s.at_.length uc) ∧ W.frozen? ⟨g, ss0.length * 2 + 1, none⟩ = false ∧ W.ownsRow n0 22 1 (.slice ua s.at_.length uc) s.at_.length (nv s.at_) ∧ s.at_.length ≤ uc ∧ ss0.length + 1 ≤ sc ∧ sc ≤ maxLen := by
  obtain ⟨h1, h2, h3, h4⟩ := h.sg
  have hl : (ss0 ++ [s]).length = ss0.length + 1 := by simp
  rw [hl] at h1 h2
  obtain ⟨v, hv⟩ : ∃ v, us[ss0.length]? = some v := ⟨_, List.getElem?_eq_getElem (by omega)⟩
  have hr := h3 ss0.length (by omega) v hv
  simp only [List.getElem_append_right (Nat.le_refl _), Nat.sub_self, List.getElem_singleton] at hr
  obtain ⟨ua, uc, rfl⟩ := own_shape hr
  obtain ⟨c1, c2⟩ := sgCells_at (ss0 ++ [s]) us (by omega) ss0.length (by omega) _ hv
  simp only [List.getElem_append_right (Nat.le_refl _), Nat.sub_self, List.getElem_singleton] at c1
  have hc : s.at_.length ≤ uc := by
    rcases hr.2 with ⟨e, _⟩ | ⟨_, _, _, e, _, _, e2, _⟩
    · simp only [Value.slice.injEq] at e; omega
    · cases e; exact e2
  have hd : ss0.length + 1 ≤ sc ∧ sc ≤ maxLen := by
    rcases h2.2 with ⟨e, _⟩ | ⟨_, _, _, e, _, _, e2, e3, _⟩
    · cases e
    · cases e; exact ⟨e2, e3⟩
  refine ⟨ua, uc, hv, ?_, ?_, h2.frozenAt _, hr, hc, hd.1, hd.2⟩
  · rw [h2.cellAt _ (by omega)]; exact c1
  · rw [h2.cellAt _ (by omega)]; exact c2

set_option maxRecDepth 100000 in
set_option maxHeartbeats 3200000 in
theorem write49_in_six (n0 q d mb N : Nat) (D : List (List UInt8 × Fil)) (ss0 : List Seg) (s : Seg) (l : List Ent) (x : Ent) (u : Value) (sa : Option Addr) (sc : Nat) (la : Option Addr) (lc : Nat) (w : World)
    (h : Wl n0 w q d mb D (ss0 ++ [s]) l sa sc la lc) (hs : s.at_.length < 8) (hx : x.ok) (h0 : x.i ≠ 0) (hb : x.b.length ≤ 2000) (hu : BtX n0 w u x.b) (htab : PowTab w) (hg : Dg N D) (hN : N < 1000000) (hn : s.n ≤ 99999999) (hss : ss0.length < 1000000000)
    (hae : appendE (segName s.n) (frameL (recL x)) D ≠ 0) :
    Calls Tryz.prog 49 #[.pointer (some ⟨q, 0, none⟩), .agg #[.int .u64 x.i, .int .u64 x.t, u]] w fun e w' => e = .returned (.int .i64 6) ∧ Fr noTypes w w' ∧ Lo n0 mb w w' ∧ Wl n0 w' q d mb D (ss0 ++ [s]) l sa sc la lc := by
  obtain ⟨uo, un, uc0, rfl⟩ : ∃ uo un uc, u = .slice uo un uc := by
    obtain ⟨⟨_, _, uo, uc, rfl, _⟩, _⟩ := hu
    exact ⟨_, _, _, rfl⟩
  obtain ⟨w0, hw0⟩ : ∃ w0, w0 = w.alloc (Obj.cells #[Value.int .u64 x.i, Value.int .u64 x.t, Value.slice uo un uc0] 25) := ⟨_, rfl⟩
  have b0 : Below w.heap.size w w0 := by rw [hw0]; exact (Below.refl w.heap.size w).alloc (Nat.le_refl _) _
  have f0 : Fr noTypes w w0 := Fr.of_below b0 (Nat.le_refl _)
  have hW := h
  obtain ⟨hq, hd, hlow, hlowm, ⟨us, hsg⟩, hes⟩ := h
  obtain ⟨g, rfl⟩ : ∃ g, sa = some ⟨g, 0, none⟩ := by
    rcases hsg.2.1.2 with ⟨e, _⟩ | ⟨g, _, _, e, _⟩
    · simp at e
    · cases e; exact ⟨g, rfl⟩
  have hlen : (ss0 ++ [s]).length = ss0.length + 1 := by simp
  rw [hlen] at hq hsg
  have hB : WrB n0 w0 q d g ss0.length sc la lc (ss0 ++ [s]) us l x (.slice uo un uc0) w.heap.size :=
    ⟨hq.fr f0 id, by rw [hw0]; exact Box.new w _ _ _ rfl, hsg.fr f0 id id, hu.fr0 f0, htab.fr f0, hes.fr f0 id id⟩
  have HD := Lib.hid (hd.below b0 (Nat.le_refl _))
  have HB := Lib.hid hB
  obtain ⟨hr1, hr2⟩ := frameL_len x hx hb
  obtain ⟨e6, e7⟩ := append_six _ _ D (segName_ok s.n hn) hae
  have hA := fun ca cc W (hDW : Dp W d mb D) hv => append92 d mb D (segName s.n) (frameL (recL x)) ca cc W hDW hv hr2 (by have := hg.len; omega) hg.keysS (by have := hg.getLoose (segName s.n); omega) (hg.getNow _)
  rw [e6, e7] at hA
  have HA := Lib.hid hA
  have HW := Lib.hid hW
  have F0 := Lib.hid f0
  have HR1 := Lib.hid hr1
  have HX := Lib.hid hx
  have HBL := Lib.hid hb
  clear hA hq hd hsg hes hlen hB b0 f0 hu htab e6 e7 hae hg hr2 hr1 hx hb hW
  subst hw0
  go_enter Tryz.func49, Tryz.ntmps49
  go_wp2_with (first
    | (go_at_call 7; refine (record7 x _ _ HX.out HB.out.ut.1 h0 HBL.out).mono ?_; rintro e w1 ⟨v1, rfl, own1, b1⟩; obtain ⟨a1, q1, rfl⟩ := own_shape own1)
    | (go_at_call 91; refine (fput91 _ (recL x) _ (Bt.of_own own1) HR1.out).mono ?_; rintro e w2 ⟨v2, rfl, own2, b2⟩; obtain ⟨a2, q2, rfl⟩ := own_shape own2; have b12 := b1.trans (b2.mono b1.size); have HB2 := Lib.hid (HB.out.fr (Fr.of_below b12 (Nat.le_refl _))); have c0 := HB2.out.bq.cell 0 rfl; have c1 := HB2.out.bq.cell 1 rfl; obtain ⟨ua, uc, hus, d0, d1, fz, hown, huc, hsc, hscm⟩ := HB2.out.last; have HUS := Lib.hid hus; have HOWN := Lib.hid hown; clear hus hown fz))
  have b02 : Below w.heap.size w w2 := by
    have h1 := ((Below.refl w.heap.size w).alloc (Nat.le_refl _) (Obj.cells #[Value.int .u64 x.i, Value.int .u64 x.t, Value.slice uo un uc0] 25))
    exact h1.trans (b12.mono (by simp))
  have HDp := Lib.hid ((HD.out.below b12 (Nat.le_refl _)))
  have HO2 := Lib.hid own2
  clear own1 own2 b1 b2 b12
  go_must (go_region_law (first
    | (go_simp; go_at_call 52; (with_reducible refine (name52 s.n hn _ (HB2.out.tab.below ((Below.refl _ _).drew) (Nat.le_refl _))).mono ?_); rintro e w3 ⟨rfl, b3⟩; have b23 : Below w2.heap.size w2 w3 := ((Below.refl _ _).drew).trans (b3.mono (Nat.le_refl _)); have c0b := (HB2.out.fr (Fr.of_below b23 (Nat.le_refl _))).bq.cell 0 rfl)
    | (go_simp; go_at_call 92; (with_reducible refine (HA.out a2 q2 _ (HDp.out.below b23 (Nat.le_refl _)) ((Bt.of_own HO2.out).below b23 (Nat.le_refl _))).mono ?_); rintro e w4 ⟨rfl, hD4, f4⟩)))
  all_goals (
    go_wp2
    go_ret
    have f24 : Fr noTypes w w4 := ((Fr.of_below b02 (Nat.le_refl _)).trans (Fr.of_below b23 (Nat.le_refl _))).trans f4.fr
    exact ⟨rfl, f24, ((Lo.blw b02 (Nat.le_refl _)).trans (Lo.blw b23 (Nat.le_refl _))).trans (f4.lo hlowm), HW.out.disked f24 hD4⟩)
end Go.Proofs.YtpcipfnahknngaaGreatDoor

/- Contract of wal.write of a log with no segment: it is written. No statement of the seat. -/
import Derived.Test.YtpcipfnahknngaaGreatDoorTail
namespace Go.Proofs.YtpcipfnahknngaaGreatDoor
open Go.RowKit Go.Maps

/-- what holds of all worlds ahead of the write to the disk, however many segments there are -/
structure WrA (n0 : Nat) (W : World) (q d : Nat) (sa : Option Addr) (sc : Nat) (la : Option Addr) (lc : Nat) (ss : List Seg) (us : List Value) (l : List Ent) (x : Ent) (u : Value) (b : Nat) : Prop where
  bq : Box W q 37 #[.pointer (some ⟨d, 0, none⟩), .slice sa ss.length sc, .slice la l.length lc]
  bx : Box W b 25 #[.int .u64 x.i, .int .u64 x.t, u]
  sg : SgU n0 W (.slice sa ss.length sc) ss us
  ut : BtX n0 W u x.b
  tab : PowTab W
  es : Es W (.slice la l.length lc) l
theorem WrA.fr {n0 : Nat} {W W' : World} {q d : Nat} {sa : Option Addr} {sc : Nat} {la : Option Addr} {lc : Nat} {ss : List Seg} {us : List Value} {l : List Ent} {x : Ent} {u : Value} {b : Nat} (h : WrA n0 W q d sa sc la lc ss us l x u b) (hf : Fr noTypes W W') : WrA n0 W' q d sa sc la lc ss us l x u b :=
  ⟨h.bq.fr hf id, h.bx.fr hf id, h.sg.fr hf id id, h.ut.fr0 hf, h.tab.fr hf, h.es.fr hf id id⟩
theorem info81 : (Tryz.prog.info? 81).map (fun i => (i.zero, i.size, i.bytes)) = some (some (.agg #[.int .i64 0, .slice none 0 0]), 2, 32) := by kernel_rfl
/-- behind a new segment's row, and the store of the row -/
theorem WrA.snoc {n0 mb : Nat} {W w' : World} {q d : Nat} {sa : Option Addr} {sc : Nat} {la : Option Addr} {lc : Nat} {ss : List Seg} {us : List Value} {l : List Ent} {x : Ent} {u : Value} {b : Nat} (h : WrA n0 W q d sa sc la lc ss us l x u b) (hn2 : 2 < n0) (hlow : n0 ≤ q) (n g c : Nat)
    (ho : w'.ownsRow n0 81 2 (.slice (some ⟨g, 0, none⟩) (ss.length + 1) c) (ss.length + 1) (sgCells ss us ++ [.int .i64 n, .slice none 0 0])) (hgr : W.grownBy w' (Value.slice sa ss.length sc).ownBlock) :
    WrB n0 (w'.setCell ⟨q, 1, none⟩ (.slice (some ⟨g, 0, none⟩) (ss.length + 1) c)) q d g ss.length c la lc (ss ++ [⟨n, []⟩]) (us ++ [.slice none 0 0]) l x u b ∧ Fr walT W (w'.setCell ⟨q, 1, none⟩ (.slice (some ⟨g, 0, none⟩) (ss.length + 1) c)) ∧ Lo n0 mb W (w'.setCell ⟨q, 1, none⟩ (.slice (some ⟨g, 0, none⟩) (ss.length + 1) c)) ∧
      (∀ (mb : Nat) (es : Array MapEntry) (c2 : Nat), W.heap[mb]? = some (Obj.map es c2) → (w'.setCell ⟨q, 1, none⟩ (.slice (some ⟨g, 0, none⟩) (ss.length + 1) c)).heap[mb]? = W.heap[mb]?) := by
  obtain ⟨h1, h2, h3, h4⟩ := h.sg
  have hT := Ty.of_own h2
  have f1 : Fr (fun e => e = 81) W w' := Fr.grown hgr hT rfl
  have hbq := h.bq.grown hgr hT (by decide)
  have f2 : Fr (fun e => e = 37) w' (w'.setCell ⟨q, 1, none⟩ (.slice (some ⟨g, 0, none⟩) (ss.length + 1) c)) := Fr.setCell (Fr.refl _ w') _ (fun cur e fz hh => by
    have h5 : w'.heap[q]? = some (Obj.cells cur e fz) := hh
    have h6 := hbq
    unfold Box at h6
    rw [h6] at h5
    cases h5; rfl)
  have f3 : Fr walT W (w'.setCell ⟨q, 1, none⟩ (.slice (some ⟨g, 0, none⟩) (ss.length + 1) c)) := (f1.mono fun e h => Or.inr (Or.inl h)).trans (f2.mono fun e h => Or.inl h)
  have lo : Lo n0 mb W (w'.setCell ⟨q, 1, none⟩ (.slice (some ⟨g, 0, none⟩) (ss.length + 1) c)) := (Lo.grown hgr h2).setCell _ _ hlow
  have w5 : ¬ walT 5 := by unfold walT; decide
  have w25 : ¬ walT 25 := by unfold walT; decide
  have hl : (ss ++ [(⟨n, []⟩ : Seg)]).length = ss.length + 1 := by simp
  refine ⟨⟨hbq.set 1 _, h.bx.fr f3 w25, ⟨by simp [h1], ?_, fun k hk v hv => ?_, fun j k v v' bb hj hk hb hb' => ?_⟩, h.ut.go f3 w5 lo, h.tab.lo lo hn2, h.es.fr f3 w5 w25⟩, f3, lo, fun mb es c2 hm => ?_⟩
  · rw [hl, sgCells_app ss us h1]
    exact own_fr ho f2 (by decide)
  · rw [hl] at hk
    by_cases hk2 : k < ss.length
    · rw [List.getElem?_append_left (by omega)] at hv
      rw [List.getElem_append_left hk2]
      exact own_fr (own_fr (h3 k hk2 v hv) f1 (by decide)) f2 (by decide)
    · have hk3 : k = ss.length := by omega
      subst hk3
      rw [List.getElem?_append_right (by omega), h1, Nat.sub_self] at hv
      cases hv
      simp only [List.getElem_append_right (Nat.le_refl _), Nat.sub_self, List.getElem_singleton]
      exact World.ownsRow_nil _ _ _ _
  · have key : ∀ (j : Nat) (v : Value), (us ++ [Value.slice none 0 0])[j]? = some v → ∀ bb : Nat, v.ownBlock = some bb → us[j]? = some v := by
      intro j v hj bb hb
      by_cases hj2 : j < us.length
      · rw [List.getElem?_append_left hj2] at hj; exact hj
      · rw [List.getElem?_append_right (by omega)] at hj
        have : j - us.length = 0 := by
          have := (List.getElem?_eq_some_iff.1 hj).1
          simp at this; omega
        rw [this] at hj
        cases hj
        cases hb
    exact h4 j k v v' bb (key j v hj bb hb) (key k v' hk bb hb') hb hb'
  · have e1 := grown_map hgr hT hm
    have hne : mb ≠ q := fun e => by
      have h6 := h.bq
      unfold Box at h6
      rw [← e, hm] at h6
      cases h6
    exact (Below.heap_setCell _ _ _ _ hne).trans e1

theorem name52i (n : Nat) (a : Int) (ha : a = n) (hn : n ≤ 99999999) (w : World) (htab : Lib.TabIs Tryz.prog w "internal/strconv.uint64pow10" .u64 Lib.pow10Tab) :
    Calls Tryz.prog 52 #[.int .i64 a] w fun e w' => e = .returned (.string (tx (segName n))) ∧ Below w.heap.size w w' := by
  subst ha
  exact name52 n hn w htab
/-- a row of segments grows -/
theorem wl_seg {w : World} {ops : Array Oper} {rest : List Oper} {o : Oper} {a : Act} {Q : Exit → Act → World → Prop} (hgd : o.guard = none) (s x : Operand)
    (ho : o.op = .call { callee := .builtin .append, args := #[s, x], argTypes := #[34, 34] }) (n0 : Nat) (ss : List Seg) (us : List Value) (sa : Option Addr) (sc gx n : Nat) (w4 : World) (hf : Below w4.heap.size w4 w)
    (hs : a.eval s = .slice sa ss.length sc) (hown4 : w4.ownsRow n0 81 2 (.slice sa ss.length sc) ss.length (sgCells ss us)) (hx : a.eval x = .slice (some ⟨gx, 0, none⟩) 1 1) (hb : Box w gx 81 #[.int .i64 n, .slice none 0 0])
    (hlen : ss.length < 2000000000) (hbase : n0 ≤ w.heap.size)
    (h : ∀ W g cap w', Below w4.heap.size w4 W → w'.ownsRow n0 81 2 (.slice (some ⟨g, 0, none⟩) (ss.length + 1) cap) (ss.length + 1) (sgCells ss us ++ [.int .i64 n, .slice none 0 0]) → W.grownBy w' (Value.slice sa ss.length sc).ownBlock → wpList Tryz.prog ops Q rest (a.put o.dst (.slice (some ⟨g, 0, none⟩) (ss.length + 1) cap)) w') : wpList Tryz.prog ops Q (o :: rest) a w := by
  obtain ⟨i0, hi, hz0, hz1, hz2⟩ := info_parts info81
  have hown := own_fr hown4 (Fr.of_below (M := noTypes) hf (Nat.le_refl _)) id
  refine wpList_append_lies w hgd s x 34 ho n0 81 i0 (.agg #[.int .i64 0, .slice none 0 0]) 2 32 Tryz.underlying34 hi hz0 hz1 hz2 rfl (by decide) _ ss.length _ hs hown ⟨gx, 0, none⟩ 1 1 [.int .i64 n, .slice none 0 0] hx rfl (World.news_of_block (cs := #[.int .i64 n, .slice none 0 0]) hb) (by simp [Value.oneCell']) (by decide) (by unfold maxLen; omega) (by omega) hbase _ rfl
    fun g cap w' h1 h2 _ _ => h w g cap w' hf h1 h2

set_option maxRecDepth 100000 in
set_option maxHeartbeats 6400000 in
theorem write49_new_ok (n0 q d mb N : Nat) (D : List (List UInt8 × Fil)) (l : List Ent) (x : Ent) (u : Value) (sa : Option Addr) (sc : Nat) (la : Option Addr) (lc : Nat) (w : World)
    (h : Wl n0 w q d mb D [] l sa sc la lc) (hn2 : 2 < n0) (hx : x.ok) (h0 : x.i ≠ 0) (hb : x.b.length ≤ 2000) (hu : BtX n0 w u x.b) (htab : PowTab w) (hg : Dg N D) (hN : N < 1000000) (hl : l.length < 1000000000)
    (hae : appendE (segName 1) (frameL (recL x)) D = 0) :
    Calls Tryz.prog 49 #[.pointer (some ⟨q, 0, none⟩), .agg #[.int .u64 x.i, .int .u64 x.t, u]] w fun e w' => e = .returned (.int .i64 0) ∧ Fr walT w w' ∧ Lo n0 mb w w' ∧ WlE n0 w' q d mb (appendD (segName 1) (frameL (recL x)) D) [⟨1, [x.i]⟩] (putE l x) := by
  obtain ⟨uo, un, uc0, rfl⟩ : ∃ uo un uc, u = .slice uo un uc := by
    obtain ⟨⟨_, _, uo, uc, rfl, _⟩, _⟩ := hu
    exact ⟨_, _, _, rfl⟩
  obtain ⟨w0, hw0⟩ : ∃ w0, w0 = w.alloc (Obj.cells #[Value.int .u64 x.i, Value.int .u64 x.t, Value.slice uo un uc0] 25) := ⟨_, rfl⟩
  have b0 : Below w.heap.size w w0 := by rw [hw0]; exact (Below.refl w.heap.size w).alloc (Nat.le_refl _) _
  have f0 : Fr noTypes w w0 := Fr.of_below b0 (Nat.le_refl _)
  have hW := h
  obtain ⟨hq, hd, hlow, hlowm, ⟨us, hsg⟩, hes⟩ := h
  have hB : WrA n0 w0 q d sa sc la lc [] us l x (.slice uo un uc0) w.heap.size :=
    ⟨hq.fr f0 id, by rw [hw0]; exact Box.new w _ _ _ rfl, hsg.fr f0 id id, hu.fr0 f0, htab.fr f0, hes.fr f0 id id⟩
  have HD := Lib.hid (hd.below b0 (Nat.le_refl _))
  have HB := Lib.hid hB
  obtain ⟨hr1, hr2⟩ := frameL_len x hx hb
  have hA := fun ca cc W (hDW : Dp W d mb D) hv => append92 d mb D (segName 1) (frameL (recL x)) ca cc W hDW hv hr2 (by have := hg.len; omega) hg.keysS (by have := hg.getLoose (segName 1); omega) (hg.getNow _)
  rw [hae] at hA
  have HA := Lib.hid hA
  have HW := Lib.hid hW
  have F0 := Lib.hid f0
  have HR1 := Lib.hid hr1
  have HX := Lib.hid hx
  have HBL := Lib.hid hb
  clear hA hq hd hsg hes hB b0 f0 hu htab hae hg hr2 hr1 hx hb hW
  subst hw0
  go_enter Tryz.func49, Tryz.ntmps49
  go_upto_region 13 with (first
    | (go_at_call 7; refine (record7 x _ _ HX.out HB.out.ut.1 h0 HBL.out).mono ?_; rintro e w1 ⟨v1, rfl, own1, b1⟩; obtain ⟨a1, q1, rfl⟩ := own_shape own1)
    | (go_at_call 91; refine (fput91 _ (recL x) _ (Bt.of_own own1) HR1.out).mono ?_; rintro e w2 ⟨v2, rfl, own2, b2⟩; obtain ⟨a2, q2, rfl⟩ := own_shape own2; have b12 := b1.trans (b2.mono b1.size); have HB2 := Lib.hid (HB.out.fr (Fr.of_below b12 (Nat.le_refl _))); have c0 := HB2.out.bq.cell 0 rfl; have c1 := HB2.out.bq.cell 1 rfl))
  have b02 : Below w.heap.size w w2 := by
    have h1 := ((Below.refl w.heap.size w).alloc (Nat.le_refl _) (Obj.cells #[Value.int .u64 x.i, Value.int .u64 x.t, Value.slice uo un uc0] 25))
    exact h1.trans (b12.mono (by simp))
  have HDp := Lib.hid ((HD.out.below b12 (Nat.le_refl _)))
  have HO2 := Lib.hid own2
  clear own1 own2 b1 b2 b12
  go_cut [12] (fun s12 wx => s12 = .int .i64 0 ∧ Dp wx d mb (appendD (segName 1) (frameL (recL x)) D) ∧ Fm mb w2 wx)
  case first =>
    go_must (go_region_law (first
      | (go_simp; go_at_call 52; (with_reducible refine (name52i 1 1 rfl (by decide) _ (HB2.out.tab.below ((Below.refl _ _).drew) (Nat.le_refl _))).mono ?_); rintro e w3 ⟨rfl, b3⟩; have b23 : Below w2.heap.size w2 w3 := ((Below.refl _ _).drew).trans (b3.mono (Nat.le_refl _)); have c0b := (HB2.out.fr (Fr.of_below b23 (Nat.le_refl _))).bq.cell 0 rfl)
      | (go_simp; go_at_call 92; (with_reducible refine (HA.out a2 q2 _ (HDp.out.below b23 (Nat.le_refl _)) ((Bt.of_own HO2.out).below b23 (Nat.le_refl _))).mono ?_); rintro e w4 ⟨rfl, hD4, f4⟩)))
    all_goals (go_wp2_with fail; go_meet; exact ⟨rfl, hD4, (Fm.of_below b23 (Nat.le_refl _)).trans f4⟩)
  case rest =>
  obtain ⟨rfl, hD4, m24⟩ := hcut
  have f24 := m24.fr
  have LO24 := Lib.hid (m24.lo hlowm)
  clear m24
  rename World => w4
  have HB4 := Lib.hid (HB2.out.fr f24)
  have F24 := Lib.hid f24
  have HD4 := Lib.hid hD4
  clear c0 c1 f24 hD4
  have c1q := HB4.out.bq.cell 1 rfl
  have fzq := HB4.out.bq.froz 1
  go_upto_region 16 with fail
  rename_i kk hkk _ _
  have HK := Lib.hid hkk
  clear hkk
  have hq4 : q < w4.heap.size := HB4.out.bq.lt
  have hn0 : n0 ≤ w4.heap.size := Nat.le_trans hlow (Nat.le_of_lt hq4)
  go_wp2_with (at_builtin; go_must (refine wl_seg rfl _ _ rfl n0 [] us sa sc _ 1 w4 (by repeat (first | exact Below.refl _ _ | refine Below.alloc ?_ (by first | omega | (simp; done) | (simp; omega)) _)) rfl HB4.out.sg.2.1 rfl (Box.new _ _ _ _ rfl) (by decide) (by simp; omega) ?_); intro W5 g5 c5 w5 hb45 own5 grow5; have f45 : Fr (fun e => e = 81) w4 w5 := ((Fr.of_below (M := noTypes) hb45 (Nat.le_refl _)).mono fun _ => False.elim).trans (Fr.grown grow5 (Ty.of_own (own_fr HB4.out.sg.2.1 (Fr.of_below (M := noTypes) hb45 (Nat.le_refl _)) id)) rfl); have hbq5 := HB4.out.bq.fr f45 (by decide); have c15 := hbq5.cell 1 rfl; have fz5 := hbq5.froz 1)
  have b45 : Fr noTypes w4 W5 := Fr.of_below hb45 (Nat.le_refl _)
  obtain ⟨s1, s2, s3, s4⟩ := WrA.snoc (mb := mb) (HB4.out.fr b45) hn2 hlow 1 g5 c5 own5 grow5
  obtain ⟨es, c, hm⟩ := HD4.out.map
  have e1 := hb45.block mb (lt_of_get hm)
  have e2 := (s4 mb es c (e1.trans hm)).trans e1
  have s2' := (b45.mono fun _ => False.elim).trans s2
  have w5 : ¬ walT 5 := by unfold walT; decide
  have w108 : ¬ walT 108 := by unfold walT; decide
  have w91 : ¬ walT 91 := by unfold walT; decide
  refine HK.out _ _ ?_
  refine tail49 n0 q d mb g5 c5 w.heap.size _ [] ⟨1, []⟩ _ l x uo un uc0 la lc _ _ _ _ _ _ _ _ _ _ _ _ _ _ _ _ _ _ _ _ _ _ _ _ _ _ _ _ _ _ _ _ _ _ _ _ _ _ _ _ _ _ _ _ _ _ _ _ _ _ _ _ _ _ _ _ _ _ _ _ _ _ _ _ _ _ _ _ _ _ _ _ _ _ _ _ _ _ _ _ _ _ _ _ _ _ _ _ _ _ _ _ _ _ _ _ _ _ _ _ _ _ _ _ _ _ _ _ _ _ _ _ _ _ _ _ _ s1 hlow hlowm (HD4.out.fr s2' w5 w108 w91 e2) (by decide) (by decide) hl HBL.out ?_
  intro w' hf hlo hW'
  have f04 := (Fr.of_below b02 (Nat.le_refl _)).trans F24.out
  exact ⟨rfl, ((f04.mono fun _ => False.elim).trans s2').trans hf, ((((Lo.blw b02 (Nat.le_refl _)).trans LO24.out).trans (Lo.blw hb45 (Nat.le_refl _))).trans s3).trans hlo, hW'⟩
end Go.Proofs.YtpcipfnahknngaaGreatDoor

/- Contract of wal.Append. No statement of the seat. -/
import Derived.Test.YtpcipfnahknngaaGreatDoorAp
namespace Go.Proofs.YtpcipfnahknngaaGreatDoor
open Go.RowKit Go.Maps

set_option maxRecDepth 100000 in
set_option maxHeartbeats 6400000 in
theorem append12 (n0 q d mb N : Nat) (D : List (List UInt8 × Fil)) (ss : List Seg) (l arg : List Ent) (ao : Option Addr) (ac : Nat) (w : World)
    (h : WlE n0 w q d mb D ss l) (hn2 : 2 < n0) (harg : EsX n0 w (.slice ao arg.length ac) arg) (hx : ∀ x ∈ arg, x.ok) (hli : ∀ x ∈ l, x.i < 18446744073709551616) (htab : PowTab w) (hg : Dg N D) (hN : N < 400000) (hok : SgOk ss) (hss : ss.length < 400000000) (hl : l.length < 400000000) (ha : arg.length < 100000) :
    Calls Tryz.prog 12 #[.pointer (some ⟨q, 0, none⟩), .slice ao arg.length ac] w fun e w' => e = .returned (.int .i64 (appR arg D ss l).1) ∧ Fr walT w w' ∧ Lo n0 mb w w' ∧
      WlE n0 w' q d mb (appR arg D ss l).2.1 (appR arg D ss l).2.2.1 (appR arg D ss l).2.2.2 := by
  have hW := h
  obtain ⟨sa, sc, la, lc, h⟩ := h
  have hth := there48 q d w (h.box.cell 0 rfl)
  have HTH := Lib.hid hth
  have c2 := h.box.cell 2 rfl
  obtain ⟨hlc1, hlc2⟩ := h.es.cap
  have HES := Lib.hid h.es
  have HARG := Lib.hid harg
  have HW := Lib.hid hW
  unfold maxLen at hlc2
  have rest : ∀ (o : Option Nat) (W : World) (hb : Below w.heap.size w W) (ho : ∀ p, o = some p → p < 18446744073709551616) (ho2 : lastI l = o) (P : Ending → World → Prop)
     (hP : ∀ e w', e = .returned (.int .i64 (appR arg D ss l).1) → Fr walT w w' → Lo n0 mb w w' → WlE n0 w' q d mb (appR arg D ss l).2.1 (appR arg D ss l).2.2.1 (appR arg D ss l).2.2.2 → P e w'),
      (goodI o arg = false → ∀ w', Below W.heap.size W w' → P (.returned (.int .i64 2)) w') ∧ (goodI o arg = true → (¬ ∀ x ∈ arg, x.b.length ≤ 2000) → ∀ w', Below W.heap.size W w' → P (.returned (.int .i64 3)) w') ∧
      (goodI o arg = true → (∀ x ∈ arg, x.b.length ≤ 2000) → ∀ w', Fr walT W w' → Lo n0 mb W w' → WlE n0 w' q d mb (appW arg D ss l).2.1 (appW arg D ss l).2.2.1 (appW arg D ss l).2.2.2 → P (.returned (.int .i64 (appW arg D ss l).1)) w') := by
    intro o W hb ho ho2 P hP
    have fb : Fr walT w W := Fr.of_below hb (Nat.le_refl _)
    have lb : Lo n0 mb w W := Lo.blw hb (Nat.le_refl _)
    refine ⟨fun hgd w' hw' => ?_, fun hgd hsh w' hw' => ?_, fun hgd hsh w' hf hlo hwl => ?_⟩
    · have e : appR arg D ss l = (2, D, ss, l) := by unfold appR; rw [ho2, hgd]; rfl
      refine hP _ w' (by rw [e]; rfl) (fb.trans (Fr.of_below hw' (Nat.le_refl _))) (lb.trans (Lo.blw hw' (Nat.le_refl _))) ?_
      rw [e]
      exact (HW.out.below hb (Nat.le_refl _)).below hw' (Nat.le_refl _)
    · have e : appR arg D ss l = (3, D, ss, l) := by unfold appR; rw [ho2, if_pos hgd, if_neg hsh]
      refine hP _ w' (by rw [e]; rfl) (fb.trans (Fr.of_below hw' (Nat.le_refl _))) (lb.trans (Lo.blw hw' (Nat.le_refl _))) ?_
      rw [e]
      exact (HW.out.below hb (Nat.le_refl _)).below hw' (Nat.le_refl _)
    · have e : appR arg D ss l = appW arg D ss l := by unfold appR; rw [ho2, if_pos hgd, if_pos hsh]
      refine hP _ w' (by rw [e]) (fb.trans hf) (lb.trans hlo) ?_
      rw [e]
      exact hwl
  have REST := Lib.hid rest
  have HX := Lib.hid hx
  have HT := Lib.hid htab
  have HG := Lib.hid hg
  have HOK := Lib.hid hok
  have HLI := Lib.hid hli
  clear rest hth h hW harg hx htab hg hok hli
  by_cases hl0 : 0 < l.length
  · obtain ⟨g, off, uo, uc, rfl, e0, _, _, _⟩ := HES.out.cells (l.length - 1) (by omega)
    have hd0 : decide ((0 : Int) < (l.length : Int)) = true := decide_eq_true (by omega)
    have hlast : lastI l = some (l[l.length - 1]'(by omega)).i := by
      unfold lastI
      rw [List.getLast?_eq_getElem?, List.getElem?_eq_getElem (by omega)]; rfl
    have hlm := HLI.out _ (List.getElem_mem (show l.length - 1 < l.length by omega))
    obtain ⟨p, hp⟩ : ∃ p, p = (l[l.length - 1]'(by omega)).i := ⟨_, rfl⟩
    rw [← hp] at e0 hlast hlm
    have HLAST := Lib.hid hlast
    clear hlast hp
    go_enter Tryz.func12, Tryz.ntmps12
    go_upto_region 3 with (go_at_call 48; refine HTH.out.mono ?_; rintro e w1 ⟨rfl, hw1⟩; have hw2 := hw1.symm; subst hw2)
    go_quiet (fail)
    rename Nat => nq0
    go_upto_region 4 with fail
    rename_i kk hkk _ _
    have HK := Lib.hid hkk
    clear hkk
    go_wp2_with (fail)
    go_quiet (fail)
    show kk _ _
    have hb : Below w.heap.size w ((w.drewN nq0).drewN nq) := ⟨rfl, rfl, rfl, Nat.le_refl _, fun _ _ => rfl⟩
    obtain ⟨r1, r2, r3⟩ := REST.out (some p) _ hb (fun y hy => by cases hy; exact hlm) (HLAST.out) (fun e w' => e = .returned (.int .i64 (appR arg D ss l).1) ∧ Fr walT w w' ∧ Lo n0 mb w w' ∧ WlE n0 w' q d mb (appR arg D ss l).2.1 (appR arg D ss l).2.2.1 (appR arg D ss l).2.2.2) (fun e w' h1 h2 h3 h4 => ⟨h1, h2, h3, h4⟩)
    refine HK.out _ _ ?_
    exact tail12 n0 q d mb N D ss l arg (some p) ao ac _ _ _ _ _ _ _ _ _ _ _ _ _ _ _ _ _ _ _ _ _ _ _ _ _ _ _ _ _ _ _ _ _ _ _ _ _ _ _ _ _ _ _ _ _ _ _ _ _ _ _ _ _ _ _ _ _ _ _ _ _ _ _ _ _ _ _ _ _ _ _ _ _ _ _ _ _ _ _ _ _ (HW.out.below hb (Nat.le_refl _)) hn2 (HARG.out.fr0 (Fr.of_below hb (Nat.le_refl _))) HX.out (fun y hy => by cases hy; exact hlm) (HT.out.below hb (Nat.le_refl _)) HG.out hN HOK.out hss hl ha r1 r2 r3
  · have hln : l = [] := List.eq_nil_of_length_eq_zero (by omega)
    have hd0 : decide ((0 : Int) < (l.length : Int)) = false := decide_eq_false (by omega)
    have hlast : lastI l = none := by rw [hln]; rfl
    have HLAST := Lib.hid hlast
    clear hlast hln
    go_enter Tryz.func12, Tryz.ntmps12
    go_upto_region 3 with (go_at_call 48; refine HTH.out.mono ?_; rintro e w1 ⟨rfl, hw1⟩; have hw2 := hw1.symm; subst hw2)
    go_quiet (fail)
    rename Nat => nq0
    go_upto_region 4 with fail
    rename_i kk hkk _ _
    have HK := Lib.hid hkk
    clear hkk
    go_wp2_with (fail)
    have hb : Below w.heap.size w ((w.drewN nq0)) := ⟨rfl, rfl, rfl, Nat.le_refl _, fun _ _ => rfl⟩
    obtain ⟨r1, r2, r3⟩ := REST.out (none) _ hb (fun y hy => by cases hy) (HLAST.out) (fun e w' => e = .returned (.int .i64 (appR arg D ss l).1) ∧ Fr walT w w' ∧ Lo n0 mb w w' ∧ WlE n0 w' q d mb (appR arg D ss l).2.1 (appR arg D ss l).2.2.1 (appR arg D ss l).2.2.2) (fun e w' h1 h2 h3 h4 => ⟨h1, h2, h3, h4⟩)
    refine HK.out _ _ ?_
    exact tail12 n0 q d mb N D ss l arg (none) ao ac _ _ _ _ _ _ _ _ _ _ _ _ _ _ _ _ _ _ _ _ _ _ _ _ _ _ _ _ _ _ _ _ _ _ _ _ _ _ _ _ _ _ _ _ _ _ _ _ _ _ _ _ _ _ _ _ _ _ _ _ _ _ _ _ _ _ _ _ _ _ _ _ _ _ _ _ _ _ _ _ _ (HW.out.below hb (Nat.le_refl _)) hn2 (HARG.out.fr0 (Fr.of_below hb (Nat.le_refl _))) HX.out (fun y hy => by cases hy) (HT.out.below hb (Nat.le_refl _)) HG.out hN HOK.out hss hl ha r1 r2 r3
end Go.Proofs.YtpcipfnahknngaaGreatDoor

/- Contracts of disk.Replace, Append. No statement of the seat. -/
import Derived.Test.YtpcipfnahknngaaGreatDoorDiskOps
namespace Go.Proofs.YtpcipfnahknngaaGreatDoor
open Go.RowKit Go.Maps

def fullR (k b : List UInt8) (D : List (List UInt8 × Fil)) : Bool := decide (1048576 < b.length) || (!((getK k D).getD noFil).isNow && decide (64 ≤ manyS D))
def replaceE (k b : List UInt8) (D : List (List UInt8 × Fil)) : Nat := if badName k then 2 else if fullR k b D then 6 else 0
def replaceD (k b : List UInt8) (D : List (List UInt8 × Fil)) : List (List UInt8 × Fil) := if badName k || fullR k b D then D else putK k (chgF ((getK k D).getD noFil) ⟨true, false, b⟩) D

set_option maxRecDepth 100000 in
set_option maxHeartbeats 3200000 in
theorem replace26 (d mb : Nat) (D : List (List UInt8 × Fil)) (k b : List UInt8) (ca : Option Addr) (cc : Nat) (w : World) (h : Dp w d mb D) (hv : Bt w (.slice ca b.length cc) b) (hbl : b.length ≤ 140737488351232) (hn : D.length < 1000000000)
    (hk : ∀ k ∈ keysS D, k.length ≤ 64) (hl : ((getK k D).getD noFil).loose.length < 1000000000000) :
    Calls Tryz.prog 26 #[.pointer (some ⟨d, 0, none⟩), .string (tx k), .slice ca b.length cc] w fun e w' => e = .returned (.int .i64 (replaceE k b D)) ∧ Dp w' d mb (replaceD k b D) ∧ Fm mb w w' := by
  cases hb : badName k with
  | true =>
    have e1 : replaceE k b D = 2 := by unfold replaceE; rw [hb]; rfl
    have e2 : replaceD k b D = D := by unfold replaceD; rw [hb]; rfl
    rw [e1, e2]
    go_enter Tryz.func26, Tryz.ntmps26
    go_wp2_with (go_at_call 72; refine (may72_bad d mb D k _ h hb).mono ?_; rintro e w1 ⟨rfl, rfl⟩)
    go_ret
    exact ⟨rfl, h, Fm.refl _ _⟩
  | false =>
    have hk64 : k.length ≤ 64 := by have := of_decide_eq_false hb; omega
    have hkm : k.length ≤ maxLen := by unfold maxLen; omega
    obtain ⟨f, hf0⟩ : ∃ f, f = (getK k D).getD noFil := ⟨_, rfl⟩
    obtain ⟨sa, sc, na, nc, la, lc, hrun, _, hT⟩ := look_run _ mb D h.2 k hkm
    have hfld := field106 sa na la f.sure.length sc f.now.length nc f.loose.length lc f.isSure f.isNow w
    have hput := fun va vc w1 hD hc => put74_whole d mb D k va vc b w1 hD hc hk64 (by unfold maxLen; omega) hl
    have hmany := many73 d mb D w h hn hk
    obtain ⟨mm, hmm⟩ : ∃ mm, mm = manyS D := ⟨_, rfl⟩
    rw [← hf0] at hrun hput
    rw [← hmm] at hmany
    have hmle : mm ≤ D.length := by rw [hmm]; exact manyS_le D
    have hfull : fullR k b D = (decide (1048576 < b.length) || (!f.isNow && decide (64 ≤ mm))) := by unfold fullR; rw [hf0, hmm]
    have hcell := h.cell
    have HP := Lib.hid hput
    have HM := Lib.hid hmany
    have HV := Lib.hid hv
    have HH := Lib.hid h
    have HK := Lib.hid hk
    have HHL := Lib.hid hl
    have HF := Lib.hid hf0
    clear hf0 hmm hT hput hmany hv h hk hl
    cases hF : fullR k b D with
    | true =>
      have e1 : replaceE k b D = 6 := by unfold replaceE; rw [hb, hF]; rfl
      have e2 : replaceD k b D = D := by unfold replaceD; rw [hb, hF]; rfl
      rw [e1, e2]
      rw [hF] at hfull
      clear e1 e2
      by_cases hbig : 1048576 < b.length
      · clear hfull
        go_enter Tryz.func26, Tryz.ntmps26
        go_wp2_with (first
          | (go_at_call 72; refine (may72 d mb D k _ HH.out hb).mono ?_; rintro e w1 ⟨rfl, rfl⟩))
        go_ret
        exact ⟨rfl, HH.out, Fm.refl _ _⟩
      · rw [decide_eq_false hbig] at hfull
        cases hN : f.isNow with
        | true => rw [hN] at hfull; simp at hfull
        | false =>
          rw [hN] at hfull hrun hfld
          have h64 : 64 ≤ mm := by simpa using hfull
          clear hfull
          have hbig2 : b.length ≤ 1048576 := by omega
          go_enter Tryz.func26, Tryz.ntmps26
          go_wp2_with (first
            | (go_at_call 72; refine (may72 d mb D k _ HH.out hb).mono ?_; rintro e w1 ⟨rfl, rfl⟩)
            | (go_at_call 73; refine HM.out.mono ?_; rintro e w2 ⟨rfl, hb2⟩))
          go_ret
          exact ⟨rfl, HH.out.below hb2 (Nat.le_refl _), Fm.of_below hb2 (Nat.le_refl _)⟩
    | false =>
      have e1 : replaceE k b D = 0 := by unfold replaceE; rw [hb, hF]; rfl
      have e2 : replaceD k b D = putK k (chgF f ⟨true, false, b⟩) D := by unfold replaceD; rw [hb, hF, HF.out]; rfl
      rw [e1, e2]
      clear e1 e2
      rw [hF] at hfull
      have hbig2 : b.length ≤ 1048576 := by
        rcases Nat.lt_or_ge 1048576 b.length with h1 | h1
        · rw [decide_eq_true h1] at hfull; simp at hfull
        · exact h1
      cases hN : f.isNow with
      | true =>
        rw [hN] at hrun hfld
        clear hfull
        go_enter Tryz.func26, Tryz.ntmps26
        go_wp2_with (first
            | (go_at_call 72; refine (may72 d mb D k _ HH.out hb).mono ?_; rintro e w1 ⟨rfl, rfl⟩)
            | (go_at_call 56; refine (clone56 _ b _ HV.out hbl).mono ?_; rintro e w2 ⟨v, rfl, hown, hb2⟩; obtain ⟨va, vc, rfl⟩ := own_shape hown)
            | (go_at_call 74; refine (HP.out va vc w2 (HH.out.below hb2 (Nat.le_refl _)) (BtT.of_own hown)).mono ?_; rintro e w3 ⟨rfl, hD3, hf3⟩))
        go_ret
        exact ⟨rfl, hD3, (Fm.of_below hb2 (Nat.le_refl _)).trans hf3⟩
      | false =>
        rw [hN] at hrun hfld hfull
        have h64 : mm < 64 := by
          have : decide (1048576 < b.length) = false := decide_eq_false (by omega)
          rw [this] at hfull
          simpa using hfull
        clear hfull
        go_enter Tryz.func26, Tryz.ntmps26
        go_wp2_with (first
            | (go_at_call 72; refine (may72 d mb D k _ HH.out hb).mono ?_; rintro e w1 ⟨rfl, rfl⟩)
            | (go_at_call 73; refine HM.out.mono ?_; rintro e w0 ⟨rfl, hb0⟩)
            | (go_at_call 56; refine (clone56 _ b _ (HV.out.below hb0 (Nat.le_refl _)) hbl).mono ?_; rintro e w2 ⟨v, rfl, hown, hb2⟩; obtain ⟨va, vc, rfl⟩ := own_shape hown)
            | (go_at_call 74; refine (HP.out va vc w2 ((HH.out.below hb0 (Nat.le_refl _)).below hb2 (Nat.le_refl _)) (BtT.of_own hown)).mono ?_; rintro e w3 ⟨rfl, hD3, hf3⟩))
        go_ret
        exact ⟨rfl, hD3, ((Fm.of_below hb0 (Nat.le_refl _)).trans (Fm.of_below hb2 (Nat.le_refl _))).trans hf3⟩

def fullA (k b : List UInt8) (D : List (List UInt8 × Fil)) : Bool := decide (1048576 < ((getK k D).getD noFil).now.length + b.length) || (!((getK k D).getD noFil).isNow && decide (64 ≤ manyS D))
def appendE (k b : List UInt8) (D : List (List UInt8 × Fil)) : Nat := if badName k then 2 else if fullA k b D then 6 else 0
def appendD (k b : List UInt8) (D : List (List UInt8 × Fil)) : List (List UInt8 × Fil) := if badName k || fullA k b D then D else putK k (chgF ((getK k D).getD noFil) ⟨!((getK k D).getD noFil).isNow, false, b⟩) D

set_option maxRecDepth 100000 in
set_option maxHeartbeats 3200000 in
theorem append92 (d mb : Nat) (D : List (List UInt8 × Fil)) (k b : List UInt8) (ca : Option Addr) (cc : Nat) (w : World) (h : Dp w d mb D) (hv : Bt w (.slice ca b.length cc) b) (hbl : b.length ≤ 1407374883) (hn : D.length < 1000000000)
    (hk : ∀ k ∈ keysS D, k.length ≤ 64) (hl : ((getK k D).getD noFil).loose.length < 1000000000000) (hnl : ((getK k D).getD noFil).now.length ≤ 1048576) :
    Calls Tryz.prog 92 #[.pointer (some ⟨d, 0, none⟩), .string (tx k), .slice ca b.length cc] w fun e w' => e = .returned (.int .i64 (appendE k b D)) ∧ Dp w' d mb (appendD k b D) ∧ Fm mb w w' := by
  cases hb : badName k with
  | true =>
    have e1 : appendE k b D = 2 := by unfold appendE; rw [hb]; rfl
    have e2 : appendD k b D = D := by unfold appendD; rw [hb]; rfl
    rw [e1, e2]
    go_enter Tryz.func92, Tryz.ntmps92
    go_wp2_with (go_at_call 72; refine (may72_bad d mb D k _ h hb).mono ?_; rintro e w1 ⟨rfl, rfl⟩)
    go_ret
    exact ⟨rfl, h, Fm.refl _ _⟩
  | false =>
    have hk64 : k.length ≤ 64 := by have := of_decide_eq_false hb; omega
    have hkm : k.length ≤ maxLen := by unfold maxLen; omega
    obtain ⟨f, hf0⟩ : ∃ f, f = (getK k D).getD noFil := ⟨_, rfl⟩
    obtain ⟨sa, sc, na, nc, la, lc, hrun, _, hT⟩ := look_run _ mb D h.2 k hkm
    have hputA := fun va vc w1 hD hc => put74_app d mb D k va vc b w1 hD hc hk64 (by unfold maxLen; omega) hl (by omega)
    have hputW := fun va vc w1 hD hc => put74_whole d mb D k va vc b w1 hD hc hk64 (by unfold maxLen; omega) hl
    have hmany : ∀ W, Dp W d mb D → _ := fun W hW => many73 d mb D W hW hn hk
    obtain ⟨mm, hmm⟩ : ∃ mm, mm = manyS D := ⟨_, rfl⟩
    rw [← hf0] at hrun hputA hputW hnl
    rw [← hmm] at hmany
    have hmle : mm ≤ D.length := by rw [hmm]; exact manyS_le D
    have hfull : fullA k b D = (decide (1048576 < f.now.length + b.length) || (!f.isNow && decide (64 ≤ mm))) := by unfold fullA; rw [hf0, hmm]
    have hcell := h.cell
    have HPA := Lib.hid hputA
    have HPW := Lib.hid hputW
    have HM := Lib.hid hmany
    have HV := Lib.hid hv
    have HH := Lib.hid h
    have HK := Lib.hid hk
    have HHL := Lib.hid hl
    have HF := Lib.hid hf0
    have hbx := (Below.refl w.heap.size w).alloc (Nat.le_refl _) (Obj.cells #[Value.slice sa f.sure.length sc, Value.slice na f.now.length nc, Value.bool f.isSure, Value.bool f.isNow, Value.slice la f.loose.length lc] 106)
    clear hf0 hmm hT hputA hputW hmany hv h hk hl
    cases hF : fullA k b D with
    | true =>
      have e1 : appendE k b D = 6 := by unfold appendE; rw [hb, hF]; rfl
      have e2 : appendD k b D = D := by unfold appendD; rw [hb, hF]; rfl
      rw [e1, e2]
      rw [hF] at hfull
      clear e1 e2
      by_cases hbig : 1048576 < f.now.length + b.length
      · clear hfull
        go_enter Tryz.func92, Tryz.ntmps92
        go_wp2_with (first
          | (go_at_call 72; refine (may72 d mb D k _ HH.out hb).mono ?_; rintro e w1 ⟨rfl, rfl⟩))
        go_ret
        exact ⟨rfl, HH.out.below hbx (Nat.le_refl _), Fm.of_below hbx (Nat.le_refl _)⟩
      · rw [decide_eq_false hbig] at hfull
        cases hN : f.isNow with
        | true => rw [hN] at hfull; simp at hfull
        | false =>
          rw [hN] at hfull hrun hbx
          have h64 : 64 ≤ mm := by simpa using hfull
          clear hfull
          have hbig2 : f.now.length + b.length ≤ 1048576 := by omega
          go_enter Tryz.func92, Tryz.ntmps92
          go_wp2_with (first
            | (go_at_call 72; refine (may72 d mb D k _ HH.out hb).mono ?_; rintro e w1 ⟨rfl, rfl⟩)
            | (go_at_call 73; refine (HM.out _ (HH.out.below hbx (Nat.le_refl _))).mono ?_; rintro e w2 ⟨rfl, hb2⟩))
          go_ret
          have hb3 := hbx.trans (hb2.mono (by simp))
          exact ⟨rfl, HH.out.below hb3 (Nat.le_refl _), Fm.of_below hb3 (Nat.le_refl _)⟩
    | false =>
      have e1 : appendE k b D = 0 := by unfold appendE; rw [hb, hF]; rfl
      have e2 : appendD k b D = putK k (chgF f ⟨!f.isNow, false, b⟩) D := by unfold appendD; rw [hb, hF, HF.out]; rfl
      rw [e1, e2]
      clear e1 e2
      rw [hF] at hfull
      have hbig2 : f.now.length + b.length ≤ 1048576 := by
        rcases Nat.lt_or_ge 1048576 (f.now.length + b.length) with h1 | h1
        · rw [decide_eq_true h1] at hfull; simp at hfull
        · exact h1
      cases hN : f.isNow with
      | true =>
        rw [hN] at hrun hbx
        clear hfull
        go_enter Tryz.func92, Tryz.ntmps92
        go_wp2_with (first
            | (go_at_call 72; refine (may72 d mb D k _ HH.out hb).mono ?_; rintro e w1 ⟨rfl, rfl⟩))
        have hbox := Box.new w1 w1.heap.size 106 #[Value.slice sa f.sure.length sc, Value.slice na f.now.length nc, Value.bool f.isSure, Value.bool true, Value.slice la f.loose.length lc] rfl
        have hbl2 := hbox.lt
        have HD := HH.out.below hbx (Nat.le_refl _)
        have hV2 := HV.out.below hbx (Nat.le_refl _)
        obtain ⟨W, hW⟩ : ∃ W, W = w1.alloc (Obj.cells #[Value.slice sa f.sure.length sc, Value.slice na f.now.length nc, Value.bool f.isSure, Value.bool true, Value.slice la f.loose.length lc] 106) := ⟨_, rfl⟩
        rw [← hW] at hbox hbl2 HD hV2 hbx ⊢
        have HW := Lib.hid hW
        clear hW
        have k3 := hbox.cell 3 rfl
        go_must (go_region_law (first
          | (go_simp; go_at_call 56
             (with_reducible refine (clone56 _ b _ ((hV2.below (B := W.heap.size) (by repeat (first | exact Below.refl _ _ | refine Below.drew ?_ | refine Below.alloc ?_ (by first | omega | (simp; done) | (simp; omega)) _)) (Nat.le_refl _))) (by omega)).mono ?_)
             rintro e w3 ⟨v, rfl, hown, hb3⟩
             obtain ⟨va, vc, rfl⟩ := own_shape hown
             have hb4 : Below W.heap.size W w3 := ((Below.refl _ _).drew).trans (hb3.mono (by simp))
             have b3 := (hbox.below hb4 hbl2).cell 3 rfl)
          | (go_simp; go_at_call 74
             (with_reducible refine (HPA.out va vc w3 (HD.below hb4 (Nat.le_refl _)) (BtT.of_own hown)).mono ?_)
             rintro e w4 ⟨rfl, hD4, hf4⟩)))
        all_goals (
          go_wp2
          go_ret
          exact ⟨rfl, hD4, (Fm.of_below (hbx.trans (hb4.mono hbx.size)) (Nat.le_refl _)).trans hf4⟩)
      | false =>
        rw [hN] at hrun hbx hfull
        have h64 : mm < 64 := by
          have : decide (1048576 < f.now.length + b.length) = false := decide_eq_false (by omega)
          rw [this] at hfull
          simpa using hfull
        clear hfull
        go_enter Tryz.func92, Tryz.ntmps92
        go_wp2_with (first
            | (go_at_call 72; refine (may72 d mb D k _ HH.out hb).mono ?_; rintro e w1 ⟨rfl, rfl⟩)
            | (go_at_call 73; refine (HM.out _ (HH.out.below hbx (Nat.le_refl _))).mono ?_; rintro e w2 ⟨rfl, hb2⟩
               have k3 := ((Box.new w1 w1.heap.size 106 #[Value.slice sa f.sure.length sc, Value.slice na f.now.length nc, Value.bool f.isSure, Value.bool false, Value.slice la f.loose.length lc] rfl).below hb2 (by simp)).cell 3 rfl))
        have hbox := Box.new w1 w1.heap.size 106 #[Value.slice sa f.sure.length sc, Value.slice na f.now.length nc, Value.bool f.isSure, Value.bool false, Value.slice la f.loose.length lc] rfl
        have hbox := hbox.below hb2 (by simp)
        have hbx := hbx.trans (hb2.mono (by simp))
        have hbl2 := hbox.lt
        have HD := HH.out.below hbx (Nat.le_refl _)
        have hV2 := HV.out.below hbx (Nat.le_refl _)
        obtain ⟨W, hW⟩ : ∃ W, W = w2 := ⟨_, rfl⟩
        rw [← hW] at hbox hbl2 HD hV2 hbx ⊢
        have HW := Lib.hid hW
        clear hW
        have k3 := hbox.cell 3 rfl
        go_must (go_region_law (first
          | (go_simp; go_at_call 56
             (with_reducible refine (clone56 _ b _ ((hV2.below (B := W.heap.size) (by repeat (first | exact Below.refl _ _ | refine Below.drew ?_ | refine Below.alloc ?_ (by first | omega | (simp; done) | (simp; omega)) _)) (Nat.le_refl _))) (by omega)).mono ?_)
             rintro e w3 ⟨v, rfl, hown, hb3⟩
             obtain ⟨va, vc, rfl⟩ := own_shape hown
             have hb4 : Below W.heap.size W w3 := ((Below.refl _ _).drew).trans (hb3.mono (by simp))
             have b3 := (hbox.below hb4 hbl2).cell 3 rfl)
          | (go_simp; go_at_call 74
             (with_reducible refine (HPW.out va vc w3 (HD.below hb4 (Nat.le_refl _)) (BtT.of_own hown)).mono ?_)
             rintro e w4 ⟨rfl, hD4, hf4⟩)))
        all_goals (
          go_wp2
          go_ret
          exact ⟨rfl, hD4, (Fm.of_below (hbx.trans (hb4.mono hbx.size)) (Nat.le_refl _)).trans hf4⟩)
end Go.Proofs.YtpcipfnahknngaaGreatDoor

/- Contracts of disk.Read, Remove, Replace, Append. No statement of the seat. -/
import Derived.Test.YtpcipfnahknngaaGreatDoorDiskNames
namespace Go.Proofs.YtpcipfnahknngaaGreatDoor
open Go.RowKit Go.Maps

set_option maxRecDepth 100000 in
set_option maxHeartbeats 1600000 in
theorem read77 (d mb : Nat) (D : List (List UInt8 × Fil)) (k : List UInt8) (w : World) (h : Dp w d mb D) (hk : k.length ≤ 64) (hnl : ((getK k D).getD noFil).now.length ≤ 1048576) :
    Calls Tryz.prog 77 #[.pointer (some ⟨d, 0, none⟩), .string (tx k)] w fun e w' => ∃ v, e = .returned (.tuple #[v, .bool ((getK k D).getD noFil).isNow]) ∧
      w'.ownsRow w.heap.size 5 1 v ((getK k D).getD noFil).now.length (bv ((getK k D).getD noFil).now) ∧ Below w.heap.size w w' := by
  have hkm : k.length ≤ maxLen := by unfold maxLen; omega
  obtain ⟨f, hf0⟩ : ∃ f, f = (getK k D).getD noFil := ⟨_, rfl⟩
  obtain ⟨sa, sc, na, nc, la, lc, hrun, _, hT⟩ := look_run _ mb D h.2 k hkm
  rw [← hf0] at hrun hT hnl ⊢
  clear hf0
  have hcell := h.cell
  obtain ⟨sa', sc', na', nc', la0, lc0, hv, t1, t2, t3⟩ := hT
  cases hv
  have HH := Lib.hid h
  have q2 : Bt w (.slice na f.now.length nc) f.now := t2.1
  clear h t1 t2 t3
  go_enter Tryz.func77, Tryz.ntmps77
  go_wp2_with (go_at_call 81; (with_reducible refine (there81 d mb D _ HH.out).mono ?_); rintro e w1 ⟨rfl, rfl⟩)
  go_must (go_region_law (first
    | (go_simp; go_at_call 56
       (with_reducible refine (clone56 _ f.now _ (q2.below (B := w1.heap.size) (by repeat (first | exact Below.refl _ _ | refine Below.drew ?_ | refine Below.alloc ?_ (by first | omega | (simp; done) | (simp; omega)) _)) (Nat.le_refl _)) (by omega)).mono ?_)
       rintro e w2 ⟨v, rfl, hown, hb2⟩
       obtain ⟨va, vc, rfl⟩ := own_shape hown
       have hb3 : Below (w1.heap.size + 1) (w1.alloc (Obj.cells #[Value.slice sa f.sure.length sc, Value.slice na f.now.length nc, Value.bool f.isSure, Value.bool f.isNow, Value.slice la f.loose.length lc] 106)) w2 := ((Below.refl _ _).drew).trans (hb2.mono (by simp))
       have b3 := ((Box.new w1 _ 106 _ rfl).below hb3 (Nat.lt_succ_self _)).cell 3 rfl)))
  all_goals (
    go_wp2
    go_ret2
    exact ⟨_, rfl, hown.base (by simp), ((Below.refl _ _).alloc (Nat.le_refl _) _).trans (hb3.mono (Nat.le_succ _))⟩)

theorem field106 (sa na la : Option Addr) (s1 s2 n1 n2 l1 l2 : Nat) (a b : Bool) (w : World) : (Instr.field 106 (.agg #[.slice sa s1 s2, .slice na n1 n2, .bool a, .bool b, .slice la l1 l2]) 3).run Tryz.prog w = .ok (.bool b) w := by kernel_rfl

def removeE (k : List UInt8) (D : List (List UInt8 × Fil)) : Nat := if badName k then 2 else if ((getK k D).getD noFil).isNow then 0 else 5
def removeD (k : List UInt8) (D : List (List UInt8 × Fil)) : List (List UInt8 × Fil) := if badName k then D else if ((getK k D).getD noFil).isNow then putK k (chgF ((getK k D).getD noFil) ⟨true, true, []⟩) D else D

set_option maxRecDepth 100000 in
set_option maxHeartbeats 1600000 in
theorem remove46 (d mb : Nat) (D : List (List UInt8 × Fil)) (k : List UInt8) (w : World) (h : Dp w d mb D) (hn : D.length < 1000000000) (hl : ((getK k D).getD noFil).loose.length < 1000000000000) :
    Calls Tryz.prog 46 #[.pointer (some ⟨d, 0, none⟩), .string (tx k)] w fun e w' => e = .returned (.int .i64 (removeE k D)) ∧ Dp w' d mb (removeD k D) ∧ Fm mb w w' := by
  cases hb : badName k with
  | true =>
    have e1 : removeE k D = 2 := by unfold removeE; rw [hb]; rfl
    have e2 : removeD k D = D := by unfold removeD; rw [hb]; rfl
    rw [e1, e2]
    go_enter Tryz.func46, Tryz.ntmps46
    go_wp2_with (go_at_call 72; refine (may72_bad d mb D k _ h hb).mono ?_; rintro e w1 ⟨rfl, rfl⟩)
    go_ret
    exact ⟨rfl, h, Fm.refl _ _⟩
  | false =>
    have hk : k.length ≤ 64 := by have := of_decide_eq_false hb; omega
    have hkm : k.length ≤ maxLen := by unfold maxLen; omega
    have hr := put74_gone d mb D k true none 0 [] w h (BtT.nil w) hk (by unfold maxLen; omega) hl
    obtain ⟨f, hf0⟩ : ∃ f, f = (getK k D).getD noFil := ⟨_, rfl⟩
    obtain ⟨sa, sc, na, nc, la, lc, hrun, _, hT⟩ := look_run _ mb D h.2 k hkm
    rw [← hf0] at hrun hr
    cases hN : f.isNow with
    | false =>
      have e1 : removeE k D = 5 := by unfold removeE; rw [hb, ← hf0, hN]; rfl
      have e2 : removeD k D = D := by unfold removeD; rw [hb, ← hf0, hN]; rfl
      rw [e1, e2]
      rw [hN] at hrun
      have hcell := h.cell
      have hfld := field106 sa na la f.sure.length sc f.now.length nc f.loose.length lc f.isSure f.isNow w
      rw [hN] at hfld
      have HF := Lib.hid hf0
      clear hT hr hf0
      go_enter Tryz.func46, Tryz.ntmps46
      go_wp2_with (go_at_call 72; refine (may72 d mb D k _ h hb).mono ?_; rintro e w1 ⟨rfl, rfl⟩)
      go_ret
      exact ⟨rfl, h, Fm.refl _ _⟩
    | true =>
      have e1 : removeE k D = 0 := by unfold removeE; rw [hb, ← hf0, hN]; rfl
      have e2 : removeD k D = putK k (chgF f ⟨true, true, []⟩) D := by unfold removeD; rw [hb, ← hf0, hN]; rfl
      rw [e1, e2]
      rw [hN] at hrun
      have hcell := h.cell
      have hfld := field106 sa na la f.sure.length sc f.now.length nc f.loose.length lc f.isSure f.isNow w
      rw [hN] at hfld
      have HF := Lib.hid hf0
      clear hT hf0
      go_enter Tryz.func46, Tryz.ntmps46
      go_wp2_with (first
        | (go_at_call 72; refine (may72 d mb D k _ h hb).mono ?_; rintro e w1 ⟨rfl, rfl⟩)
        | (go_at_call 74; refine hr.mono ?_; rintro e w2 ⟨rfl, hD2, hf2⟩))
      go_ret
      exact ⟨rfl, hD2, hf2⟩

end Go.Proofs.YtpcipfnahknngaaGreatDoor

/- Contracts of wal.Open of a new disk, and of wal.Compact of few segments. No statement of the seat. -/
import Derived.Test.YtpcipfnahknngaaGreatDoorAp2
namespace Go.Proofs.YtpcipfnahknngaaGreatDoor
open Go.RowKit Go.Maps

set_option maxRecDepth 100000 in
set_option maxHeartbeats 3200000 in
theorem compact14_short (q d : Nat) (sa : Option Addr) (sn sc : Nat) (lv : Value) (i : Nat) (w : World) (hbox : Box w q 37 #[.pointer (some ⟨d, 0, none⟩), .slice sa sn sc, lv]) (hs : sn ≤ 1) :
    Calls Tryz.prog 14 #[.pointer (some ⟨q, 0, none⟩), .int .u64 i] w fun e w' => e = .returned (.int .i64 0) ∧ Below w.heap.size w w' := by
  have HB := Lib.hid hbox
  have hth := fun W (hb : Below w.heap.size w W) => there48 q d W ((hbox.below hb hbox.lt).cell 0 rfl)
  have HTH := Lib.hid hth
  have hd : decide ((1 : Int) < (sn : Int)) = false := decide_eq_false (by omega)
  have hd2 : ¬ (1 : Int) < (sn : Int) := by omega
  clear hbox hth
  go_enter Tryz.func14, Tryz.ntmps14
  go_wp2_with (go_at_call 48; refine (HTH.out _ ((Below.refl _ _).alloc (Nat.le_refl _) _)).mono ?_; rintro e w1 ⟨rfl, hw1⟩; have hw2 := hw1.symm; subst hw2)
  have hb0 : Below w.heap.size w (w.alloc (Obj.cells #[Value.int .u64 (i : Int)] 22)) := (Below.refl _ _).alloc (Nat.le_refl _) _
  go_loopw [] (fun wr => Below w.heap.size w wr) (fun _ => 0)
  case atStart => exact hb0
  case round =>
    have c1 := (HB.out.below hrel HB.out.lt).cell 1 rfl
    go_wp2
    go_ret
    exact ⟨rfl, hrel⟩

set_option maxRecDepth 100000 in
set_option maxHeartbeats 3200000 in
theorem open11_new (n0 d mb : Nat) (w : World) (h : Dp w d mb []) (hn0 : n0 ≤ w.heap.size) (hmb : LowM n0 mb) :
    Calls Tryz.prog 11 #[.pointer (some ⟨d, 0, none⟩)] w fun e w' => ∃ q, e = .returned (.tuple #[.pointer (some ⟨q, 0, none⟩), .int .i64 0]) ∧ WlE n0 w' q d mb [] [] [] ∧ Below w.heap.size w w' := by
  have HD := Lib.hid h
  clear h
  have HN : Hid (namesS (fun f => f.isNow) [] = []) := Lib.hid (by simp [namesS, keysS])
  go_enter Tryz.func11, Tryz.ntmps11
  go_wp2_with (first
    | (go_at_call 43; refine (copy43 d mb [] _ HD.out).mono ?_; rintro e w1 ⟨rfl, b1⟩)
    | (go_at_call 44; refine (names44 d mb [] _ ((HD.out.below b1 (Nat.le_refl _)).below ((Below.refl _ _).alloc (Nat.le_refl _) _) (Nat.le_refl _)) (by decide) (by intro k hk; simp [keysS] at hk)).mono ?_; rintro e w2 ⟨v2, rfl, own2, b2⟩; obtain ⟨a2, q2, rfl⟩ := own_shape own2))
  rw [HN.out] at own2 ⊢
  have hd : decide ((0 : Int) < (([] : List (List UInt8)).length : Int)) = false := rfl
  have hl : w.heap.size ≤ w1.heap.size := b1.size
  have hbA : Below w.heap.size w (w1.alloc (Obj.cells #[Value.pointer (some ⟨d, 0, none⟩), Value.slice none 0 0, Value.slice none 0 0] 37)) := b1.alloc b1.size _
  have hb2 : Below w.heap.size w w2 := hbA.trans (b2.mono hbA.size)
  have hbx : Box w2 w1.heap.size 37 #[Value.pointer (some ⟨d, 0, none⟩), Value.slice none 0 0, Value.slice none 0 0] := (Box.new w1 _ 37 _ rfl).below b2 (by simp)
  have hW : WlE n0 w2 w1.heap.size d mb [] [] [] := ⟨none, 0, none, 0, hbx, HD.out.below hb2 (Nat.le_refl _), Nat.le_trans hn0 hl, hmb, Sg.nil _ _, Es.nil _⟩
  have HWW := Lib.hid hW
  clear hW hbx own2 hd
  go_loopw [18] (fun i wr => i = .int .i64 0 ∧ wr = w2) (fun _ _ => 0)
  case atStart => exact ⟨rfl, rfl⟩
  case round =>
    obtain ⟨rfl, rfl⟩ := hrel
    go_wp2
    go_ret2
    exact ⟨_, rfl, HWW.out, hb2⟩
end Go.Proofs.YtpcipfnahknngaaGreatDoor

/- wal.read: what the records of a file's bytes bring; what holds between two rounds of its loop. No statement of the seat. -/
import Derived.Test.YtpcipfnahknngaaGreatDoorFit
import Derived.Test.YtpcipfnahknngaaGreatDoorRp
import Derived.Test.YtpcipfnahknngaaGreatDoorTail
namespace Go.Proofs.YtpcipfnahknngaaGreatDoor
open Go.RowKit Go.Maps

/-- the records from place k on: how far all is good, the records' indexes, the row -/
def scanT (b : List UInt8) (k : Nat) (at_ : List Nat) (l : List Ent) : Nat × List Nat × List Ent :=
  match _h : firstT (b.drop k) with
  | none => (k, at_, l)
  | some (r, m) => match parseT r with
    | none => (k, at_, l)
    | some e => if fitsT l e then scanT b (k + m) (at_ ++ [e.i]) (putE l e) else (k, at_, l)
termination_by b.length - k
decreasing_by
  have h1 := firstT_le _h
  simp at h1
  omega
theorem scanT_none {b : List UInt8} {k : Nat} {at_ : List Nat} {l : List Ent} (h : firstT (b.drop k) = none) : scanT b k at_ l = (k, at_, l) := by
  rw [scanT]
  split
  · rfl
  · rename_i h2; rw [h] at h2; cases h2
theorem scanT_bad {b r : List UInt8} {k m : Nat} {at_ : List Nat} {l : List Ent} (h : firstT (b.drop k) = some (r, m)) (hp : parseT r = none) : scanT b k at_ l = (k, at_, l) := by
  rw [scanT]
  split
  · rfl
  · rename_i h2
    rw [h] at h2
    cases h2
    rw [hp]
theorem scanT_no {b r : List UInt8} {k m : Nat} {at_ : List Nat} {l : List Ent} {e : Ent} (h : firstT (b.drop k) = some (r, m)) (hp : parseT r = some e) (hf : fitsT l e = false) : scanT b k at_ l = (k, at_, l) := by
  rw [scanT]
  split
  · rfl
  · rename_i h2
    rw [h] at h2
    cases h2
    rw [hp]
    simp only
    rw [hf]
    rfl
theorem scanT_yes {b r : List UInt8} {k m : Nat} {at_ : List Nat} {l : List Ent} {e : Ent} (h : firstT (b.drop k) = some (r, m)) (hp : parseT r = some e) (hf : fitsT l e = true) : scanT b k at_ l = scanT b (k + m) (at_ ++ [e.i]) (putE l e) := by
  rw [scanT]
  split
  · rename_i h2; rw [h] at h2; cases h2
  · rename_i h2
    rw [h] at h2
    cases h2
    rw [hp]
    simp only
    rw [hf]
    rfl

/-- since w0 nothing old has turned but the block q -/
structure Rx (q : Nat) (w0 W : World) : Prop where
  os : W.os = w0.os
  tape : W.tape = w0.tape
  output : W.output = w0.output
  size : w0.heap.size ≤ W.heap.size
  old : ∀ g, g < w0.heap.size → g ≠ q → W.heap[g]? = w0.heap[g]?
section
variable {q : Nat} {w0 W W' : World}
theorem Rx.refl (q : Nat) (w : World) : Rx q w w := ⟨rfl, rfl, rfl, Nat.le_refl _, fun _ _ _ => rfl⟩
theorem Rx.below (h : Rx q w0 W) (hb : Below W.heap.size W W') : Rx q w0 W' :=
  ⟨hb.os.trans h.os, hb.tape.trans h.tape, hb.output.trans h.output, Nat.le_trans h.size hb.size, fun g hg hq => (hb.block g (Nat.lt_of_lt_of_le hg h.size)).trans (h.old g hg hq)⟩
theorem Rx.set (h : Rx q w0 W) (a : Addr) (u : Value) (ha : a.block = q ∨ w0.heap.size ≤ a.block) : Rx q w0 (W.setCell a u) :=
  ⟨h.os, h.tape, h.output, by simpa [World.setCell] using h.size, fun g hg hq => by
    rw [Below.heap_setCell _ _ _ _ (show g ≠ a.block by omega)]
    exact h.old g hg hq⟩
theorem Rx.grown (h : Rx q w0 W) {row : Option Nat} (hg : W.grownBy W' row) (hr : ∀ g, row = some g → w0.heap.size ≤ g) : Rx q w0 W' :=
  ⟨hg.os.trans h.os, hg.tape.trans h.tape, hg.output.trans h.output, Nat.le_trans h.size hg.size, fun g hgl hq => (hg.block g (Nat.lt_of_lt_of_le hgl h.size) fun e => by have := hr g e.symm; omega).trans (h.old g hgl hq)⟩
theorem Rx.lo {n0 m : Nat} (h : Rx q w0 W) (hq : n0 ≤ q) : Lo n0 m w0 W := Lo.of_all h.size fun g hg hs => h.old g hs (by omega)
theorem Rx.fr (h : Rx q w0 W) {xs : Array Value} (hb : Box w0 q 37 xs) : Fr (fun e => e = 37) w0 W :=
  ⟨h.os, h.tape, h.output, h.size, fun g cur e fz hg he => h.old g (lt_of_get hg) fun hgq => by
    subst hgq
    unfold Box at hb
    rw [hb] at hg
    cases hg
    exact he rfl⟩
theorem Rx.map (h : Rx q w0 W) {xs : Array Value} (hb : Box w0 q 37 xs) {g : Nat} {es : Array MapEntry} {c : Nat} (hg : w0.heap[g]? = some (Obj.map es c)) : W.heap[g]? = w0.heap[g]? :=
  h.old g (lt_of_get hg) fun e => by
    subst e
    unfold Box at hb
    rw [hb] at hg
    cases hg
theorem Fr.of_own {W W' : World} {row : Option Nat} (hg : W.grownBy W' row) (hr : ∀ k, row = some k → ∃ o : Obj, W.heap[k]? = some o ∧ o.isCells = false) : Fr noTypes W W' :=
  ⟨hg.os, hg.tape, hg.output, hg.size, fun g cur e fz hh _ => hg.block g (lt_of_get hh) fun e2 => by
    obtain ⟨o, ho, hc⟩ := hr g e2.symm
    rw [hh] at ho
    cases ho
    cases hc⟩
end

/-- between two rounds of read's loop: the blocks gw, gb, gb2, gs, gg are of the variables w, b, frame.All's b, s, good -/
structure RdS (q d : Nat) (w0 : World) (gw gb gb2 gs gg n : Nat) (v sv : Value) (b : List UInt8) (k : Nat) (at_ : List Nat) (l : List Ent) (la : Option Addr) (lc : Nat) (ua : Option Addr) (uc : Nat) (W : World) : Prop where
  rx : Rx q w0 W
  bq : Box W q 37 #[.pointer (some ⟨d, 0, none⟩), sv, .slice la l.length lc]
  bw : Box W gw 32 #[.pointer (some ⟨q, 0, none⟩)]
  bb : Box W gb 23 #[v]
  bb2 : Box W gb2 23 #[v]
  bs : Box W gs 81 #[.int .i64 n, .slice ua at_.length uc]
  bg : Box W gg 3 #[.int .i64 k]
  hb : BtT W v b
  es : Es W (.slice la l.length lc) l
  at_ : W.ownsRow w0.heap.size 22 1 (.slice ua at_.length uc) at_.length (nv at_)
theorem RdS.fr {q d : Nat} {w0 : World} {gw gb gb2 gs gg n : Nat} {v sv : Value} {b : List UInt8} {k : Nat} {at_ : List Nat} {l : List Ent} {la : Option Addr} {lc : Nat} {ua : Option Addr} {uc : Nat} {W W' : World}
    (h : RdS q d w0 gw gb gb2 gs gg n v sv b k at_ l la lc ua uc W) (hr : Rx q w0 W') (hf : Fr noTypes W W') : RdS q d w0 gw gb gb2 gs gg n v sv b k at_ l la lc ua uc W' :=
  ⟨hr, h.bq.fr hf id, h.bw.fr hf id, h.bb.fr hf id, h.bb2.fr hf id, h.bs.fr hf id, h.bg.fr hf id, h.hb.fr hf id, h.es.fr hf id id, own_fr h.at_ hf id⟩
theorem RdS.below {q d : Nat} {w0 : World} {gw gb gb2 gs gg n : Nat} {v sv : Value} {b : List UInt8} {k : Nat} {at_ : List Nat} {l : List Ent} {la : Option Addr} {lc : Nat} {ua : Option Addr} {uc : Nat} {W W' : World}
    (h : RdS q d w0 gw gb gb2 gs gg n v sv b k at_ l la lc ua uc W) (hb : Below W.heap.size W W') : RdS q d w0 gw gb gb2 gs gg n v sv b k at_ l la lc ua uc W' :=
  h.fr (h.rx.below hb) (Fr.of_below hb (Nat.le_refl _))
/-- .. with whatever rows there are -/
def RdE (q d : Nat) (w0 : World) (gw gb gb2 gs gg n : Nat) (v sv : Value) (b : List UInt8) (k : Nat) (at_ : List Nat) (l : List Ent) (W : World) : Prop :=
  ∃ la lc ua uc, RdS q d w0 gw gb gb2 gs gg n v sv b k at_ l la lc ua uc W
theorem RdE.own {q d : Nat} {w0 : World} {gw gb gb2 gs gg n : Nat} {v sv : Value} {b : List UInt8} {k : Nat} {at_ : List Nat} {l : List Ent} {W W' : World} {B : Nat} {row : Option Nat} (hB : w0.heap.size ≤ B)
    (h : RdE q d w0 gw gb gb2 gs gg n v sv b k at_ l W) (hg : W.grownBy W' row) (hr : ∀ r, row = some r → B ≤ r ∧ ∃ o : Obj, W.heap[r]? = some o ∧ o.isCells = false) : RdE q d w0 gw gb gb2 gs gg n v sv b k at_ l W' := by
  obtain ⟨la, lc, ua, uc, h⟩ := h
  exact ⟨la, lc, ua, uc, h.fr (h.rx.grown hg fun g e => Nat.le_trans hB (hr g e).1) (Fr.of_own hg fun g e => (hr g e).2)⟩
/-- a round's head: so far, and no more records than bytes -/
def RdJ (q d : Nat) (w0 : World) (gw gb gb2 gs gg n : Nat) (v sv : Value) (b : List UInt8) (R : Nat × List Nat × List Ent) (L : Nat) (k : Nat) (W : World) : Prop :=
  ∃ at_ l, RdE q d w0 gw gb gb2 gs gg n v sv b k at_ l W ∧ scanT b k at_ l = R ∧ at_.length ≤ k ∧ l.length ≤ L + k
def RdX (q d : Nat) (w0 : World) (gw gb gb2 gs gg n : Nat) (v sv : Value) (b : List UInt8) (R : Nat × List Nat × List Ent) (c : Code) (W : World) : Prop :=
  c = .exit 0 ∧ RdE q d w0 gw gb gb2 gs gg n v sv b R.1 R.2.1 R.2.2 W

/-- the body of a loop over a function -/
def rangeBody : Code → Option Code
  | .rangeFunc _ _ _ b => some b
  | .seq a b => match rangeBody a with
    | some c => some c
    | none => rangeBody b
  | .block _ c => rangeBody c
  | .scope c => rangeBody c
  | .cond _ a b => match rangeBody a with
    | some c => some c
    | none => rangeBody b
  | _ => none
noncomputable def body47 : Code := ((Tryz.f47.body.bind rangeBody).getD .skip)
end Go.Proofs.YtpcipfnahknngaaGreatDoor

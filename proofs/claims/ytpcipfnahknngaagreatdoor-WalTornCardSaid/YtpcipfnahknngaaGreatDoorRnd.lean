/- Regions in a round of a loop over a function: what holds of a region elsewhere holds there; and the statement 'for at, r := range frame.All(b)'. No statement of the seat. -/
import Derived.Test.YtpcipfnahknngaaGreatDoorBase
import Derived.RangeFuncNested
import Derived.RangeFuncCalls
import Derived.RangeFuncLeaves
import Derived.OrdersIn
import Derived.OrdersHeld
import Derived.Shelf.Abstract
import Derived.Deep.Quiet
namespace Go.Proofs.YtpcipfnahknngaaGreatDoor
open Go.RowKit

/-- no operation defers, none is of a make that no walk takes -/
def plainOps (ops : Array Oper) : Bool := ops.all fun o => match o.op with
  | .defer _ => false
  | _ => true
theorem plainOps_at {ops : Array Oper} (h : plainOps ops = true) {i : Nat} {o : Oper} (ho : ops[i]? = some o) : ∀ c, o.op ≠ .defer c := by
  intro c hc
  unfold plainOps at h
  rw [Array.all_eq_true] at h
  obtain ⟨hi, rfl⟩ := Array.getElem?_eq_some_iff.1 ho
  have := h i hi
  rw [hc] at this
  cases this

variable {P : Program} {l n : Nat} {ops : Array Oper} {Q : Exit → Act → World → Prop} {md : Region.Mode}

theorem oper_in {o : Oper} {a : Act} {w : World} {K : Act → World → Prop} (hd : ∀ c, o.op ≠ .defer c) (h : o.wp P a w K Q) : o.wpIn (Fence.wide.inRound l) n P a w K Q := by
  unfold Oper.wpIn
  refine ⟨fun f _ => trivial, ?_⟩
  have hs : o.semAt (Fence.wide.inRound l).round a.eval = execOp a.eval o := Oper.semAt_some l _ _ hd
  rw [hs]
  unfold Oper.wp at h
  generalize (execOp a.eval o).run P w = r at *
  cases r with
  | ok x w' =>
    cases x <;> simp only [Oper.upon] at h <;> simp only [Oper.uponIn]
    case value => exact h
    case skip => exact h
    case defer => exact h
    case enter f args => exact ⟨(by intro h2; cases h2), CallsIn.inRound l (callsIn_wide.2 h)⟩
    case row row args =>
      refine ⟨(by intro h2; cases h2), fun c cs _ => ?_⟩
      obtain ⟨v, w2, h1, h2⟩ := h c cs
      exact ⟨v, w2, h1, stepsIn_wide.2 h2⟩
  | halt x w' => cases x <;> simp only [Oper.upon] at h <;> simp only [Oper.uponIn] <;> first | exact h | trivial

theorem op_in (hp : plainOps ops = true) (hq : ∀ a w, ¬ Q .outgrown a w) {i : Nat} {K : Act → World → Prop} {a : Act} {w : World} (h : wpOp P ops Q i K a w) : wpOpIn (Fence.wide.inRound l) n P ops Q i K a w := by
  unfold wpOp at h
  unfold wpOpIn
  split
  · rename_i ho
    simp only [ho] at h
    exact h
  · rename_i o ho
    simp only [ho] at h
    split
    · rename_i hw
      simp only [hw, if_true] at h
      rcases h with h | ⟨_, a0, w0, h⟩
      · exact oper_in (plainOps_at hp ho) h
      · exact absurd h (hq a0 w0)
    · rename_i hw
      simp only [hw] at h
      exact ⟨fun f _ => trivial, h⟩

theorem any_in (hp : plainOps ops = true) (hq : ∀ a w, ¬ Q .outgrown a w) : ∀ (fuel : Nat) (listed : Array Bool) (a : Act) (w : World), wpAny P md ops Q fuel listed a w → wpAnyIn (Fence.wide.inRound l) n P md ops Q fuel listed a w := by
  intro fuel
  induction fuel with
  | zero => exact fun _ _ _ h => h
  | succ fuel ih => exact fun listed a w h => ⟨h.1, fun i hi => wpOpIn_mono (fun a w h => ih _ a w h) (op_in hp hq (h.2 i hi))⟩

/-- a region that draws its order, in a round -/
theorem region_in {id : Nat} {a : Act} {w : World} (hm : P.follows .mixedOrders = true) (hp : plainOps ops = true) (hq : ∀ a w, ¬ Q .outgrown a w)
    (h : wpAny P .any ops Q ops.size (Array.replicate ops.size false) a w.drew) : (Code.region id ops true).wpIn (Fence.wide.inRound l) n P Q a w :=
  wpIn_region_any hm (any_in hp hq _ _ _ _ h)
/-- .. with a condition that is held -/
theorem region_in_held {id : Nat} {a : Act} {w : World} {S : World → Prop} (hm : P.follows .mixedOrders = true) (hp : plainOps ops = true) (hq : ∀ a w, ¬ Q .outgrown a w) (hS : S w.drew)
    (h : S w.drew → wpAnyH P .any ops Q S ops.size (Array.replicate ops.size false) a w.drew) : (Code.region id ops true).wpIn (Fence.wide.inRound l) n P Q a w :=
  region_in hm hp hq (wpAny_of_held _ _ _ _ (h hS))
/-- a region in the text's order, in a round -/
theorem list_in (hp : plainOps ops = true) (hq : ∀ a w, ¬ Q .outgrown a w) : ∀ (r : List Oper), (∀ o ∈ r, ∀ c, o.op ≠ .defer c) → ∀ (a : Act) (w : World), wpList P ops Q r a w → wpListIn (Fence.wide.inRound l) n P ops Q r a w
  | [], _, _, _, h => h
  | o :: r, hd, a, w, h => by
    unfold wpList at h
    unfold wpListIn
    split
    · rename_i hw
      rw [if_pos hw] at h
      rcases h with h | ⟨_, a0, w0, h⟩
      · exact Oper.wpIn_mono (fun a w h => list_in hp hq r (fun o ho => hd o (List.mem_cons_of_mem _ ho)) a w h) (oper_in (hd o List.mem_cons_self) h)
      · exact absurd h (hq a0 w0)
    · rename_i hw
      rw [if_neg hw] at h
      exact ⟨fun f _ => trivial, list_in hp hq r (fun o ho => hd o (List.mem_cons_of_mem _ ho)) _ w h⟩
theorem region_in_plain {id : Nat} {a : Act} {w : World} (hp : plainOps ops = true) (hq : ∀ a w, ¬ Q .outgrown a w) (h : wpList P ops Q ops.toList a w) : (Code.region id ops false).wpIn (Fence.wide.inRound l) n P Q a w :=
  wpIn_region_list (list_in hp hq _ (fun o ho c => by
    obtain ⟨i, hi, rfl⟩ := List.getElem_of_mem ho
    exact plainOps_at hp (i := i) (by simp) c) a w h)
/-- a region of operations that are quiet in a class of worlds, in a round -/
theorem region_in_quiet {id : Nat} {a : Act} {w : World} {C : World → Prop} {r : List Oper} (hm : P.follows .mixedOrders = true) (hp : plainOps r.toArray = true) (hq : ∀ a w, ¬ Q .outgrown a w) (hB : Region.lexB .any r.toArray = true) (hC : C w.drew)
    (h : wpQuiet P r.toArray C (fun a' => ∀ w', C w' → Q .normal a' w') r a) : (Code.region id r.toArray true).wpIn (Fence.wide.inRound l) n P Q a w := by
  refine region_in hm hp hq ?_
  simp only [Region.lexB, Bool.and_eq_true] at hB
  refine wpAny_of_quiet (Q := fun a' => ∀ w', C w' → Q .normal a' w') (fun _ w' hw' h => h w' hw') _ _ _ _ hC ?_
  have := wpAnyQ_lex (C := C) (md := .any) hB.1 r 0 (Array.replicate r.toArray.size false) a (by simp) (by simpa using hB.2) h
  simpa using this
end Go.Proofs.YtpcipfnahknngaaGreatDoor

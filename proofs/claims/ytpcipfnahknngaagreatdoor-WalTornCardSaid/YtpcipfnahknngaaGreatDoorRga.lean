/- 'for at, r := range frame.All(b)': what the iterator tells its caller, and the law of the statement. No statement of the seat. -/
import Derived.Test.YtpcipfnahknngaaGreatDoorRnd
import Derived.Test.YtpcipfnahknngaaGreatDoorMaCrc
namespace Go.Proofs.YtpcipfnahknngaaGreatDoor
open Go.RowKit

/-- the first frame of bytes: its record, how many bytes it takes -/
def firstT (b : List UInt8) : Option (List UInt8 × Nat) :=
  if b.head? = some 90 then
    match takeTextT b 1 with
    | (s, nx, 0) => if b.length - nx < 4 ∨ (b.drop nx).take 4 ≠ fourN ((b.drop 1).take (nx - 1)) then none else some (s, nx + 4)
    | (_, _, _ + 1) => none
  else none

/-- whatever is no cells may turn: bytes stay -/
theorem Bt.own {W W' : World} {row : Option Nat} {u : Value} {r : List UInt8} (h : Bt W u r) (hg : W.grownBy W' row) (hr : ∀ k, row = some k → ∃ o : Obj, W.heap[k]? = some o ∧ o.isCells = false) : Bt W' u r := by
  obtain ⟨h1, h2, ao, cap, hv, h3, h4, h6, h5⟩ := h
  refine ⟨h1, h2, ao, cap, hv, h3, h4, h6, h5.imp id ?_⟩
  rintro ⟨g, off, e, hc⟩
  exact ⟨g, off, e, fun j x hj => cell_kept (hc j x hj) hg hr⟩

/-- what a loop over frame.All(b) is told: gb the box of b's slice v -/
def AllIt (n gb : Nat) (v : Value) (b : List UInt8) : Prop := ∀ (l : Nat) (J : Nat → World → Prop) (Jx : World → Prop) (W : World),
  (∀ k W, J k W → W.cell? ⟨gb, 0, none⟩ = some v ∧ Bt W v b) →
  (∀ k W W', J k W → Below W.heap.size W W' → J k W') →
  (∀ k r m W u, J k W → firstT (b.drop k) = some (r, m) → k + m ≤ b.length → Bt W u r → YieldAt Fence.wide (n - 1) Tryz.prog l #[.int .i64 (k : Nat), u] W fun e W' => (e = .returned (.bool true) ∧ J (k + m) W') ∨ (e = .returned (.bool false) ∧ Jx W')) →
  J 0 W →
  CallsIn Fence.wide n Tryz.prog 107 #[.func (.yield l) #[] #[], .pointer (some ⟨gb, 0, none⟩)] W fun e W' => (∃ v, e = .returned v) ∧ ((∃ k, k ≤ b.length ∧ firstT (b.drop k) = none ∧ J k W') ∨ Jx W')

/-- how a round's body may be left -/
def allPost (B : Nat) (I : Nat → World → Prop) (Ix : Code → World → Prop) (k : Nat) (W : World) : Exit → Act → World → Prop
  | .normal, _, W' => KeepsFrom B W W' ∧ I k W'
  | .ret, _, W' => KeepsFrom B W W' ∧ Ix .ret W'
  | .exit id, _, W' => KeepsFrom B W W' ∧ Ix (.exit id) W'
  | .goto t, _, W' => KeepsFrom B W W' ∧ Ix (.goto t) W'
  | .panic _, _, _ => False
  | .outgrown, _, _ => False

theorem wpIn_rangeAll {g : Operand} {ps : Array Tmp} {assign body : Code} {Q : Exit → Act → World → Prop} {a : Act} {w : World} {n gb : Nat} {v : Value} {b : List UInt8}
    (hg : a.eval g = .func (.func 107) #[] #[.pointer (some ⟨gb, 0, none⟩)]) (hit : AllIt n gb v b) (hps : ps.size = 2)
    (I : Nat → World → Prop) (Ix : Code → World → Prop) (hrd : ∀ k W, I k W → W.cell? ⟨gb, 0, none⟩ = some v ∧ Bt W v b)
    (hI : OwnFrom w.heap.size I) (hIx : OwnFrom w.heap.size Ix) (h0 : I 0 w) (a₁ : Nat → Value → Act)
    (hassign : ∀ (l k : Nat) (u : Value) (W : World) (K : Act → World → Prop), K (a₁ k u) W →
      assign.wpIn (Fence.wide.inRound l) (n - 1) Tryz.prog (Exit.then K (fun _ _ _ => False)) { tmps := (ps.zip #[.int .i64 (k : Nat), u]).foldl (fun t (p, v) => t.setIfInBounds p v) a.tmps, defers := [] } W)
    (hbody : ∀ (l k : Nat) (r : List UInt8) (m : Nat) (u : Value) (W : World), I k W → firstT (b.drop k) = some (r, m) → k + m ≤ b.length → Bt W u r →
      body.wpIn (Fence.wide.inRound l) (n - 1) Tryz.prog (allPost w.heap.size I Ix (k + m) W) (a₁ k u) W)
    (hdone : ∀ (D k : Nat) (W : World), w.heap.size ≤ D → k ≤ b.length → firstT (b.drop k) = none → I k W → W.heap[D]? = some (.deferred (some [])) → Q .normal { a with defers := { target := .collected D, args := #[] } :: a.defers } W)
    (hstop : ∀ (D : Nat) (c : Code) (W : World), w.heap.size ≤ D → Ix c W → W.heap[D]? = some (.deferred (some [])) → c.wpIn Fence.wide (n + 1) Tryz.prog Q { a with defers := { target := .collected D, args := #[] } :: a.defers } W) :
    (Code.rangeFunc g ps assign body).wpIn Fence.wide (n + 1) Tryz.prog Q a w := by
  refine wpIn_rangeFunc fun fn hfn => ?_
  obtain ⟨rec, hrec⟩ : ∃ rec : LoopState → Option Code → Loop, rec = fun st pe => { state := st, pending := pe, fn, tmps := a.tmps, params := ps, assign, body, defers := w.heap.size } := ⟨_, rfl⟩
  obtain ⟨W1, hW1⟩ : ∃ W1, (w.alloc (.deferred (some []))).alloc (.loop (rec .ready none)) = W1 := ⟨_, rfl⟩
  have hL1 : W1.heap[w.heap.size + 1]? = some (.loop (rec .ready none)) := by
    rw [← hW1]
    have h := World.alloc_heap_new (w.alloc (.deferred (some []))) (.loop (rec .ready none))
    rwa [World.size_alloc] at h
  have hK1 : W1.heap[w.heap.size]? = some (.deferred (some [])) := by
    rw [← hW1]
    exact (Below.heap_alloc _ _ _ (by simp)).trans (World.alloc_heap_new w _)
  have hI1 : I 0 W1 := by rw [← hW1]; exact hI.alloc _ (hI.alloc _ h0)
  refine ⟨w.heap.size + 1, [{ target := .collected w.heap.size, args := #[] }], W1, { target := .fn (.func 107) #[.pointer (some ⟨gb, 0, none⟩)], args := #[.func (.yield (w.heap.size + 1)) #[] #[]] }, W1, 107,
    #[.func (.yield (w.heap.size + 1)) #[] #[], .pointer (some ⟨gb, 0, none⟩)], W1, ?_, ?_, fun _ _ => trivial, ?_, (by intro h; cases h), ?_⟩
  · rw [← hW1, hrec]
    exact run_enterLoop_outer _ _ _ _ _
  · simp only [resolve, hg]
    simp [go_sem]
  · have eg := enters_of Tryz.func107 (by kernel_rfl) rfl #[Value.func (.yield (w.heap.size + 1)) #[] #[], .pointer (some ⟨gb, 0, none⟩)] W1
    simp [invoke, go_sem, eg]
  · refine (hit (w.heap.size + 1)
      (fun k W => I k W ∧ W.heap[w.heap.size + 1]? = some (.loop (rec .ready none)) ∧ W.heap[w.heap.size]? = some (.deferred (some [])))
      (fun W => ∃ c, Ix c W ∧ W.heap[w.heap.size + 1]? = some (.loop (rec .done (some c))) ∧ W.heap[w.heap.size]? = some (.deferred (some [])))
      W1 (fun k W h => hrd k W h.1) ?_ ?_ ⟨hI1, hL1, hK1⟩).mono ?_
    · rintro k W W' ⟨h1, h2, h3⟩ hb
      refine ⟨hI k W W' none h1 ⟨hb.os, hb.tape, hb.output, hb.size, fun i hi _ => hb.block i hi⟩ (fun r e => by cases e), (hb.block _ (Array.getElem?_eq_some_iff.1 h2).1).trans h2, (hb.block _ (Array.getElem?_eq_some_iff.1 h3).1).trans h3⟩
    · rintro k r m W u ⟨hi, hl, hk⟩ hf hm hu
      have hlt : w.heap.size + 1 < W.heap.size := (Array.getElem?_eq_some_iff.1 hl).1
      have hy := run_yield (P := Tryz.prog) (args := #[.int .i64 (k : Nat), u]) hl (by rw [hrec]; simp [hps])
      rw [hrec] at hy
      refine ⟨fn, _, assign, body, hy, roundIn_of_wpIn hfn (hassign _ k u W _ ⟨_, run_beginRound hl (by rw [hrec]), ?_⟩)⟩
      have hl2 : (W.putObj (w.heap.size + 1) (.loop { rec .ready none with state := .busy })).heap[w.heap.size + 1]? = some (.loop { rec .ready none with state := .busy }) := World.putObj_heap_same hlt
      have hk2 : (W.putObj (w.heap.size + 1) (.loop { rec .ready none with state := .busy })).heap[w.heap.size]? = some (.deferred (some [])) := (World.putObj_heap_other (by omega)).trans hk
      have hu2 := hu.own (grownBy_putObj' W (w.heap.size + 1) (.loop { rec .ready none with state := .busy })) (fun i e => by cases e; exact ⟨_, hl, rfl⟩)
      refine wpIn_mono (hbody _ k r m u _ (hI.putObj _ hi (by omega) hl rfl) hf hm hu2) ?_
      have fin : ∀ (jump : Option Code) (W3 : World), KeepsFrom w.heap.size (W.putObj (w.heap.size + 1) (.loop { rec .ready none with state := .busy })) W3 →
          (Instr.endRound (w.heap.size + 1) jump).run Tryz.prog W3 = .ok (.bool jump.isNone) (W3.putObj (w.heap.size + 1) (.loop (rec (if jump.isNone then .ready else .done) jump))) ∧
          W3.heap[w.heap.size + 1]? = some (.loop { rec .ready none with state := .busy }) ∧
          (W3.putObj (w.heap.size + 1) (.loop (rec (if jump.isNone then .ready else .done) jump))).heap[w.heap.size + 1]? = some (.loop (rec (if jump.isNone then .ready else .done) jump)) ∧
          (W3.putObj (w.heap.size + 1) (.loop (rec (if jump.isNone then .ready else .done) jump))).heap[w.heap.size]? = some (.deferred (some [])) := fun jump W3 hk3 => by
        have hl3 := hk3.same _ _ (by omega) hl2 rfl
        have he := run_endRound (P := Tryz.prog) jump hl3
        rw [hrec] at he ⊢
        exact ⟨he, by rw [hrec] at hl3; exact hl3, World.putObj_heap_same (Array.getElem?_eq_some_iff.1 hl3).1, (World.putObj_heap_other (by omega)).trans (hk3.same _ _ (Nat.le_refl _) hk2 rfl)⟩
      have stop : ∀ (c : Code) (W3 : World), KeepsFrom w.heap.size (W.putObj (w.heap.size + 1) (.loop { rec .ready none with state := .busy })) W3 → Ix c W3 → ∃ v w', (Instr.endRound (w.heap.size + 1) (some c)).run Tryz.prog W3 = .ok v w' ∧
          ((Ending.returned v = .returned (.bool true) ∧ I (k + m) w' ∧ w'.heap[w.heap.size + 1]? = some (.loop (rec .ready none)) ∧ w'.heap[w.heap.size]? = some (.deferred (some []))) ∨
            (Ending.returned v = .returned (.bool false) ∧ ∃ c, Ix c w' ∧ w'.heap[w.heap.size + 1]? = some (.loop (rec .done (some c))) ∧ w'.heap[w.heap.size]? = some (.deferred (some [])))) := fun c W3 hk3 hi3 => by
        obtain ⟨hr, hl3, hl4, hk4⟩ := fin (some c) W3 hk3
        exact ⟨_, _, hr, .inr ⟨rfl, c, hIx.putObj _ hi3 (by omega) hl3 rfl, hl4, hk4⟩⟩
      rintro e a3 W3 hp
      cases e with
      | normal =>
        obtain ⟨hr, hl3, hl4, hk4⟩ := fin none W3 hp.1
        exact ⟨_, _, hr, .inl ⟨rfl, hI.putObj _ hp.2 (by omega) hl3 rfl, hl4, hk4⟩⟩
      | ret => exact stop _ W3 hp.1 hp.2
      | exit id => exact stop _ W3 hp.1 hp.2
      | goto t => exact stop _ W3 hp.1 hp.2
      | panic ch => exact hp.elim
      | outgrown => exact hp.elim
    · rintro e W2 ⟨⟨v, rfl⟩, (⟨k, hk1, hf, hi, hl, hk⟩ | ⟨c, hi, hl, hk⟩)⟩
      · exact ⟨none, _, by have he := run_endLoop (P := Tryz.prog) hl (by rw [hrec]; simp); rw [hrec] at he; exact he, hdone _ k _ (Nat.le_refl _) hk1 hf (hI.putObj _ hi (by omega) hl rfl) ((World.putObj_heap_other (by omega)).trans hk)⟩
      · exact ⟨some c, _, by have he := run_endLoop (P := Tryz.prog) hl (by rw [hrec]; simp); rw [hrec] at he; exact he, hstop _ c _ (Nat.le_refl _) (hIx.putObj _ hi (by omega) hl rfl) ((World.putObj_heap_other (by omega)).trans hk)⟩
end Go.Proofs.YtpcipfnahknngaaGreatDoor

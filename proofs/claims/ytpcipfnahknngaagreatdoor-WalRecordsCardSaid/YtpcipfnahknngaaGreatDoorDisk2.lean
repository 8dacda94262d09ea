/- Contracts of disk.settle, Sync. No statement of the seat. -/
import Derived.Test.YtpcipfnahknngaaGreatDoorDisk
namespace Go.Proofs.YtpcipfnahknngaaGreatDoor
open Go.RowKit Go.Maps

/-- but for one map, all that was there is as it was -/
structure Fm (b : Nat) (w w' : World) : Prop where
  fr : Fr noTypes w w'
  gr : w.grownBy w' (some b)
theorem Fm.refl (b : Nat) (w : World) : Fm b w w := ⟨Fr.refl _ _, rfl, rfl, rfl, Nat.le_refl _, fun _ _ _ => rfl⟩
theorem Fm.trans {m : Nat} {a b c : World} (h : Fm m a b) (k : Fm m b c) : Fm m a c :=
  ⟨h.fr.trans k.fr, k.gr.os.trans h.gr.os, k.gr.tape.trans h.gr.tape, k.gr.output.trans h.gr.output, Nat.le_trans h.gr.size k.gr.size, fun g hg hn => (k.gr.block g (Nat.lt_of_lt_of_le hg h.gr.size) hn).trans (h.gr.block g hg hn)⟩
theorem Fm.of_below {m B : Nat} {w w' : World} (h : Below B w w') (hB : w.heap.size ≤ B) : Fm m w w' :=
  ⟨Fr.of_below h hB, h.os, h.tape, h.output, h.size, fun g hg _ => h.block g (Nat.lt_of_lt_of_le hg hB)⟩
theorem Fm.of_map {m : Nat} {w w' : World} (h : w.mapTurned w' m) : Fm m w w' := ⟨Fr.of_map h, h.grown⟩

/-- behind a write to the map -/
theorem Dp.turned {w w1 w2 : World} {d mb : Nat} {D D' : List (List UInt8 × Fil)} (h : Dp w1 d mb D) (ht : w1.mapTurned w2 mb) (h2 : Dk w2 mb D') (hf : Fm mb w w1) : Dp w2 d mb D' ∧ Fm mb w w2 := by
  have hf2 : Fm mb w1 w2 := Fm.of_map ht
  obtain ⟨⟨fz, h1⟩, _⟩ := h
  exact ⟨⟨⟨fz, (hf2.fr.kept _ _ _ _ h1 id).trans h1⟩, h2⟩, hf.trans hf2⟩

def settled (k : List UInt8) (f : Fil) (D : List (List UInt8 × Fil)) : List (List UInt8 × Fil) := if f.isNow then putK k ⟨f.now, f.now, true, true, []⟩ D else delK k D

set_option maxRecDepth 100000 in
set_option maxHeartbeats 1600000 in
theorem settle70 (d mb : Nat) (D : List (List UInt8 × Fil)) (k : List UInt8) (f : Fil) (v : Value) (w : World) (h : Dp w d mb D) (hv : FilT w v f) (hk : k.length ≤ 64) (hn : D.length < maxLen) :
    Calls Tryz.prog 70 #[.pointer (some ⟨d, 0, none⟩), .string (tx k), v] w fun e w' => e = .returned (.tuple #[]) ∧ Dp w' d mb (settled k f D) ∧ Fm mb w w' := by
  have hvm : k.length ≤ maxLen := by unfold maxLen; omega
  obtain ⟨sa, sc, na, nc, la, lc, rfl, t1, t2, t3⟩ := hv
  have hb : Below w.heap.size w (w.alloc (.cells #[.slice sa f.sure.length sc, .slice na f.now.length nc, .bool f.isSure, .bool f.isNow, .slice la f.loose.length lc] 106)) := (Below.refl _ _).alloc (Nat.le_refl _) _
  have h1 := h.below hb (Nat.le_refl _)
  have hc := h1.cell
  have hf1 : Fm mb w (w.alloc (.cells #[.slice sa f.sure.length sc, .slice na f.now.length nc, .bool f.isSure, .bool f.isNow, .slice la f.loose.length lc] 106)) := Fm.of_below hb (Nat.le_refl _)
  cases hN : f.isNow with
  | false =>
    have hs : settled k f D = delK k D := by unfold settled; rw [hN]; rfl
    rw [hs]
    obtain ⟨w2, hrun, hD2, hturn⟩ := del_run _ mb D h1.2 k hvm 0
    rw [hN] at hrun hc hturn
    clear t1 t2 t3
    go_enter Tryz.func70, Tryz.ntmps70
    rw [hN] at h1 hf1
    go_wp2
    exact bodyPost_ret (v := .tuple #[]) (by simp [results, Tryz.results70, go_sem]) rfl ⟨rfl, h1.turned hturn hD2 hf1⟩
  | true =>
    have hs : settled k f D = putK k ⟨f.now, f.now, true, true, []⟩ D := by unfold settled; rw [hN]; rfl
    rw [hs]
    have hfd := hf1.trans (Fm.of_below ((Below.refl _ _).drew) (Nat.le_refl _))
    have hnew : FilT ((w.alloc (.cells #[.slice sa f.sure.length sc, .slice na f.now.length nc, .bool f.isSure, .bool f.isNow, .slice la f.loose.length lc] 106)).drew) (.agg #[.slice na f.now.length nc, .slice na f.now.length nc, .bool true, .bool true, .slice none 0 0]) ⟨f.now, f.now, true, true, []⟩ :=
      ⟨_, _, _, _, _, _, rfl, t2.fr hfd.fr id, t2.fr hfd.fr id, ChT.nil _⟩
    have h2 := h1.below ((Below.refl _ _).drew) (Nat.le_refl _)
    obtain ⟨w2, hrun, hD2, hturn⟩ := set_run _ mb D h2.2 k hvm _ _ hnew hn
    have hc2 := h2.cell
    rw [hN] at hrun hc hturn h1 hf1 h2 hc2 hfd
    clear t1 t2 t3 hnew hb
    go_enter Tryz.func70, Tryz.ntmps70
    go_wp2
    go_region
    go_end0
    exact ⟨rfl, h2.turned hturn hD2 hfd⟩

def syncE (k : List UInt8) (D : List (List UInt8 × Fil)) : Nat := if badName k then 2 else if (getK k D).isSome then 0 else 5
def syncD (k : List UInt8) (D : List (List UInt8 × Fil)) : List (List UInt8 × Fil) := if badName k then D else match getK k D with | some f => settled k f D | none => D

set_option maxRecDepth 100000 in
set_option maxHeartbeats 1600000 in
theorem sync28 (d mb : Nat) (D : List (List UInt8 × Fil)) (k : List UInt8) (w : World) (h : Dp w d mb D) (hn : D.length < maxLen) :
    Calls Tryz.prog 28 #[.pointer (some ⟨d, 0, none⟩), .string (tx k)] w fun e w' => e = .returned (.int .i64 (syncE k D)) ∧ Dp w' d mb (syncD k D) ∧ Fm mb w w' := by
  cases hb : badName k with
  | true =>
    have e1 : syncE k D = 2 := by unfold syncE; rw [hb]; rfl
    have e2 : syncD k D = D := by unfold syncD; rw [hb]; rfl
    rw [e1, e2]
    go_enter Tryz.func28, Tryz.ntmps28
    go_wp2_with (go_at_call 72; refine (may72_bad d mb D k _ h hb).mono ?_; rintro e w1 ⟨rfl, rfl⟩)
    go_ret
    exact ⟨rfl, h, Fm.refl _ _⟩
  | false =>
    have hk : k.length ≤ 64 := by have := of_decide_eq_false hb; omega
    have hkm : k.length ≤ maxLen := by unfold maxLen; omega
    obtain ⟨sa, sc, na, nc, la, lc, _, hrun, hT⟩ := look_run w mb D h.2 k hkm
    have hc := h.cell
    cases hg : getK k D with
    | none =>
      have e1 : syncE k D = 5 := by unfold syncE; rw [hb, hg]; rfl
      have e2 : syncD k D = D := by unfold syncD; rw [hb, hg]; rfl
      rw [e1, e2]
      rw [hg] at hrun
      simp only [Option.getD_none, Option.isSome_none] at hrun
      clear hT
      go_enter Tryz.func28, Tryz.ntmps28
      go_wp2_with (go_at_call 72; refine (may72 d mb D k _ h hb).mono ?_; rintro e w1 ⟨rfl, rfl⟩)
      go_ret
      exact ⟨rfl, h.below ((Below.refl _ _).alloc (Nat.le_refl _) _) (Nat.le_refl _), Fm.of_below ((Below.refl _ _).alloc (Nat.le_refl _) _) (Nat.le_refl _)⟩
    | some f =>
      have e1 : syncE k D = 0 := by unfold syncE; rw [hb, hg]; rfl
      have e2 : syncD k D = settled k f D := by unfold syncD; rw [hb, hg]; rfl
      rw [e1, e2]
      rw [hg] at hrun hT
      simp only [Option.getD_some, Option.isSome_some] at hrun hT
      go_enter Tryz.func28, Tryz.ntmps28
      go_wp2_with (go_at_call 72; refine (may72 d mb D k _ h hb).mono ?_; rintro e w1 ⟨rfl, rfl⟩)
      have hb1 := (Below.refl w1.heap.size w1).alloc (Nat.le_refl _) (Obj.cells #[.slice sa f.sure.length sc, .slice na f.now.length nc, .bool f.isSure, .bool f.isNow, .slice la f.loose.length lc] 106)
      have hf1 : Fm mb w1 _ := Fm.of_below hb1 (Nat.le_refl _)
      refine (settle70 d mb D k f _ _ (h.below hb1 (Nat.le_refl _)) (hT.fr hf1.fr id id) hk hn).mono ?_
      rintro e w2 ⟨rfl, hD2, hf2⟩
      go_wp2
      go_ret
      exact ⟨rfl, hD2, hf1.trans hf2⟩
end Go.Proofs.YtpcipfnahknngaaGreatDoor

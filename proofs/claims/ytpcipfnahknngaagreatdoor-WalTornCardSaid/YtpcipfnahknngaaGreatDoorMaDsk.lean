/- Texts of seat wal in one: Disk Disk2 DiskPut DiskApp. No statement of the seat. -/
import Derived.Test.YtpcipfnahknngaaGreatDoorMaRec
import Derived.WalkSpells
import Derived.Deep.RegionLawGrows
import Derived.BigQuiet
import Derived.Deep.QuietTactic
import Derived.Deep.RegionWith
import Derived.Deep.DeepMust
/- Contracts of package disk. No statement of the seat. -/
namespace Go.Proofs.YtpcipfnahknngaaGreatDoor
open Go.RowKit Go.Maps

/-- the Disk in block d has the map mb, which reads as D -/
def Dp (w : World) (d mb : Nat) (D : List (List UInt8 × Fil)) : Prop := (∃ fz, w.heap[d]? = some (Obj.cells #[.map (some mb)] 91 fz)) ∧ Dk w mb D
theorem Dp.cell {w : World} {d mb : Nat} {D : List (List UInt8 × Fil)} (h : Dp w d mb D) : w.cell? ⟨d, 0, none⟩ = some (.map (some mb)) := by
  obtain ⟨⟨fz, h1⟩, _⟩ := h
  rw [cell_of_row w d 0 _ 91 fz h1]; rfl
theorem Dp.below {w w' : World} {d mb : Nat} {D : List (List UInt8 × Fil)} (h : Dp w d mb D) {B : Nat} (hb : Below B w w') (hB : w.heap.size ≤ B) : Dp w' d mb D := by
  obtain ⟨⟨fz, h1⟩, h2⟩ := h
  exact ⟨⟨fz, (hb.block d (Nat.lt_of_lt_of_le (lt_of_get h1) hB)).trans h1⟩, h2.below hb hB⟩
theorem Dp.drewN {w : World} {d mb : Nat} {D : List (List UInt8 × Fil)} (h : Dp w d mb D) (n : Nat) : Dp (w.drewN n) d mb D :=
  h.below (B := w.heap.size) ⟨rfl, rfl, rfl, Nat.le_refl _, fun _ _ => rfl⟩ (Nat.le_refl _)

set_option maxRecDepth 100000 in
set_option maxHeartbeats 800000 in
theorem new18 (w : World) : Calls Tryz.prog 18 #[] w fun e w' => e = .returned (.pointer (some ⟨w.heap.size + 1, 0, none⟩)) ∧ Dp w' (w.heap.size + 1) w.heap.size [] ∧ Below w.heap.size w w' := by
  have hmm := @run_makeMap Tryz.prog
  go_enter Tryz.func18, Tryz.ntmps18
  go_wp2
  go_ret
  refine ⟨rfl, ?_, ((Below.refl _ _).alloc (Nat.le_refl _) _).alloc (by simp) _⟩
  have h0 := Dk.new w
  have h1 := h0.below ((Below.refl _ _).alloc (Nat.le_refl _) (Obj.cells #[.map (some w.heap.size)] 91)) (Nat.le_refl _)
  refine ⟨⟨(0, 0), ?_⟩, h1⟩
  have := heap_alloc_new (w.alloc (Obj.map #[] 0)) (Obj.cells #[.map (some w.heap.size)] 91)
  simpa using this

set_option maxRecDepth 100000 in
set_option maxHeartbeats 800000 in
theorem there81 (d mb : Nat) (D : List (List UInt8 × Fil)) (w : World) (h : Dp w d mb D) : Calls Tryz.prog 81 #[.pointer (some ⟨d, 0, none⟩)] w fun e w' => e = .returned (.bool true) ∧ w' = w := by
  have hc := h.cell
  have hr := run_neq_map_nil (P := Tryz.prog) w 89 9 106 (some mb) Tryz.underlying89
  clear h
  go_enter Tryz.func81, Tryz.ntmps81
  go_wp2
  go_ret
  exact ⟨rfl, rfl⟩

/-- what is wrong with a name -/
def badName (k : List UInt8) : Bool := decide (k.length < 1 ∨ 64 < k.length)

set_option maxRecDepth 100000 in
set_option maxHeartbeats 800000 in
theorem may72 (d mb : Nat) (D : List (List UInt8 × Fil)) (k : List UInt8) (w : World) (h : Dp w d mb D) (hk : badName k = false) : Calls Tryz.prog 72 #[.pointer (some ⟨d, 0, none⟩), .string (tx k)] w fun e w' => e = .returned (.int .i64 0) ∧ w' = w := by
  have hsz : (tx k).size = k.length := tx_size k
  unfold badName at hk
  have hk2 := of_decide_eq_false hk
  have h1 : 1 ≤ (k.length : Int) := by omega
  have h2 : (k.length : Int) ≤ 64 := by omega
  clear hk2
  clear hk
  go_enter Tryz.func72, Tryz.ntmps72
  go_wp2_with (go_at_call 81; refine (there81 d mb D _ h).mono ?_; rintro e w1 ⟨rfl, rfl⟩)
  go_ret
  exact ⟨rfl, rfl⟩
set_option maxRecDepth 100000 in
set_option maxHeartbeats 800000 in
theorem may72_bad (d mb : Nat) (D : List (List UInt8 × Fil)) (k : List UInt8) (w : World) (h : Dp w d mb D) (hk : badName k = true) : Calls Tryz.prog 72 #[.pointer (some ⟨d, 0, none⟩), .string (tx k)] w fun e w' => e = .returned (.int .i64 2) ∧ w' = w := by
  have hsz : (tx k).size = k.length := tx_size k
  unfold badName at hk
  rcases (of_decide_eq_true hk) with h1 | h1
  all_goals
    clear hk
    go_enter Tryz.func72, Tryz.ntmps72
    go_wp2_with (go_at_call 81; refine (there81 d mb D _ h).mono ?_; rintro e w1 ⟨rfl, rfl⟩)
    go_ret
    exact ⟨rfl, rfl⟩
end Go.Proofs.YtpcipfnahknngaaGreatDoor

/- Contracts of disk.settle, Sync. No statement of the seat. -/
namespace Go.Proofs.YtpcipfnahknngaaGreatDoor
open Go.RowKit Go.Maps

/-- but for one map, all that was there is as it was -/
structure Fm (b : Nat) (w w' : World) : Prop where
  fr : Fr noTypes w w'
  gr : w.grownBy w' (some b)
theorem Fm.refl (b : Nat) (w : World) : Fm b w w := ⟨Fr.refl _ _, rfl, rfl, rfl, Nat.le_refl _, fun _ _ _ => rfl⟩
theorem Fm.trans {m : Nat} {a b c : World} (h : Fm m a b) (k : Fm m b c) : Fm m a c :=
  ⟨h.fr.trans k.fr, k.gr.os.trans h.gr.os, k.gr.tape.trans h.gr.tape, k.gr.output.trans h.gr.output, Nat.le_trans h.gr.size k.gr.size, fun g hg hn => (k.gr.block g (Nat.lt_of_lt_of_le hg h.gr.size) hn).trans (h.gr.block g hg hn)⟩
theorem Fm.of_below {m B : Nat} {w w' : World} (h : Below B w w') (hB : w.heap.size ≤ B) : Fm m w w' :=
  ⟨Fr.of_below h hB, h.os, h.tape, h.output, h.size, fun g hg _ => h.block g (Nat.lt_of_lt_of_le hg hB)⟩
theorem Fm.of_map {m : Nat} {w w' : World} (h : w.mapTurned w' m) : Fm m w w' := ⟨Fr.of_map h, h.grown⟩

/-- behind a write to the map -/
theorem Dp.turned {w w1 w2 : World} {d mb : Nat} {D D' : List (List UInt8 × Fil)} (h : Dp w1 d mb D) (ht : w1.mapTurned w2 mb) (h2 : Dk w2 mb D') (hf : Fm mb w w1) : Dp w2 d mb D' ∧ Fm mb w w2 := by
  have hf2 : Fm mb w1 w2 := Fm.of_map ht
  obtain ⟨⟨fz, h1⟩, _⟩ := h
  exact ⟨⟨⟨fz, (hf2.fr.kept _ _ _ _ h1 id).trans h1⟩, h2⟩, hf.trans hf2⟩

def settled (k : List UInt8) (f : Fil) (D : List (List UInt8 × Fil)) : List (List UInt8 × Fil) := if f.isNow then putK k ⟨f.now, f.now, true, true, []⟩ D else delK k D

set_option maxRecDepth 100000 in
set_option maxHeartbeats 1600000 in
theorem settle70 (d mb : Nat) (D : List (List UInt8 × Fil)) (k : List UInt8) (f : Fil) (v : Value) (w : World) (h : Dp w d mb D) (hv : FilT w v f) (hk : k.length ≤ 64) (hn : D.length < maxLen) :
    Calls Tryz.prog 70 #[.pointer (some ⟨d, 0, none⟩), .string (tx k), v] w fun e w' => e = .returned (.tuple #[]) ∧ Dp w' d mb (settled k f D) ∧ Fm mb w w' := by
  have hvm : k.length ≤ maxLen := by unfold maxLen; omega
  obtain ⟨sa, sc, na, nc, la, lc, rfl, t1, t2, t3⟩ := hv
  have hb : Below w.heap.size w (w.alloc (.cells #[.slice sa f.sure.length sc, .slice na f.now.length nc, .bool f.isSure, .bool f.isNow, .slice la f.loose.length lc] 106)) := (Below.refl _ _).alloc (Nat.le_refl _) _
  have h1 := h.below hb (Nat.le_refl _)
  have hc := h1.cell
  have hf1 : Fm mb w (w.alloc (.cells #[.slice sa f.sure.length sc, .slice na f.now.length nc, .bool f.isSure, .bool f.isNow, .slice la f.loose.length lc] 106)) := Fm.of_below hb (Nat.le_refl _)
  cases hN : f.isNow with
  | false =>
    have hs : settled k f D = delK k D := by unfold settled; rw [hN]; rfl
    rw [hs]
    obtain ⟨w2, hrun, hD2, hturn⟩ := del_run _ mb D h1.2 k hvm 0
    rw [hN] at hrun hc hturn
    clear t1 t2 t3
    go_enter Tryz.func70, Tryz.ntmps70
    rw [hN] at h1 hf1
    go_wp2
    exact bodyPost_ret (v := .tuple #[]) (by simp [results, Tryz.results70, go_sem]) rfl ⟨rfl, h1.turned hturn hD2 hf1⟩
  | true =>
    have hs : settled k f D = putK k ⟨f.now, f.now, true, true, []⟩ D := by unfold settled; rw [hN]; rfl
    rw [hs]
    have hfd := hf1.trans (Fm.of_below ((Below.refl _ _).drew) (Nat.le_refl _))
    have hnew : FilT ((w.alloc (.cells #[.slice sa f.sure.length sc, .slice na f.now.length nc, .bool f.isSure, .bool f.isNow, .slice la f.loose.length lc] 106)).drew) (.agg #[.slice na f.now.length nc, .slice na f.now.length nc, .bool true, .bool true, .slice none 0 0]) ⟨f.now, f.now, true, true, []⟩ :=
      ⟨_, _, _, _, _, _, rfl, t2.fr hfd.fr id, t2.fr hfd.fr id, ChT.nil _⟩
    have h2 := h1.below ((Below.refl _ _).drew) (Nat.le_refl _)
    obtain ⟨w2, hrun, hD2, hturn⟩ := set_run _ mb D h2.2 k hvm _ _ hnew hn
    have hc2 := h2.cell
    rw [hN] at hrun hc hturn h1 hf1 h2 hc2 hfd
    clear t1 t2 t3 hnew hb
    go_enter Tryz.func70, Tryz.ntmps70
    go_wp2
    go_region
    go_end0
    exact ⟨rfl, h2.turned hturn hD2 hfd⟩

def syncE (k : List UInt8) (D : List (List UInt8 × Fil)) : Nat := if badName k then 2 else if (getK k D).isSome then 0 else 5
def syncD (k : List UInt8) (D : List (List UInt8 × Fil)) : List (List UInt8 × Fil) := if badName k then D else match getK k D with | some f => settled k f D | none => D

set_option maxRecDepth 100000 in
set_option maxHeartbeats 1600000 in
theorem sync28 (d mb : Nat) (D : List (List UInt8 × Fil)) (k : List UInt8) (w : World) (h : Dp w d mb D) (hn : D.length < maxLen) :
    Calls Tryz.prog 28 #[.pointer (some ⟨d, 0, none⟩), .string (tx k)] w fun e w' => e = .returned (.int .i64 (syncE k D)) ∧ Dp w' d mb (syncD k D) ∧ Fm mb w w' := by
  cases hb : badName k with
  | true =>
    have e1 : syncE k D = 2 := by unfold syncE; rw [hb]; rfl
    have e2 : syncD k D = D := by unfold syncD; rw [hb]; rfl
    rw [e1, e2]
    go_enter Tryz.func28, Tryz.ntmps28
    go_wp2_with (go_at_call 72; refine (may72_bad d mb D k _ h hb).mono ?_; rintro e w1 ⟨rfl, rfl⟩)
    go_ret
    exact ⟨rfl, h, Fm.refl _ _⟩
  | false =>
    have hk : k.length ≤ 64 := by have := of_decide_eq_false hb; omega
    have hkm : k.length ≤ maxLen := by unfold maxLen; omega
    obtain ⟨sa, sc, na, nc, la, lc, _, hrun, hT⟩ := look_run w mb D h.2 k hkm
    have hc := h.cell
    cases hg : getK k D with
    | none =>
      have e1 : syncE k D = 5 := by unfold syncE; rw [hb, hg]; rfl
      have e2 : syncD k D = D := by unfold syncD; rw [hb, hg]; rfl
      rw [e1, e2]
      rw [hg] at hrun
      simp only [Option.getD_none, Option.isSome_none] at hrun
      clear hT
      go_enter Tryz.func28, Tryz.ntmps28
      go_wp2_with (go_at_call 72; refine (may72 d mb D k _ h hb).mono ?_; rintro e w1 ⟨rfl, rfl⟩)
      go_ret
      exact ⟨rfl, h.below ((Below.refl _ _).alloc (Nat.le_refl _) _) (Nat.le_refl _), Fm.of_below ((Below.refl _ _).alloc (Nat.le_refl _) _) (Nat.le_refl _)⟩
    | some f =>
      have e1 : syncE k D = 0 := by unfold syncE; rw [hb, hg]; rfl
      have e2 : syncD k D = settled k f D := by unfold syncD; rw [hb, hg]; rfl
      rw [e1, e2]
      rw [hg] at hrun hT
      simp only [Option.getD_some, Option.isSome_some] at hrun hT
      go_enter Tryz.func28, Tryz.ntmps28
      go_wp2_with (go_at_call 72; refine (may72 d mb D k _ h hb).mono ?_; rintro e w1 ⟨rfl, rfl⟩)
      have hb1 := (Below.refl w1.heap.size w1).alloc (Nat.le_refl _) (Obj.cells #[.slice sa f.sure.length sc, .slice na f.now.length nc, .bool f.isSure, .bool f.isNow, .slice la f.loose.length lc] 106)
      have hf1 : Fm mb w1 _ := Fm.of_below hb1 (Nat.le_refl _)
      refine (settle70 d mb D k f _ _ (h.below hb1 (Nat.le_refl _)) (hT.fr hf1.fr id id) hk hn).mono ?_
      rintro e w2 ⟨rfl, hD2, hf2⟩
      go_wp2
      go_ret
      exact ⟨rfl, hD2, hf1.trans hf2⟩
end Go.Proofs.YtpcipfnahknngaaGreatDoor

/- Contract of disk.put. No statement of the seat. -/
namespace Go.Proofs.YtpcipfnahknngaaGreatDoor
open Go.RowKit Go.Maps

theorem info108 : (Tryz.prog.info? 108).map (fun i => (i.zero, i.size, i.bytes)) = some (some (.agg #[.bool false, .bool false, .slice none 0 0]), 3, 32) := by kernel_rfl

set_option maxRecDepth 100000 in
set_option maxHeartbeats 800000 in
theorem clip98 (ao : Option Addr) (n cap : Nat) (w : World) (h1 : n ≤ cap) (h2 : cap ≤ maxLen) : Calls Tryz.prog 98 #[.slice ao n cap] w fun e w' => e = .returned (.slice ao n n) ∧ w' = w := by
  have _h2 := h2
  unfold maxLen at _h2
  by_cases h0 : n = 0
  · subst h0
    go_enter Tryz.func98, Tryz.ntmps98
    go_wp2
    go_ret
    exact ⟨rfl, rfl⟩
  · have h0' : 0 < n := by omega
    go_enter Tryz.func98, Tryz.ntmps98
    go_wp2
    go_ret
    exact ⟨rfl, rfl⟩

theorem below_grown {w w' : World} (h : w.grownBy w' none) : Below w.heap.size w w' := ⟨h.os, h.tape, h.output, h.size, fun i hi => h.block i hi (by simp)⟩

theorem chCells_len (cs : List Chg) (us : List Value) (h : us.length = cs.length) : (chCells cs us).length = cs.length * 3 := by
  induction cs generalizing us with
  | nil => cases us <;> rfl
  | cons c cs ih =>
    cases us with
    | nil => simp at h
    | cons u us =>
      have := ih us (by simpa using h)
      simp only [chCells, List.length_cons, this]
      omega
theorem chCells_app (cs : List Chg) (us : List Value) (h : us.length = cs.length) (c : Chg) (u : Value) : chCells (cs ++ [c]) (us ++ [u]) = chCells cs us ++ [.bool c.whole, .bool c.gone, u] := by
  induction cs generalizing us with
  | nil => cases us with
    | nil => rfl
    | cons _ _ => simp at h
  | cons d cs ih =>
    cases us with
    | nil => simp at h
    | cons u us =>
      have := ih us (by simpa using h)
      simp only [List.cons_append, chCells, this]
theorem chCells_one (cs : List Chg) (us : List Value) (h : us.length = cs.length) (hu : ∀ u ∈ us, u.oneCell' = true) : ∀ x ∈ chCells cs us, x.oneCell' = true := by
  induction cs generalizing us with
  | nil => intro x hx; cases us <;> simp [chCells] at hx
  | cons d cs ih =>
    cases us with
    | nil => simp at h
    | cons u us =>
      intro x hx
      simp only [chCells, List.mem_cons] at hx
      rcases hx with rfl | rfl | rfl | hx
      · rfl
      · rfl
      · exact hu _ (by simp)
      · exact ih us (by simpa using h) (fun y hy => hu y (by simp [hy])) x hx
theorem Ty.of_own {w : World} {B : Nat} {e : TypeId} {sz : Nat} {v : Value} {n : Nat} {xs : List Value} (h : w.ownsRow B e sz v n xs) : Ty e w v := by
  intro g hg
  rcases h.2 with ⟨rfl, _⟩ | ⟨g', cap, cur, rfl, _, hh, _⟩
  · cases hg
  · cases hg
    exact ⟨cur, _, hh⟩
theorem Bt.slice {w : World} {v : Value} {l : List UInt8} (h : Bt w v l) : v.oneCell' = true := by
  obtain ⟨_, _, ao, cap, rfl, _⟩ := h
  rfl

theorem FilT.loose_cap {w : World} {f : Fil} {a b c d : Value} {la : Option Addr} {n lc : Nat} (h : FilT w (.agg #[a, b, c, d, .slice la n lc]) f) : n ≤ lc ∧ lc ≤ maxLen := by
  obtain ⟨sa, sc, na, nc, la, lc, hv, h1, h2, us, u1, ⟨s1, s2, ao, cap, hv2, s3, s4, s6, s5⟩, u3, u4⟩ := h
  cases hv2
  simp only [Value.agg.injEq, Array.mk.injEq, List.cons.injEq, Value.slice.injEq, and_true] at hv
  obtain ⟨_, _, _, _, _, rfl, rfl⟩ := hv
  exact ⟨s3, s4⟩

theorem box5 (g : Nat) {w w2 : World} {a b c d e : Value} {t : TypeId} {B : Nat} (h : Below B (w.alloc (.cells #[a, b, c, d, e] t)) w2) (hg : g = w.heap.size) (hB : w.heap.size < B) :
    w2.cell? ⟨g, 0, none⟩ = some a ∧ w2.cell? ⟨g, 1, none⟩ = some b ∧ w2.cell? ⟨g, 2, none⟩ = some c ∧ w2.cell? ⟨g, 3, none⟩ = some d ∧ w2.cell? ⟨g, 4, none⟩ = some e ∧ (∀ j, w2.frozen? ⟨g, j, none⟩ = false) := by
  subst hg
  refine ⟨?_, ?_, ?_, ?_, ?_, fun j => ?_⟩
  · rw [h.cell (p := ⟨w.heap.size, 0, none⟩) hB, World.cell?_alloc_at _ _ _ _ rfl]; rfl
  · rw [h.cell (p := ⟨w.heap.size, 1, none⟩) hB, World.cell?_alloc_at _ _ _ _ rfl]; rfl
  · rw [h.cell (p := ⟨w.heap.size, 2, none⟩) hB, World.cell?_alloc_at _ _ _ _ rfl]; rfl
  · rw [h.cell (p := ⟨w.heap.size, 3, none⟩) hB, World.cell?_alloc_at _ _ _ _ rfl]; rfl
  · rw [h.cell (p := ⟨w.heap.size, 4, none⟩) hB, World.cell?_alloc_at _ _ _ _ rfl]; rfl
  · rw [h.frozen (p := ⟨w.heap.size, j, none⟩) hB]; exact World.frozen?_alloc_at _ _ _ _ rfl

theorem cells3 (g : Nat) {w w2 : World} {a b c : Value} {t : TypeId} {B : Nat} (h : Below B (w.alloc (.cells #[a, b, c] t)) w2) (hg : g = w.heap.size) (hB : w.heap.size < B) :
    w2.cell? ⟨g, 0, none⟩ = some a ∧ w2.cell? ⟨g, 1, none⟩ = some b ∧ w2.cell? ⟨g, 2, none⟩ = some c ∧ (∀ j, w2.frozen? ⟨g, j, none⟩ = false) := by
  subst hg
  refine ⟨?_, ?_, ?_, fun j => ?_⟩
  · rw [h.cell (p := ⟨w.heap.size, 0, none⟩) hB, World.cell?_alloc_at _ _ _ _ rfl]; rfl
  · rw [h.cell (p := ⟨w.heap.size, 1, none⟩) hB, World.cell?_alloc_at _ _ _ _ rfl]; rfl
  · rw [h.cell (p := ⟨w.heap.size, 2, none⟩) hB, World.cell?_alloc_at _ _ _ _ rfl]; rfl
  · rw [h.frozen (p := ⟨w.heap.size, j, none⟩) hB]; exact World.frozen?_alloc_at _ _ _ _ rfl

theorem blk_new {w w2 : World} {B : Nat} {xs : Array Value} {t : TypeId} (g : Nat) (h : Below B (w.alloc (.cells xs t)) w2) (hg : g = w.heap.size) (hB : w.heap.size < B) : ∃ cur fz, w2.heap[g]? = some (Obj.cells cur t fz) := by
  subst hg
  refine ⟨xs, (0, 0), (h.block _ hB).trans (heap_alloc_new w _)⟩

theorem step_ch {ops : Array Oper} {o : Oper} {a : Act} {w : World} {K : Act → World → Prop} {Q : Exit → Act → World → Prop} {E : Prop}
    (hg : o.guard = none) (s x : Operand) (hop : o.op = Op.call { callee := Callee.builtin Builtin.append, args := #[s, x], argTypes := #[104, 104] })
    (la : Option Addr) (lc : Nat) (cs : List Chg) (c : Chg) (u : Value) (g : Nat) (hs : a.eval s = .slice la cs.length cs.length) (hx : a.eval x = .slice (some ⟨g, 0, none⟩) 1 1)
    (hT : ChT w (.slice la cs.length lc) cs) (x0 : w.cell? ⟨g, 0, none⟩ = some (.bool c.whole)) (x1 : w.cell? ⟨g, 1, none⟩ = some (.bool c.gone)) (x2 : w.cell? ⟨g, 2, none⟩ = some u) (hu : BtT w u c.b)
    (hl : cs.length < 1000000000000)
    (hK : ∀ la' lc' w', ChT w' (.slice la' (cs ++ [c]).length lc') (cs ++ [c]) → Below w.heap.size w w' → K (a.put o.dst (.slice la' (cs ++ [c]).length lc')) w') :
    if Region.wanted o (yielded ops a.tmps) = true then Oper.wp Tryz.prog o a w K Q else E := by
  obtain ⟨us, u1, ⟨s1, s2, ao, cap, hv, s3, s4, s6, s5⟩, u3, u4⟩ := hT
  cases hv
  obtain ⟨i0, hi, hz0, hz1, hz2⟩ := info_parts info108
  have hone := hu.1.slice
  refine step_append_grows hg s x 104 hop 108 i0 _ 3 32 Tryz.underlying104 hi hz0 hz1 hz2 rfl (by decide) la cs.length cs.length (chCells cs us) hs ?_ s1 ?_ ⟨g, 0, none⟩ 1 1
    [.bool c.whole, .bool c.gone, u] hx rfl ?_ ?_ (by omega) (by unfold maxLen; omega) (by omega) ?_
  · intro h
    have := s6 h
    omega
  · intro b hb j v hj
    rcases s5 with s5 | ⟨g', off, rfl, s5⟩
    · have : (chCells cs us) = [] := List.eq_nil_of_length_eq_zero (by rw [s1, s5])
      rw [this] at hj; simp at hj
    · cases hb
      have h2 := s5 j v hj
      unfold Addr.add
      split
      · rename_i h3; subst h3; exact h2
      · exact h2
  · intro j v hj
    match j, hj with
    | 0, hj => cases hj; exact x0
    | 1, hj => cases hj; exact x1
    | 2, hj => cases hj; exact x2
  · intro v hv
    simp only [List.mem_cons, List.not_mem_nil, or_false] at hv
    rcases hv with rfl | rfl | rfl
    · rfl
    · rfl
    · exact hone
  · intro v' w' hown hgrow
    have hb := below_grown hgrow
    have hT := Ty.of_own hown
    rw [← chCells_app cs us u1 c u] at hown
    have hlen : cs.length + 1 = (cs ++ [c]).length := by simp
    rw [hlen] at hown
    have hS : Sl w' 3 v' (cs ++ [c]).length (chCells (cs ++ [c]) (us ++ [u])) := Sl.of_own hown (by
      rw [chCells_app cs us u1 c u]
      intro y hy
      rcases List.mem_append.1 hy with hy | hy
      · exact s2 y hy
      · simp only [List.mem_cons, List.not_mem_nil, or_false] at hy
        rcases hy with rfl | rfl | rfl
        · rfl
        · rfl
        · exact hone)
    obtain ⟨la', lc', hv⟩ := own_shape hown
    subst hv
    refine hK la' lc' w' ⟨us ++ [u], by simp [u1], Sl.of_own hown ?_, hT, ?_⟩ hb
    · exact hS.2.1
    · have hfr : Fr noTypes w w' := Fr.of_below hb (Nat.le_refl _)
      intro k hk
      by_cases hk2 : k < cs.length
      · obtain ⟨y, y1, y2⟩ := u4 k hk2
        refine ⟨y, ?_, ?_⟩
        · rw [List.getElem?_append_left (by omega)]; exact y1
        · rw [List.getElem_append_left hk2]; exact y2.fr hfr id
      · have hk3 : k = cs.length := by simp at hk; omega
        subst hk3
        refine ⟨u, ?_, ?_⟩
        · rw [List.getElem?_append_right (by omega), u1]; simp
        · rw [List.getElem_append_right (by omega)]; simp; exact hu.fr hfr id

/-- the end of put: the loose changes are stored in the box q, the box in the map -/
theorem put_end {w w2 : World} {d mb q : Nat} {D : List (List UInt8 × Fil)} (k : List UInt8) (f : Fil) (h : Dp w d mb D) (hB : Below w.heap.size w w2) (hq : w.heap.size ≤ q) (hty : ∃ cur fz, w2.heap[q]? = some (Obj.cells cur 106 fz))
    (hk : k.length ≤ maxLen) (hn : D.length < maxLen) (sa na la : Option Addr) (sc nc lc : Nat)
    (h1 : BtT w2 (.slice sa f.sure.length sc) f.sure) (h2 : BtT w2 (.slice na f.now.length nc) f.now) (h3 : ChT w2 (.slice la f.loose.length lc) f.loose) :
    ∃ w4, (Instr.mapUpdate 89 (.map (some mb)) (.string (tx k)) (.agg #[.slice sa f.sure.length sc, .slice na f.now.length nc, .bool f.isSure, .bool f.isNow, .slice la f.loose.length lc])).run Tryz.prog (w2.setCell ⟨q, 4, none⟩ (.slice la f.loose.length lc)).drew = .ok () w4 ∧
      Dp w4 d mb (putK k f D) ∧ Fm mb w w4 := by
  have hd : d < w.heap.size := by
    obtain ⟨⟨fz, hd⟩, _⟩ := h
    exact lt_of_get hd
  have hB3 : Below w.heap.size w (w2.setCell ⟨q, 4, none⟩ (.slice la f.loose.length lc)).drew := (hB.setCell (p := ⟨q, 4, none⟩) hq _).drew
  have hf3 : Fr (fun e => e = 106) w2 (w2.setCell ⟨q, 4, none⟩ (.slice la f.loose.length lc)).drew :=
    (Fr.setCell (Fr.refl _ w2) _ (fun cur e fz hh => by
      obtain ⟨c2, f2, hty⟩ := hty
      have : w2.heap[q]? = some (Obj.cells cur e fz) := hh
      rw [hty] at this
      cases this; rfl)).trans (Fr.of_below ((Below.refl _ _).drew) (Nat.le_refl _))
  have hD := h.below hB3 (Nat.le_refl _)
  obtain ⟨w4, hrun, hD4, hturn⟩ := set_run _ mb D hD.2 k hk _ f ⟨sa, sc, na, nc, la, lc, rfl, h1.fr hf3 (by decide), h2.fr hf3 (by decide), h3.fr hf3 (by decide) (by decide)⟩ hn
  exact ⟨w4, hrun, hD.turned hturn hD4 (Fm.of_below hB3 (Nat.le_refl _))⟩

/-- a file behind a change -/
def chgF (f : Fil) (c : Chg) : Fil :=
  { f with now := if c.gone then [] else if c.whole then c.b else f.now ++ c.b, isNow := !c.gone, loose := f.loose ++ [c] }

set_option maxRecDepth 100000 in
set_option maxHeartbeats 3200000 in
theorem put74_gone (d mb : Nat) (D : List (List UInt8 × Fil)) (k : List UInt8) (wh : Bool) (ca : Option Addr) (cc : Nat) (cb : List UInt8) (w : World) (h : Dp w d mb D) (hc : BtT w (.slice ca cb.length cc) cb)
    (hk : k.length ≤ 64) (hn : D.length < maxLen) (hl : ((getK k D).getD noFil).loose.length < 1000000000000) :
    Calls Tryz.prog 74 #[.pointer (some ⟨d, 0, none⟩), .string (tx k), .agg #[.bool wh, .bool true, .slice ca cb.length cc]] w fun e w' =>
      e = .returned (.tuple #[]) ∧ Dp w' d mb (putK k (chgF ((getK k D).getD noFil) ⟨wh, true, cb⟩) D) ∧ Fm mb w w' := by
  have hkm : k.length ≤ maxLen := by unfold maxLen; omega
  obtain ⟨f, hf0⟩ : ∃ f, f = (getK k D).getD noFil := ⟨_, rfl⟩
  have hf := Lib.hid hf0
  have hb1 : Below w.heap.size w (w.alloc (.cells #[.bool wh, .bool true, .slice ca cb.length cc] 108)) := (Below.refl _ _).alloc (Nat.le_refl _) _
  have h1 := h.below hb1 (Nat.le_refl _)
  obtain ⟨sa, sc, na, nc, la, lc, hrun, _, hT⟩ := look_run _ mb D h1.2 k hkm
  rw [← hf0] at hrun hT hl ⊢
  clear hf0
  have hcell := h1.cell
  obtain ⟨hl1, hl2⟩ := hT.loose_cap
  obtain ⟨sa', sc', na', nc', la0, lc0, hv, t1, t2, t3⟩ := hT
  cases hv
  go_enter Tryz.func74, Tryz.ntmps74
  go_wp2
  go_region_law (first
    | (go_simp; go_at_call 98; (with_reducible refine (clip98 _ _ _ _ (by assumption) (by assumption)).mono ?_); rintro e w1 ⟨rfl, rfl⟩)
    | (refine step_ch rfl (.tmp 35) (.tmp 37) rfl la lc f.loose ⟨wh, true, cb⟩ (.slice ca cb.length cc) (w.heap.size + 1 + 1) (by simp [Act.eval]) (by simp [Act.eval])
        (t3.fr (Fr.of_below (M := noTypes) (B := w.heap.size + 1) (by repeat (first | exact Below.refl _ _ | refine Below.drew ?_ | refine Below.alloc ?_ (by simp <;> omega) _)) (by simp <;> omega)) id id)
        (cells3 (w.heap.size + 1 + 1) (B := w.heap.size + 1 + 1 + 1) (by first | exact (Below.refl _ _).drew | exact Below.refl _ _) (by simp) (by simp)).1 (cells3 (w.heap.size + 1 + 1) (B := w.heap.size + 1 + 1 + 1) (by first | exact (Below.refl _ _).drew | exact Below.refl _ _) (by simp) (by simp)).2.1 (cells3 (w.heap.size + 1 + 1) (B := w.heap.size + 1 + 1 + 1) (by first | exact (Below.refl _ _).drew | exact Below.refl _ _) (by simp) (by simp)).2.2.1
        (hc.fr (Fr.of_below (M := noTypes) (B := w.heap.size) (by repeat (first | exact Below.refl _ _ | refine Below.drew ?_ | refine Below.alloc ?_ (by simp <;> omega) _)) (by simp <;> omega)) id) hl ?_
       intro la' lc' w2 hT2 hb2
       have hbF : Below (w.heap.size + 1 + 1) ((w.alloc (Obj.cells #[Value.bool wh, Value.bool true, Value.slice ca cb.length cc] 108)).alloc (Obj.cells #[Value.slice sa f.sure.length sc, Value.slice none 0 0, Value.bool f.isSure, Value.bool false, Value.slice la f.loose.length lc] 106)) w2 :=
        Below.trans (by first | exact ((Below.refl _ _).alloc (by simp) _).drew | exact ((Below.refl _ _).drew).alloc (by simp) _) (hb2.mono (by simp))
       obtain ⟨c0, c1, c2, c3, c4, c5⟩ := box5 (w.heap.size + 1) hbF (by simp) (by simp)))
  all_goals (
    have hb02 : Below w.heap.size w w2 := hb1.trans (((Below.refl _ _).alloc (by simp) _).trans (hbF.mono (by omega)))
    have hb12 : Below (w.heap.size + 1) (w.alloc (Obj.cells #[Value.bool wh, Value.bool true, Value.slice ca cb.length cc] 108)) w2 := ((Below.refl _ _).alloc (by simp) _).trans (hbF.mono (by omega))
    obtain ⟨w4, hrun2, hD4, hf4⟩ := put_end k (chgF f ⟨wh, true, cb⟩) h hb02 (q := w.heap.size + 1) (by omega) (blk_new _ hbF (by simp) (by simp)) hkm hn sa none la' sc 0 lc'
      (t1.fr (Fr.of_below (M := noTypes) hb12 (by simp)) id) (BtT.nil _) hT2
    have hcd := (h.below ((hb02.setCell (p := ⟨w.heap.size + 1, 4, none⟩) (by simp) (.slice la' (f.loose ++ [(⟨wh, true, cb⟩ : Chg)]).length lc')).drew) (Nat.le_refl _)).cell
    unfold chgF at hrun2 hD4
    simp only [if_true, Bool.not_true, List.length_append, List.length_cons, List.length_nil, Nat.zero_add] at hrun2 hcd
    go_wp2
    go_must (go_region)
    go_end0
    exact ⟨rfl, hD4, hf4⟩)
set_option maxRecDepth 100000 in
set_option maxHeartbeats 3200000 in
theorem put74_whole (d mb : Nat) (D : List (List UInt8 × Fil)) (k : List UInt8) (ca : Option Addr) (cc : Nat) (cb : List UInt8) (w : World) (h : Dp w d mb D) (hc : BtT w (.slice ca cb.length cc) cb)
    (hk : k.length ≤ 64) (hn : D.length < maxLen) (hl : ((getK k D).getD noFil).loose.length < 1000000000000) :
    Calls Tryz.prog 74 #[.pointer (some ⟨d, 0, none⟩), .string (tx k), .agg #[.bool true, .bool false, .slice ca cb.length cc]] w fun e w' =>
      e = .returned (.tuple #[]) ∧ Dp w' d mb (putK k (chgF ((getK k D).getD noFil) ⟨true, false, cb⟩) D) ∧ Fm mb w w' := by
  have hkm : k.length ≤ maxLen := by unfold maxLen; omega
  obtain ⟨f, hf0⟩ : ∃ f, f = (getK k D).getD noFil := ⟨_, rfl⟩
  have hf := Lib.hid hf0
  have hb1 : Below w.heap.size w (w.alloc (.cells #[.bool true, .bool false, .slice ca cb.length cc] 108)) := (Below.refl _ _).alloc (Nat.le_refl _) _
  have h1 := h.below hb1 (Nat.le_refl _)
  obtain ⟨sa, sc, na, nc, la, lc, hrun, _, hT⟩ := look_run _ mb D h1.2 k hkm
  rw [← hf0] at hrun hT hl ⊢
  clear hf0
  have hcell := h1.cell
  obtain ⟨hl1, hl2⟩ := hT.loose_cap
  obtain ⟨sa', sc', na', nc', la0, lc0, hv, t1, t2, t3⟩ := hT
  cases hv
  go_enter Tryz.func74, Tryz.ntmps74
  go_wp2
  go_region_law (first
    | (go_simp; go_at_call 98; (with_reducible refine (clip98 _ _ _ _ (by assumption) (by assumption)).mono ?_); rintro e w1 ⟨rfl, rfl⟩)
    | (refine step_ch rfl (.tmp 35) (.tmp 37) rfl la lc f.loose ⟨true, false, cb⟩ (.slice ca cb.length cc) (w.heap.size + 1 + 1) (by simp [Act.eval]) (by simp [Act.eval])
        (t3.fr (Fr.of_below (M := noTypes) (B := w.heap.size + 1) (by repeat (first | exact Below.refl _ _ | refine Below.drew ?_ | refine Below.alloc ?_ (by simp <;> omega) _)) (by simp <;> omega)) id id)
        (cells3 (w.heap.size + 1 + 1) (B := w.heap.size + 1 + 1 + 1) (by first | exact (Below.refl _ _).drew | exact Below.refl _ _) (by simp) (by simp)).1 (cells3 (w.heap.size + 1 + 1) (B := w.heap.size + 1 + 1 + 1) (by first | exact (Below.refl _ _).drew | exact Below.refl _ _) (by simp) (by simp)).2.1 (cells3 (w.heap.size + 1 + 1) (B := w.heap.size + 1 + 1 + 1) (by first | exact (Below.refl _ _).drew | exact Below.refl _ _) (by simp) (by simp)).2.2.1
        (hc.fr (Fr.of_below (M := noTypes) (B := w.heap.size) (by repeat (first | exact Below.refl _ _ | refine Below.drew ?_ | refine Below.alloc ?_ (by simp <;> omega) _)) (by simp <;> omega)) id) hl ?_
       intro la' lc' w2 hT2 hb2
       have hbF : Below (w.heap.size + 1 + 1) ((w.alloc (Obj.cells #[Value.bool true, Value.bool false, Value.slice ca cb.length cc] 108)).alloc (Obj.cells #[Value.slice sa f.sure.length sc, Value.slice ca cb.length cc, Value.bool f.isSure, Value.bool true, Value.slice la f.loose.length lc] 106)) w2 :=
        Below.trans (by first | exact ((Below.refl _ _).alloc (by simp) _).drew | exact ((Below.refl _ _).drew).alloc (by simp) _) (hb2.mono (by simp))
       obtain ⟨c0, c1, c2, c3, c4, c5⟩ := box5 (w.heap.size + 1) hbF (by simp) (by simp)))
  all_goals (
    have hb02 : Below w.heap.size w w2 := hb1.trans (((Below.refl _ _).alloc (by simp) _).trans (hbF.mono (by omega)))
    have hb12 : Below (w.heap.size + 1) (w.alloc (Obj.cells #[Value.bool true, Value.bool false, Value.slice ca cb.length cc] 108)) w2 := ((Below.refl _ _).alloc (by simp) _).trans (hbF.mono (by omega))
    obtain ⟨w4, hrun2, hD4, hf4⟩ := put_end k (chgF f ⟨true, false, cb⟩) h hb02 (q := w.heap.size + 1) (by omega) (blk_new _ hbF (by simp) (by simp)) hkm hn sa ca la' sc cc lc'
      (t1.fr (Fr.of_below (M := noTypes) hb12 (by simp)) id) (hc.fr (Fr.of_below (M := noTypes) hb02 (Nat.le_refl _)) id) hT2
    have hcd := (h.below ((hb02.setCell (p := ⟨w.heap.size + 1, 4, none⟩) (by simp) (.slice la' (f.loose ++ [(⟨true, false, cb⟩ : Chg)]).length lc')).drew) (Nat.le_refl _)).cell
    unfold chgF at hrun2 hD4
    simp only [if_true, Bool.not_false, Bool.false_eq_true, if_false, List.length_append, List.length_cons, List.length_nil, Nat.zero_add] at hrun2 hcd
    go_wp2
    go_must (go_region)
    go_end0
    exact ⟨rfl, hD4, hf4⟩)
end Go.Proofs.YtpcipfnahknngaaGreatDoor

/- Contract of disk.put that appends. No statement of the seat. -/
namespace Go.Proofs.YtpcipfnahknngaaGreatDoor
open Go.RowKit Go.Maps

/-- a box: a block of cells of type t, none frozen -/
def Box (w : World) (g : Nat) (t : TypeId) (xs : Array Value) : Prop := w.heap[g]? = some (Obj.cells xs t (0, 0))
theorem Box.cell {w : World} {g : Nat} {t : TypeId} {xs : Array Value} (h : Box w g t xs) (j : Nat) {u : Value} (hu : xs[j]? = some u) : w.cell? ⟨g, j, none⟩ = some u := by
  rw [cell_of_row w g j xs t (0, 0) h, hu]
theorem Box.froz {w : World} {g : Nat} {t : TypeId} {xs : Array Value} (h : Box w g t xs) (j : Nat) : w.frozen? ⟨g, j, none⟩ = false := by
  unfold Box at h
  simp [World.frozen?, h]
theorem Box.set {w : World} {g : Nat} {t : TypeId} {xs : Array Value} (h : Box w g t xs) (j : Nat) (u : Value) : Box (w.setCell ⟨g, j, none⟩ u) g t (xs.setIfInBounds j u) := heap_setCell_same w g j xs t u h
theorem Box.other {w : World} {g : Nat} {t : TypeId} {xs : Array Value} (h : Box w g t xs) (a : Addr) (u : Value) (hne : g ≠ a.block) : Box (w.setCell a u) g t xs := (Below.heap_setCell _ _ _ _ hne).trans h
theorem Box.below {w w' : World} {g : Nat} {t : TypeId} {xs : Array Value} (h : Box w g t xs) {B : Nat} (hb : Below B w w') (hg : g < B) : Box w' g t xs := (hb.block g hg).trans h
theorem Box.new (w : World) (g : Nat) (t : TypeId) (xs : Array Value) (hg : g = w.heap.size) : Box (w.alloc (.cells xs t)) g t xs := by
  subst hg
  exact heap_alloc_new w _
theorem Box.lt {w : World} {g : Nat} {t : TypeId} {xs : Array Value} (h : Box w g t xs) : g < w.heap.size := lt_of_get h

theorem Bts.two' (g : Nat) (w : World) (u v : Value) (l m : List UInt8) (hg : g = w.heap.size) (hu : Bt w u l) (hv : Bt w v m) :
    Bts (w.alloc (.cells #[u, v] 23)) (.slice (some ⟨g, 0, none⟩) 2 2) [l, m] := by
  subst hg
  exact Bts.two w u v l m hu hv

set_option maxRecDepth 100000 in
set_option maxHeartbeats 3200000 in
theorem put74_app (d mb : Nat) (D : List (List UInt8 × Fil)) (k : List UInt8) (ca : Option Addr) (cc : Nat) (cb : List UInt8) (w : World) (h : Dp w d mb D) (hc : BtT w (.slice ca cb.length cc) cb)
    (hk : k.length ≤ 64) (hn : D.length < maxLen) (hl : ((getK k D).getD noFil).loose.length < 1000000000000) (hl2 : ((getK k D).getD noFil).now.length + cb.length ≤ 140737488351232) :
    Calls Tryz.prog 74 #[.pointer (some ⟨d, 0, none⟩), .string (tx k), .agg #[.bool false, .bool false, .slice ca cb.length cc]] w fun e w' =>
      e = .returned (.tuple #[]) ∧ Dp w' d mb (putK k (chgF ((getK k D).getD noFil) ⟨false, false, cb⟩) D) ∧ Fm mb w w' := by
  have hkm : k.length ≤ maxLen := by unfold maxLen; omega
  obtain ⟨f, hf0⟩ : ∃ f, f = (getK k D).getD noFil := ⟨_, rfl⟩
  have hf := Lib.hid hf0
  have hb1 : Below w.heap.size w (w.alloc (.cells #[.bool false, .bool false, .slice ca cb.length cc] 108)) := (Below.refl _ _).alloc (Nat.le_refl _) _
  have h1 := h.below hb1 (Nat.le_refl _)
  obtain ⟨sa, sc, na, nc, la, lc, hrun, _, hT⟩ := look_run _ mb D h1.2 k hkm
  rw [← hf0] at hrun hT hl hl2 ⊢
  clear hf0
  have hcell := h1.cell
  obtain ⟨hlo1, hlo2⟩ := hT.loose_cap
  obtain ⟨sa', sc', na', nc', la0, lc0, hv, t1, t2, t3⟩ := hT
  cases hv
  have hflat : [f.now, cb].flatten = f.now ++ cb := by simp
  go_enter Tryz.func74, Tryz.ntmps74
  go_wp2_with (fail)
  refine (concat69 _ [f.now, cb] _ (Bts.two' _ _ _ _ _ _ ?_ ?_ ?_) ?_).mono ?_
  · simp
  · exact t2.1.below (B := w.heap.size + 1) ((Below.refl _ _).alloc (by simp) _) (by simp)
  · exact hc.1.below (B := w.heap.size) (((Below.refl _ _).alloc (by simp) _).alloc (by simp) _) (by simp)
  · rw [hflat]; simpa using hl2
  rw [hflat]
  rintro e w1 ⟨v1, rfl, hown, hbw⟩
  obtain ⟨va, vc, rfl⟩ := own_shape hown
  have hbF := Below.trans (((Below.refl (w.heap.size + 1 + 1) ((w.alloc (Obj.cells #[Value.bool false, Value.bool false, Value.slice ca cb.length cc] 108)).alloc (Obj.cells #[Value.slice sa f.sure.length sc, Value.slice na f.now.length nc, Value.bool f.isSure, Value.bool f.isNow, Value.slice la f.loose.length lc] 106))).alloc (by simp) _)) (hbw.mono (by simp))
  have bF : Box w1 (w.heap.size + 1) 106 #[Value.slice sa f.sure.length sc, Value.slice na f.now.length nc, Value.bool f.isSure, Value.bool f.isNow, Value.slice la f.loose.length lc] := (Box.new _ _ _ _ (by simp)).below hbF (by omega)
  have hbC : Below (w.heap.size + 1) (w.alloc (Obj.cells #[Value.bool false, Value.bool false, Value.slice ca cb.length cc] 108)) w1 := ((Below.refl _ _).alloc (by simp) _).trans (hbF.mono (by omega))
  have c1 := bF.cell 1 rfl
  have c3 := bF.cell 3 rfl
  have c5 := bF.froz
  go_wp2
  obtain ⟨W, hW⟩ : ∃ W, W = (w1.setCell { block := w.heap.size + 1, off := 1 } (Value.slice va (f.now ++ cb).length vc)).setCell { block := w.heap.size + 1, off := 3 } (Value.bool true) := ⟨_, rfl⟩
  have hbW : Below (w.heap.size + 1) (w.alloc (Obj.cells #[Value.bool false, Value.bool false, Value.slice ca cb.length cc] 108)) W := by
    rw [hW]
    exact (hbC.setCell (p := ⟨w.heap.size + 1, 1, none⟩) (Nat.le_refl _) _).setCell (p := ⟨w.heap.size + 1, 3, none⟩) (Nat.le_refl _) _
  have hb0W : Below w.heap.size w W := hb1.trans (hbW.mono (by omega))
  have bW : Box W (w.heap.size + 1) 106 #[Value.slice sa f.sure.length sc, Value.slice va (f.now ++ cb).length vc, Value.bool f.isSure, Value.bool true, Value.slice la f.loose.length lc] := by
    rw [hW]; exact (bF.set 1 _).set 3 _
  have hfW : Fr (fun e => e = 106) w1 W := by
    have hset : ∀ (x : World) (xs : Array Value) (_ : Box x (w.heap.size + 1) 106 xs) (j : Nat) (u : Value), Fr (fun e => e = 106) x (x.setCell ⟨w.heap.size + 1, j, none⟩ u) := fun x xs hx j u =>
      Fr.setCell (Fr.refl _ x) _ (fun cur e fz hh => by
        have h2 : x.heap[w.heap.size + 1]? = some (Obj.cells cur e fz) := hh
        unfold Box at hx
        rw [hx] at h2
        cases h2; rfl)
    rw [hW]
    exact (hset _ _ bF 1 _).trans (hset _ _ (bF.set 1 _) 3 _)
  have k0 := bW.cell 0 rfl
  have k1 := bW.cell 1 rfl
  have k2 := bW.cell 2 rfl
  have k3 := bW.cell 3 rfl
  have k4 := bW.cell 4 rfl
  have k5 := bW.froz
  have bC : Box W w.heap.size 108 #[Value.bool false, Value.bool false, Value.slice ca cb.length cc] := (Box.new w _ _ _ rfl).below hbW (by omega)
  have d0 := bC.cell 0 rfl
  have d1 := bC.cell 1 rfl
  have d2 := bC.cell 2 rfl
  have d3 := bC.froz
  have hsz := bW.lt
  have hnow : BtT W (.slice va (f.now ++ cb).length vc) (f.now ++ cb) := (BtT.of_own hown).fr hfW (by decide)
  simp only [List.length_append] at k1 hW
  rw [← hW]
  clear hW c1 c3 c5 hfW bF hown
  go_must (go_region_law (first
    | (go_simp; go_at_call 98; (with_reducible refine (clip98 _ _ _ _ (by assumption) (by assumption)).mono ?_); rintro e w1 ⟨rfl, rfl⟩)
    | (refine step_ch rfl (.tmp 35) (.tmp 37) rfl la lc f.loose ⟨false, false, cb⟩ (.slice ca cb.length cc) W.heap.size (by simp [Act.eval]) (by simp [Act.eval])
        (t3.fr (Fr.of_below (M := noTypes) (B := w.heap.size + 1) (hbW.trans (by repeat (first | exact Below.refl _ _ | refine Below.drew ?_ | refine Below.alloc ?_ (by first | omega | (simp; done) | (simp; omega)) _))) (by first | omega | (simp; done) | (simp; omega))) id id)
        (cells3 W.heap.size (B := W.heap.size + 1) (by first | exact (Below.refl _ _).drew | exact Below.refl _ _) (by simp) (by simp)).1
        (cells3 W.heap.size (B := W.heap.size + 1) (by first | exact (Below.refl _ _).drew | exact Below.refl _ _) (by simp) (by simp)).2.1
        (cells3 W.heap.size (B := W.heap.size + 1) (by first | exact (Below.refl _ _).drew | exact Below.refl _ _) (by simp) (by simp)).2.2.1
        (hc.fr (Fr.of_below (M := noTypes) (B := w.heap.size) (hb0W.trans (by repeat (first | exact Below.refl _ _ | refine Below.drew ?_ | refine Below.alloc ?_ (by first | omega | (simp; done) | (simp; omega)) _))) (by first | omega | (simp; done) | (simp; omega))) id) hl ?_
       intro la' lc' w2 hT2 hb2
       have hbG : Below W.heap.size W w2 :=
        Below.trans (by first | exact ((Below.refl _ _).alloc (by simp) _).drew | exact ((Below.refl _ _).drew).alloc (by simp) _) (hb2.mono (by simp))
       have m0 := (bW.below hbG hsz).cell 0 rfl
       have m1 := (bW.below hbG hsz).cell 1 rfl
       have m2 := (bW.below hbG hsz).cell 2 rfl
       have m3 := (bW.below hbG hsz).cell 3 rfl
       have m4 := (bW.below hbG hsz).cell 4 rfl
       have m5 := (bW.below hbG hsz).froz
       simp only [List.length_append] at m1)))
  all_goals (
    have hb02 : Below w.heap.size w w2 := hb0W.trans (hbG.mono (by omega))
    have hb12 := hbW.trans (hbG.mono (by omega))
    obtain ⟨w4, hrun2, hD4, hf4⟩ := put_end k (chgF f ⟨false, false, cb⟩) h hb02 (q := w.heap.size + 1) (by omega) ⟨_, _, bW.below hbG hsz⟩ hkm hn sa va la' sc vc lc'
      (t1.fr (Fr.of_below (M := noTypes) hb12 (by simp)) id) (hnow.fr (Fr.of_below (M := noTypes) hbG (Nat.le_refl _)) id) hT2
    have hcd := (h.below ((hb02.setCell (p := ⟨w.heap.size + 1, 4, none⟩) (by simp) (.slice la' (f.loose ++ [(⟨false, false, cb⟩ : Chg)]).length lc')).drew) (Nat.le_refl _)).cell
    unfold chgF at hrun2 hD4
    simp only [if_false, Bool.false_eq_true, Bool.not_false, List.length_append, List.length_cons, List.length_nil, Nat.zero_add] at hrun2 hcd
    go_wp2
    go_must (go_region)
    go_end0
    exact ⟨rfl, hD4, hf4⟩)
end Go.Proofs.YtpcipfnahknngaaGreatDoor

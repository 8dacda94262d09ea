/- Contract of wal.Entries. No statement of the seat. -/
import Derived.Test.YtpcipfnahknngaaGreatDoorWl
namespace Go.Proofs.YtpcipfnahknngaaGreatDoor
open Go.RowKit Go.Maps

/-- v is a row of the entries l, in a block from B on -/
def EsO (B : Nat) (w : World) (v : Value) (l : List Ent) : Prop :=
  ∃ us : List Value, us.length = l.length ∧ w.ownsRow B 25 3 v l.length (enCells l us) ∧ ∀ k (h : k < l.length), ∃ u, us[k]? = some u ∧ BtT w u (l[k]).b
theorem enCells_one (l : List Ent) (us : List Value) (h : us.length = l.length) (hu : ∀ u ∈ us, u.oneCell' = true) : ∀ x ∈ enCells l us, x.oneCell' = true := by
  induction l generalizing us with
  | nil => cases us <;> simp [enCells]
  | cons c l ih =>
    cases us with
    | nil => simp at h
    | cons u us =>
      intro x hx
      simp only [enCells, List.mem_cons] at hx
      rcases hx with rfl | rfl | rfl | hx
      · rfl
      · rfl
      · exact hu _ List.mem_cons_self
      · exact ih us (by simpa using h) (fun y hy => hu y (List.mem_cons_of_mem _ hy)) x hx
theorem enCells_set (l : List Ent) (us : List Value) (h : us.length = l.length) (k : Nat) (v : Value) : (enCells l us).set (k * 3 + 2) v = enCells l (us.set k v) := by
  induction l generalizing us k with
  | nil => cases us <;> rfl
  | cons c l ih =>
    cases us with
    | nil => simp at h
    | cons u us =>
      cases k with
      | zero => rfl
      | succ k =>
        have := ih us (by simpa using h) k
        have e : (k + 1) * 3 + 2 = k * 3 + 2 + 3 := by omega
        rw [e]
        simp only [enCells, List.set_cons_succ, this]
theorem EsO.es {B : Nat} {w : World} {v : Value} {l : List Ent} (h : EsO B w v l) : Es w v l := by
  obtain ⟨us, h1, h2, h3⟩ := h
  refine ⟨us, h1, Sl.of_own h2 (enCells_one l us h1 fun u hu => ?_), Ty.of_own h2, h3⟩
  obtain ⟨k, hk, rfl⟩ := List.getElem_of_mem hu
  obtain ⟨u2, e, hb⟩ := h3 k (by omega)
  rw [List.getElem?_eq_getElem hk] at e
  cases e
  exact hb.1.slice

set_option maxRecDepth 100000 in
set_option maxHeartbeats 3200000 in
theorem entries15 (q d : Nat) (sv : Value) (l : List Ent) (la : Option Addr) (lc : Nat) (w : World) (hbox : Box w q 37 #[.pointer (some ⟨d, 0, none⟩), sv, .slice la l.length lc]) (hes : Es w (.slice la l.length lc) l)
    (hl : l.length < 1000000000) (hb : ∀ e ∈ l, e.b.length ≤ 140737488351232) :
    Calls Tryz.prog 15 #[.pointer (some ⟨q, 0, none⟩)] w fun e w' => ∃ ao cap, e = .returned (.slice ao l.length cap) ∧ EsO w.heap.size w' (.slice ao l.length cap) l ∧ Below w.heap.size w w' := by
  have c0 := hbox.cell 0 rfl
  have c2 := hbox.cell 2 rfl
  have hth := there48 q d w c0
  obtain ⟨us, u1, hsl, hT, hu⟩ := hes
  have HU := Lib.hid hu
  have HB := Lib.hid hb
  have hcl := clone55 la l.length lc (enCells l us) w hsl hl
  have HC := Lib.hid hcl
  have HT := Lib.hid hth
  have U1 := Lib.hid u1
  clear hcl hsl hT hu hb hth u1 hbox c0
  go_enter Tryz.func15, Tryz.ntmps15
  go_wp2_with (first
    | (go_at_call 48; refine HT.out.mono ?_; rintro e w1 ⟨rfl, hw1⟩; have hw2 := hw1.symm; subst hw2)
    | (go_at_call 55; refine HC.out.mono ?_; rintro e w1 ⟨v1, rfl, own1, b1⟩; obtain ⟨a1, q1, rfl⟩ := own_shape own1))
  go_loopw [15] (fun i wr => ∃ k : Nat, k ≤ l.length ∧ i = .int .i64 k ∧ EsO w.heap.size wr (.slice a1 l.length q1) l ∧ Below w.heap.size w wr) (fun i _ => l.length - (intOf i).toNat)
  case atStart =>
    refine ⟨0, Nat.zero_le _, rfl, ⟨us, U1.out, own1, fun k hk => ?_⟩, b1⟩
    obtain ⟨u, e1, e2⟩ := HU.out k hk
    exact ⟨u, e1, e2.fr (Fr.of_below (M := noTypes) b1 (Nat.le_refl _)) id⟩
  case round =>
    obtain ⟨k, hk, rfl, hEO, hbel⟩ := hrel
    by_cases hlt : k < l.length
    · obtain ⟨us2, x1, x2, x3⟩ := hEO
      obtain ⟨u, hu1, hu2⟩ := x3 k hlt
      obtain ⟨g, rfl⟩ : ∃ g, a1 = some ⟨g, 0, none⟩ := by
        rcases x2.2 with ⟨e, _⟩ | ⟨g, _, _, e, _⟩
        · simp only [Value.slice.injEq] at e; omega
        · cases e; exact ⟨g, rfl⟩
      have hg := (x2.lt g rfl).1
      have d2 := (x2.cellAt (k * 3 + 2) (by omega)).trans (enCells_at l us2 x1 k hlt u hu1).2.2
      obtain ⟨uo, un, uc, rfl⟩ : ∃ uo un uc, u = .slice uo un uc := by
        obtain ⟨⟨_, _, uo, uc, rfl, _⟩, _⟩ := hu2
        exact ⟨_, _, _, rfl⟩
      have hcl := clone56 _ (l[k]).b wr hu2.1 (HB.out _ (List.getElem_mem _))
      have HCL := Lib.hid hcl
      have X2 := Lib.hid x2
      have X3 := Lib.hid x3
      have HU1 := Lib.hid hu1
      have X1 := Lib.hid x1
      clear hcl x2 x3 hu1 x1 hu2
      have frz : ∀ W, Below wr.heap.size wr W → W.frozen? ⟨g, k * 3 + 2, none⟩ = false := fun W hW => (own_fr X2.out (Fr.of_below (M := noTypes) hW (Nat.le_refl _)) id).frozenAt _
      have cel : ∀ W, Below wr.heap.size wr W → W.cell? ⟨g, k * 3 + 2, none⟩ = some (.slice uo un uc) := fun W hW => by
        rw [hW.cell (p := ⟨g, k * 3 + 2, none⟩) (World.block_lt_of_cell? wr _ d2)]; exact d2
      have FZ := Lib.hid frz
      have CL := Lib.hid cel
      clear frz cel
      go_wp2_with (go_at_call 56; refine HCL.out.mono ?_; rintro e w3 ⟨v3, rfl, own3, b3⟩; obtain ⟨a3, q3, rfl⟩ := own_shape own3; have fz3 := FZ.out _ b3; have cl3 := CL.out _ b3)
      obtain ⟨W, hW⟩ : ∃ W, W = w3.setCell { block := g, off := k * 3 + 2 } (.slice a3 (l[k]).b.length q3) := ⟨_, rfl⟩
      rw [← hW]
      have f3 : Fr noTypes wr w3 := Fr.of_below b3 (Nat.le_refl _)
      have x4 := (own_fr X2.out f3 id).stored (k * 3 + 2) (.slice a3 (l[k]).b.length q3)
      rw [enCells_set l us2 X1.out, ← hW] at x4
      have f4 : Fr (fun e => e = 25) w3 W := Fr.grown (v := .slice (some ⟨g, 0, none⟩) l.length q1) x4.2 (Ty.of_own (own_fr X2.out f3 id)) rfl
      have hb4 : Below w.heap.size w W := by
        rw [hW]; exact (hbel.trans (b3.mono hbel.size)).setCell (p := ⟨g, k * 3 + 2, none⟩) hg _
      have HE : Hid (EsO w.heap.size W (.slice (some ⟨g, 0, none⟩) l.length q1) l) := Lib.hid (by
        refine ⟨us2.set k (.slice a3 (l[k]).b.length q3), by simp [X1.out], x4.1, fun j hj => ?_⟩
        by_cases hjk : j = k
        · subst hjk
          refine ⟨_, by rw [List.getElem?_set_self (by rw [X1.out]; exact hj)], (BtT.of_own own3).fr f4 (by decide)⟩
        · obtain ⟨u, e1, e2⟩ := X3.out j hj
          refine ⟨u, by rw [List.getElem?_set_ne (by omega)]; exact e1, (e2.fr f3 id).fr f4 (by decide)⟩)
      clear hW x4 f3 f4 fz3 cl3
      go_roundw
      case rel => exact ⟨k + 1, by omega, by go_num, HE.out, hb4⟩
      case measure => simp [intOf]; omega
    · have hkl : k = l.length := by omega
      subst hkl
      go_wp2
      go_ret
      exact ⟨_, _, rfl, hEO, hbel⟩
end Go.Proofs.YtpcipfnahknngaaGreatDoor

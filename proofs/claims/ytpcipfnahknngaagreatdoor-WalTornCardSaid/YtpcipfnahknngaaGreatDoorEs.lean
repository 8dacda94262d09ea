/- Rows of entries. No statement of the seat. -/
import Derived.Test.YtpcipfnahknngaaGreatDoorNam
import Derived.Test.YtpcipfnahknngaaGreatDoorMaRef
import Derived.Test.YtpcipfnahknngaaGreatDoorMaNam
namespace Go.Proofs.YtpcipfnahknngaaGreatDoor
open Go.RowKit Go.Maps

def enCells : List Ent → List Value → List Value
  | e :: es, u :: us => .int .u64 e.i :: .int .u64 e.t :: u :: enCells es us
  | _, _ => []
/-- v is a row of the entries l -/
def Es (w : World) (v : Value) (l : List Ent) : Prop :=
  ∃ us : List Value, us.length = l.length ∧ Sl w 3 v l.length (enCells l us) ∧ Ty 25 w v ∧ ∀ k (h : k < l.length), ∃ u, us[k]? = some u ∧ BtT w u (l[k]).b
theorem Es.fr {M : TypeId → Prop} {w w' : World} {v : Value} {l : List Ent} (h : Es w v l) (hf : Fr M w w') (h5 : ¬ M 5) (h25 : ¬ M 25) : Es w' v l := by
  obtain ⟨us, h1, h2, h3, h4⟩ := h
  refine ⟨us, h1, Sl.fr h2 h3 hf h25, h3.fr hf h25, fun k hk => ?_⟩
  obtain ⟨u, a, b⟩ := h4 k hk
  exact ⟨u, a, b.fr hf h5⟩
theorem Es.nil (w : World) : Es w (.slice none 0 0) [] := ⟨[], rfl, Sl.nil w 3, fun g hg => (by cases hg), fun k hk => by simp at hk⟩
theorem enCells_len (l : List Ent) (us : List Value) (h : us.length = l.length) : (enCells l us).length = l.length * 3 := by
  induction l generalizing us with
  | nil => cases us <;> rfl
  | cons c l ih =>
    cases us with
    | nil => simp at h
    | cons u us =>
      have := ih us (by simpa using h)
      simp only [enCells, List.length_cons, this]
      omega
theorem enCells_app (l : List Ent) (us : List Value) (h : us.length = l.length) (m : List Ent) (vs : List Value) : enCells (l ++ m) (us ++ vs) = enCells l us ++ enCells m vs := by
  induction l generalizing us with
  | nil => cases us with
    | nil => rfl
    | cons _ _ => simp at h
  | cons d l ih =>
    cases us with
    | nil => simp at h
    | cons u us =>
      have := ih us (by simpa using h)
      simp only [List.cons_append, enCells, this]
/-- the cells of the k-th -/
theorem enCells_at (l : List Ent) (us : List Value) (h : us.length = l.length) (k : Nat) (hk : k < l.length) (u : Value) (hu : us[k]? = some u) :
    (enCells l us)[k * 3]? = some (.int .u64 (l[k]).i) ∧ (enCells l us)[k * 3 + 1]? = some (.int .u64 (l[k]).t) ∧ (enCells l us)[k * 3 + 2]? = some u := by
  induction l generalizing us k with
  | nil => simp at hk
  | cons d l ih =>
    cases us with
    | nil => simp at h
    | cons x us =>
      cases k with
      | zero =>
        simp at hu
        subst hu
        exact ⟨rfl, rfl, rfl⟩
      | succ k =>
        have := ih us (by simpa using h) k (by simpa using hk) (by simpa using hu)
        have e : (k + 1) * 3 = k * 3 + 3 := by omega
        rw [e]
        simpa [enCells] using this
set_option maxRecDepth 100000 in
set_option maxHeartbeats 800000 in
theorem clip110 (ao : Option Addr) (n cap : Nat) (w : World) (h1 : n ≤ cap) (h2 : cap ≤ maxLen) : Calls Tryz.prog 110 #[.slice ao n cap] w fun e w' => e = .returned (.slice ao n n) ∧ w' = w := by
  have _h2 := h2
  unfold maxLen at _h2
  by_cases h0 : n = 0
  · subst h0
    go_enter Tryz.func110, Tryz.ntmps110
    go_wp2
    go_ret
    exact ⟨rfl, rfl⟩
  · have h0' : 0 < n := by omega
    go_enter Tryz.func110, Tryz.ntmps110
    go_wp2
    go_ret
    exact ⟨rfl, rfl⟩
set_option maxRecDepth 100000 in
set_option maxHeartbeats 800000 in
/-- x.Index >= e.Index: e in the box g -/
theorem geq109 (g : Nat) (i : Nat) (x : Ent) (u : Value) (w : World) (hg : w.cell? ⟨g, 0, none⟩ = some (.int .u64 i)) (hu : ∃ ao n cap, u = .slice ao n cap) :
    Calls Tryz.prog 109 #[.agg #[.int .u64 x.i, .int .u64 x.t, u], .pointer (some ⟨g, 0, none⟩)] w fun e w' => e = .returned (.bool (decide (i ≤ x.i))) ∧ Below w.heap.size w w' := by
  obtain ⟨ao, n, cap, rfl⟩ := hu
  have hg2 : (w.alloc (.cells #[.int .u64 x.i, .int .u64 x.t, .slice ao n cap] 25)).cell? ⟨g, 0, none⟩ = some (.int .u64 i) := by
    rw [((Below.refl w.heap.size w).alloc (Nat.le_refl _) _).cell (p := ⟨g, 0, none⟩) (World.block_lt_of_cell? w _ hg)]; exact hg
  go_enter Tryz.func109, Tryz.ntmps109
  go_wp2
  go_ret
  exact ⟨by simp, (Below.refl _ _).alloc (Nat.le_refl _) _⟩
end Go.Proofs.YtpcipfnahknngaaGreatDoor

/- WalTorn: what its walk needs. No statement of the seat. -/
import Derived.Test.YtpcipfnahknngaaGreatDoorMaLaw
import Derived.Test.YtpcipfnahknngaaGreatDoorNum
namespace Go.Proofs.YtpcipfnahknngaaGreatDoor
open Go.RowKit Go.Maps

/-- the entry in place j, of the bodies ls -/
def entT (ls : List (List UInt8)) (j : Nat) : Ent := ⟨j + 1, j / 3, ls.getD j []⟩
def ents (ls : List (List UInt8)) (k : Nat) : List Ent := (List.range k).map (entT ls)
theorem ents_succ (ls : List (List UInt8)) (k : Nat) : ents ls (k + 1) = ents ls k ++ [entT ls k] := by simp [ents, List.range_succ]
@[simp] theorem ents_len (ls : List (List UInt8)) (k : Nat) : (ents ls k).length = k := by simp [ents]
theorem ents_get (ls : List (List UInt8)) (k j : Nat) (h : j < (ents ls k).length) : (ents ls k)[j] = entT ls j := by simp [ents]
theorem ents_seqn (ls : List (List UInt8)) (k : Nat) (h : k ≤ 40) (hb : ∀ j, j < k → (ls.getD j []).length ≤ 60) : Seqn (ents ls k) := by
  refine ⟨by simp; omega, fun j hj => ?_⟩
  rw [ents_get]
  rw [ents_len] at hj
  have := hb j hj
  exact ⟨rfl, ⟨by show j + 1 < _; omega, by show j / 3 < _; omega, by show (ls.getD j []).length ≤ _; omega⟩, by show j + 1 ≠ 0; omega, this⟩

theorem numAt_seg (n0 mb n : Nat) (w : World) (h1 : 1 ≤ n) (h2 : n < 10) (htab : PowTab w) (hev : ErrV w) (hn2 : 2 < n0) : NumAt n0 mb w nmT (segName n) := by
  refine ⟨by rw [nmT_seg n h2]; omega, fun w' hl => ?_⟩
  rw [nmT_seg n h2]
  exact number45_seg n h1 (by omega) w' (htab.lo hl hn2) (hev.lo hl hn2)
theorem numAt_all (n0 mb : Nat) (w : World) (ks : List (List UInt8)) (h : ∀ k ∈ ks, ∃ n, 1 ≤ n ∧ n < 10 ∧ k = segName n) (htab : PowTab w) (hev : ErrV w) (hn2 : 2 < n0) : ∀ k ∈ ks, NumAt n0 mb w nmT k := by
  intro k hk
  obtain ⟨n, h1, h2, rfl⟩ := h k hk
  exact numAt_seg n0 mb n w h1 h2 htab hev hn2
theorem ErrV.below {w w' : World} (h : ErrV w) {B : Nat} (hb : Below B w w') (hB : w.heap.size ≤ B) : ErrV w' := by
  obtain ⟨⟨t, p, h1⟩, t2, p2, h2⟩ := h
  refine ⟨⟨t, p, ?_⟩, t2, p2, ?_⟩
  · rw [hb.cell (p := ⟨0, 0, none⟩) (Nat.lt_of_lt_of_le (World.block_lt_of_cell? w _ h1) hB)]; exact h1
  · rw [hb.cell (p := ⟨1, 0, none⟩) (Nat.lt_of_lt_of_le (World.block_lt_of_cell? w _ h2) hB)]; exact h2
/-- behind calls of a log whose map is new -/
theorem blw_walk {w W W' : World} {M : TypeId → Prop} {mb : Nat} (h : Below w.heap.size w W) (hf : Fr M W W') (hl : Lo w.heap.size mb W W') (hm : w.heap.size ≤ mb) : Below w.heap.size w W' :=
  h.trans ⟨hf.os, hf.tape, hf.output, hf.size, fun g hg => hl.all hm g hg (Nat.lt_of_lt_of_le hg h.size)⟩
theorem blw_disk {w W W' : World} {mb : Nat} (h : Below w.heap.size w W) (hf : Fm mb W W') (hm : w.heap.size ≤ mb) : Below w.heap.size w W' := blw_walk h hf.fr (hf.lo trivial) hm

/-- the k-th of a row of bodies -/
theorem Bts.at_ {w : World} {la : Option Addr} {lc : Nat} {ls : List (List UInt8)} (h : Bts w (.slice la ls.length lc) ls) (k : Nat) (hk : k < ls.length) :
    ∃ g off uo uc, la = some ⟨g, off, none⟩ ∧ w.cell? ⟨g, off + k, none⟩ = some (.slice uo (ls.getD k []).length uc) ∧
      (∀ W, Below w.heap.size w W → W.cell? ⟨g, off + k, none⟩ = some (.slice uo (ls.getD k []).length uc) ∧ BtX w.heap.size W (.slice uo (ls.getD k []).length uc) (ls.getD k [])) ∧ (ls.getD k []).length ≤ uc ∧ uc ≤ maxLen := by
  obtain ⟨vs, ⟨y1, y2, ao, cap, hv, y3, y4, y7, y5⟩, hu⟩ := h
  cases hv
  obtain ⟨g, off, rfl, hc⟩ := y5.resolve_left (by omega)
  obtain ⟨u, hu1, hu2⟩ := hu k hk
  have hgd : ls.getD k [] = ls[k] := by simp [List.getD, hk]
  rw [hgd]
  have hc1 := hc k u hu1
  have hu3 := hu2
  obtain ⟨_, _, uo, uc, rfl, z3, z4, z6, z5⟩ := hu3
  refine ⟨g, off, uo, uc, rfl, hc1, fun W hb => ⟨?_, hu2.below hb (Nat.le_refl _), fun h0 g' hg' => Or.inr ?_⟩, z3, z4⟩
  · rw [hb.cell (World.block_lt_of_cell? w _ hc1)]; exact hc1
  · obtain ⟨g2, off2, e, hcc⟩ := z5.resolve_left h0
    have h1 := hcc 0 _ (bv_get _ 0 (by omega))
    have h2 := World.block_lt_of_cell? w _ h1
    rw [e] at hg'
    cases hg'
    exact h2
/-- a row of one entry -/
theorem EsX.one {n g : Nat} {w : World} {x : Ent} {u : Value} (hb : Box w g 25 #[.int .u64 x.i, .int .u64 x.t, u]) (hu : BtX n w u x.b) : EsX n w (.slice (some ⟨g, 0, none⟩) [x].length 1) [x] := by
  refine ⟨[u], rfl, ⟨rfl, ?_, some ⟨g, 0, none⟩, 1, rfl, Nat.le_refl _, by unfold maxLen; omega, (fun h => by cases h), Or.inr ⟨g, 0, rfl, fun j v hj => ?_⟩⟩, fun _ g' hg' => Or.inl ⟨_, _, by cases hg'; exact hb⟩, fun k hk => ?_⟩
  · intro v hv
    simp only [enCells, List.mem_cons, List.not_mem_nil, or_false] at hv
    rcases hv with rfl | rfl | rfl
    · rfl
    · rfl
    · obtain ⟨_, _, _, _, rfl, _⟩ := hu.1
      rfl
  · rw [Nat.zero_add]
    refine hb.cell j ?_
    simpa [enCells] using hj
  · have h0 : k = 0 := by simp at hk; omega
    subst h0
    exact ⟨u, rfl, hu⟩
/-- the k-th of a row of entries of one's own -/
theorem EsO.at_ {B : Nat} {w : World} {ao : Option Addr} {cap : Nat} {l : List Ent} (h : EsO B w (.slice ao l.length cap) l) (k : Nat) (hk : k < l.length) :
    ∃ g uo uc, ao = some ⟨g, 0, none⟩ ∧ w.cell? ⟨g, k * 3, none⟩ = some (.int .u64 (l[k]).i) ∧ w.cell? ⟨g, k * 3 + 1, none⟩ = some (.int .u64 (l[k]).t) ∧ w.cell? ⟨g, k * 3 + 2, none⟩ = some (.slice uo (l[k]).b.length uc) ∧ BtT w (.slice uo (l[k]).b.length uc) (l[k]).b := by
  obtain ⟨us, h1, h2, h3⟩ := h
  obtain ⟨u, hu1, hu2⟩ := h3 k hk
  obtain ⟨e0, e1, e2⟩ := enCells_at l us h1 k hk u hu1
  have hle := enCells_len l us h1
  have hc : ∀ j x, (enCells l us)[j]? = some x → ∃ g, ao = some ⟨g, 0, none⟩ ∧ w.cell? ⟨g, j, none⟩ = some x := by
    intro j x hj
    have hjl := (List.getElem?_eq_some_iff.1 hj).1
    obtain ⟨g, cap', cur, hv, _⟩ := (h2.2).resolve_left (fun ⟨_, h0⟩ => by omega)
    cases hv
    exact ⟨g, rfl, (h2.cellAt j (by omega)).trans hj⟩
  obtain ⟨uo, uc, rfl⟩ : ∃ uo uc, u = .slice uo (l[k]).b.length uc := by
    obtain ⟨⟨_, _, uo, uc, rfl, _⟩, _⟩ := hu2
    exact ⟨_, _, rfl⟩
  obtain ⟨g, rfl, c0⟩ := hc _ _ e0
  obtain ⟨g1, hg1, c1⟩ := hc _ _ e1
  obtain ⟨g2, hg2, c2⟩ := hc _ _ e2
  cases hg1
  cases hg2
  exact ⟨g, uo, uc, rfl, c0, c1, c2, hu2⟩
end Go.Proofs.YtpcipfnahknngaaGreatDoor

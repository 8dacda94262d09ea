/- Contract of disk.Crash. No statement of the seat. -/
import Derived.Test.YtpcipfnahknngaaGreatDoorSyn13
import Derived.WalkLawsBesides
namespace Go.Proofs.YtpcipfnahknngaaGreatDoor
open Go.RowKit Go.Maps

/-- a change that may stay: the bytes, is there a file, how many parts may stay yet -/
def tornStep (s : List UInt8 × Bool × Nat) (c : Chg) : List UInt8 × Bool × Nat :=
  if s.2.2 = 0 then s else if c.whole = true then (c.b, !c.gone, s.2.2 - 1) else (s.1 ++ c.b.take (min s.2.2 c.b.length), s.2.1, s.2.2 - min s.2.2 c.b.length)
def tornS (cs : List Chg) (now : List UInt8) (is : Bool) (n : Nat) : List UInt8 × Bool × Nat := cs.foldl tornStep (now, is, n)
theorem tornS_take (cs : List Chg) (now : List UInt8) (is : Bool) (n j : Nat) (h : j < cs.length) : tornS (cs.take (j + 1)) now is n = tornStep (tornS (cs.take j) now is n) cs[j] := by
  unfold tornS
  rw [List.take_succ_eq_append_getElem h, List.foldl_append]
  rfl
def crash1 (k : List UInt8) (n : Nat) (D : Dsk) : Dsk :=
  settled k ⟨[], (tornS ((getK k D).getD noFil).loose ((getK k D).getD noFil).sure ((getK k D).getD noFil).isSure n).1, false, (tornS ((getK k D).getD noFil).loose ((getK k D).getD noFil).sure ((getK k D).getD noFil).isSure n).2.1, []⟩ D
def stayN (st : List Int) (i : Nat) : Nat := ((st[i]?).getD 0).toNat
def crashL (st : List Int) : Nat → List (List UInt8) → Dsk → Dsk
  | _, [], D => D
  | i, k :: ks, D => crashL st (i + 1) ks (crash1 k (stayN st i) D)
def crashT (st : List Int) (D : Dsk) : Dsk := crashL st 0 (looseS D) D

/-- whatever stays is no longer than a file may be -/
def Tn (D : Dsk) : Prop := ∀ p ∈ D, ∀ j n, (tornS (p.2.loose.take j) p.2.sure p.2.isSure n).1.length ≤ 1048576
theorem tornS_nil (now : List UInt8) (is : Bool) (n j : Nat) : tornS (([] : List Chg).take j) now is n = (now, is, n) := by simp [tornS]
theorem Tn.get {D : Dsk} (h : Tn D) (k : List UInt8) (j n : Nat) : (tornS (((getK k D).getD noFil).loose.take j) ((getK k D).getD noFil).sure ((getK k D).getD noFil).isSure n).1.length ≤ 1048576 := by
  cases hg : getK k D with
  | none =>
    show (tornS (([] : List Chg).take j) [] false n).1.length ≤ 1048576
    rw [tornS_nil]
    exact Nat.zero_le _
  | some f => exact h _ (getK_mem hg) j n
theorem Tn.settled {D : Dsk} (h : Tn D) (k : List UInt8) (f : Fil) (hf : f.now.length ≤ 1048576) : Tn (settled k f D) := by
  unfold YtpcipfnahknngaaGreatDoor.settled
  split
  · intro p hp j n
    rcases mem_putK hp with rfl | hp
    · show (tornS (([] : List Chg).take j) f.now true n).1.length ≤ 1048576
      rw [tornS_nil]
      exact hf
    · exact h p hp j n
  · exact fun p hp j n => h p (mem_delK hp) j n
theorem Tn.crash1 {D : Dsk} (h : Tn D) (k : List UInt8) (n : Nat) : Tn (crash1 k n D) := by
  refine h.settled k _ ?_
  have := h.get k ((getK k D).getD noFil).loose.length n
  rw [List.take_length] at this
  exact this
theorem Dg.crash1 {N : Nat} {D : Dsk} (h : Dg N D) (ht : Tn D) (k : List UInt8) (n : Nat) (hk : k.length ≤ 64) : Dg (N + 1) (crash1 k n D) := by
  unfold YtpcipfnahknngaaGreatDoor.crash1 YtpcipfnahknngaaGreatDoor.settled
  split
  · refine h.put k _ hk (Nat.zero_le _) ?_
    have := ht.get k ((getK k D).getD noFil).loose.length n
    rw [List.take_length] at this
    exact this
  · exact (h.del k).mono (by omega)

def iv (l : List Int) : List Value := l.map fun z => .int .i64 z
@[simp] theorem iv_length (l : List Int) : (iv l).length = l.length := by simp [iv]
theorem iv_get (l : List Int) (j : Nat) (h : j < l.length) : (iv l)[j]? = some (.int .i64 l[j]) := by simp [iv, h]
theorem loose_len64 {N : Nat} {D : Dsk} (h : Dg N D) : ∀ k ∈ looseS D, k.length ≤ 64 := fun k hk => h.keysS k (by
  unfold looseS namesS at hk
  exact (List.mem_filter.1 hk).1)
/-- the cells of the k-th change -/
theorem ChT.at_ {w : World} {la : Option Addr} {lc : Nat} {cs : List Chg} (h : ChT w (.slice la cs.length lc) cs) (k : Nat) (hk : k < cs.length) :
    ∃ g off ca cc, la = some ⟨g, off, none⟩ ∧ w.cell? ⟨g, off + k * 3, none⟩ = some (.bool (cs[k]).whole) ∧ w.cell? ⟨g, off + k * 3 + 1, none⟩ = some (.bool (cs[k]).gone) ∧ w.cell? ⟨g, off + k * 3 + 2, none⟩ = some (.slice ca (cs[k]).b.length cc) ∧ BtT w (.slice ca (cs[k]).b.length cc) (cs[k]).b := by
  obtain ⟨us, u1, ⟨y1, y2, ao, cap, hv, y3, y4, y7, y5⟩, hT, hu⟩ := h
  cases hv
  obtain ⟨g, off, rfl, hc⟩ := y5.resolve_left (by omega)
  obtain ⟨u, hu1, hu2⟩ := hu k hk
  have hcells : ∀ (cs : List Chg) (us : List Value) (k : Nat) (hk : k < cs.length), us.length = cs.length → us[k]? = some u → (chCells cs us)[k * 3]? = some (.bool (cs[k]).whole) ∧ (chCells cs us)[k * 3 + 1]? = some (.bool (cs[k]).gone) ∧ (chCells cs us)[k * 3 + 2]? = some u := by
    intro cs
    induction cs with
    | nil => intro us k hk; simp at hk
    | cons c cs ih =>
      intro us k hk hl hu
      cases us with
      | nil => simp at hl
      | cons x us =>
        cases k with
        | zero =>
          simp at hu
          subst hu
          exact ⟨rfl, rfl, rfl⟩
        | succ k =>
          have := ih us k (by simpa using hk) (by simpa using hl) (by simpa using hu)
          have e : (k + 1) * 3 = k * 3 + 3 := by omega
          rw [e]
          simpa [chCells] using this
  obtain ⟨e0, e1, e2⟩ := hcells cs us k hk u1 hu1
  have hu3 := hu2.1
  obtain ⟨_, _, ca, cc, hv, _⟩ := hu3
  subst hv
  exact ⟨g, off, ca, cc, rfl, hc _ _ e0, hc _ _ e1, hc _ _ e2, hu2⟩
end Go.Proofs.YtpcipfnahknngaaGreatDoor

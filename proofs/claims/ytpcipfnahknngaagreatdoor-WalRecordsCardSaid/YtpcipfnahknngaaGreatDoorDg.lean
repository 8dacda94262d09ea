/- Bounds that a disk's calls keep. No statement of the seat. -/
import Derived.Test.YtpcipfnahknngaaGreatDoorDiskRep
namespace Go.Proofs.YtpcipfnahknngaaGreatDoor
open Go.RowKit Go.Maps

theorem getK_mem {α : Type} {k : List UInt8} {x : α} {l : List (List UInt8 × α)} (h : getK k l = some x) : (k, x) ∈ l := by
  unfold getK at h
  cases hf : l.find? (fun p => p.1 == k) with
  | none => rw [hf] at h; cases h
  | some p =>
    rw [hf] at h
    simp only [Option.map_some, Option.some.injEq] at h
    have h1 := List.mem_of_find?_eq_some hf
    have h2 := List.find?_some hf
    simp only [beq_iff_eq] at h2
    obtain ⟨a, b⟩ := p
    simp only at h h2
    subst h h2
    exact h1
theorem mem_insK {α : Type} {p x : List UInt8 × α} {l : List (List UInt8 × α)} (h : p ∈ insK x l) : p = x ∨ p ∈ l := by
  induction l with
  | nil => simpa [insK] using h
  | cons y r ih =>
    unfold insK at h
    split at h
    · simpa using h
    · rcases List.mem_cons.1 h with rfl | h
      · exact Or.inr List.mem_cons_self
      · rcases ih h with h | h
        · exact Or.inl h
        · exact Or.inr (List.mem_cons_of_mem _ h)
theorem insK_len {α : Type} (x : List UInt8 × α) (l : List (List UInt8 × α)) : (insK x l).length = l.length + 1 := by
  induction l with
  | nil => rfl
  | cons y r ih =>
    unfold insK
    split
    · rfl
    · simp [ih]
theorem delK_len {α : Type} (k : List UInt8) (l : List (List UInt8 × α)) : (delK k l).length ≤ l.length := List.length_filter_le _ _
theorem mem_delK {α : Type} {k : List UInt8} {p : List UInt8 × α} {l : List (List UInt8 × α)} (h : p ∈ delK k l) : p ∈ l := (List.mem_filter.1 h).1
theorem mem_putK {α : Type} {k : List UInt8} {x : α} {p : List UInt8 × α} {l : List (List UInt8 × α)} (h : p ∈ putK k x l) : p = (k, x) ∨ p ∈ l := by
  rcases mem_insK h with h | h
  · exact Or.inl h
  · exact Or.inr (mem_delK h)
theorem putK_len {α : Type} (k : List UInt8) (x : α) (l : List (List UInt8 × α)) : (putK k x l).length ≤ l.length + 1 := by
  unfold putK
  rw [insK_len]
  have := delK_len k l
  omega

/-- few files, few loose changes, short names, short files -/
structure Dg (N : Nat) (D : List (List UInt8 × Fil)) : Prop where
  len : D.length ≤ N
  keys : ∀ p ∈ D, p.1.length ≤ 64
  loose : ∀ p ∈ D, p.2.loose.length ≤ N
  now : ∀ p ∈ D, p.2.now.length ≤ 1048576
theorem Dg.nil (N : Nat) : Dg N [] := ⟨Nat.zero_le _, fun p h => by simp at h, fun p h => by simp at h, fun p h => by simp at h⟩
theorem Dg.mono {N M : Nat} {D : List (List UInt8 × Fil)} (h : Dg N D) (hm : N ≤ M) : Dg M D := ⟨Nat.le_trans h.len hm, h.keys, fun p hp => Nat.le_trans (h.loose p hp) hm, h.now⟩
theorem Dg.keysS {N : Nat} {D : List (List UInt8 × Fil)} (h : Dg N D) : ∀ k ∈ keysS D, k.length ≤ 64 := fun k hk => by
  unfold YtpcipfnahknngaaGreatDoor.keysS at hk
  rw [List.mem_mergeSort, List.mem_map] at hk
  obtain ⟨p, hp, rfl⟩ := hk
  exact h.keys p hp
theorem Dg.getLoose {N : Nat} {D : List (List UInt8 × Fil)} (h : Dg N D) (k : List UInt8) : ((getK k D).getD noFil).loose.length ≤ N := by
  cases hg : getK k D with
  | none => exact Nat.zero_le _
  | some f => exact h.loose _ (getK_mem hg)
theorem Dg.getNow {N : Nat} {D : List (List UInt8 × Fil)} (h : Dg N D) (k : List UInt8) : ((getK k D).getD noFil).now.length ≤ 1048576 := by
  cases hg : getK k D with
  | none => exact Nat.zero_le _
  | some f => exact h.now _ (getK_mem hg)
theorem Dg.put {N : Nat} {D : List (List UInt8 × Fil)} (h : Dg N D) (k : List UInt8) (f : Fil) (hk : k.length ≤ 64) (hl : f.loose.length ≤ N + 1) (hn : f.now.length ≤ 1048576) : Dg (N + 1) (putK k f D) := by
  refine ⟨Nat.le_trans (putK_len _ _ _) (by have := h.len; omega), fun p hp => ?_, fun p hp => ?_, fun p hp => ?_⟩ <;> rcases mem_putK hp with rfl | hp
  · exact hk
  · exact h.keys p hp
  · exact hl
  · have := h.loose p hp; omega
  · exact hn
  · exact h.now p hp
theorem Dg.del {N : Nat} {D : List (List UInt8 × Fil)} (h : Dg N D) (k : List UInt8) : Dg N (delK k D) :=
  ⟨Nat.le_trans (delK_len _ _) h.len, fun p hp => h.keys p (mem_delK hp), fun p hp => h.loose p (mem_delK hp), fun p hp => h.now p (mem_delK hp)⟩
theorem badName_len {k : List UInt8} (h : badName k = false) : k.length ≤ 64 := by have := of_decide_eq_false h; omega
theorem Dg.sync {N : Nat} {D : List (List UInt8 × Fil)} (h : Dg N D) (k : List UInt8) : Dg (N + 1) (syncD k D) := by
  unfold syncD
  split
  · exact h.mono (by omega)
  · rename_i hb
    split
    · rename_i f hg
      unfold settled
      split
      · exact h.put k _ (badName_len (by simpa using hb)) (Nat.zero_le _) (h.now _ (getK_mem hg))
      · exact (h.del k).mono (by omega)
    · exact h.mono (by omega)
theorem chgF_loose (f : Fil) (c : Chg) : (chgF f c).loose.length = f.loose.length + 1 := by
  simp [chgF]
theorem Dg.append {N : Nat} {D : List (List UInt8 × Fil)} (h : Dg N D) (k b : List UInt8) : Dg (N + 1) (appendD k b D) := by
  unfold appendD
  split
  · exact h.mono (by omega)
  · rename_i hb
    simp only [Bool.or_eq_true, not_or, Bool.not_eq_true] at hb
    have hl := h.getLoose k
    refine h.put k _ (badName_len hb.1) (by rw [chgF_loose]; omega) ?_
    have hf := hb.2
    unfold fullA at hf
    simp only [Bool.or_eq_false_iff, decide_eq_false_iff_not] at hf
    have hf1 := hf.1
    simp only [chgF]
    split
    · simp
    · split <;> simp <;> omega
theorem Dg.remove {N : Nat} {D : List (List UInt8 × Fil)} (h : Dg N D) (k : List UInt8) : Dg (N + 1) (removeD k D) := by
  unfold removeD
  split
  · exact h.mono (by omega)
  · rename_i hb
    split
    · have hl := h.getLoose k
      refine h.put k _ (badName_len (by simpa using hb)) (by rw [chgF_loose]; omega) ?_
      simp [chgF]
    · exact h.mono (by omega)
theorem Dg.replace {N : Nat} {D : List (List UInt8 × Fil)} (h : Dg N D) (k b : List UInt8) : Dg (N + 1) (replaceD k b D) := by
  unfold replaceD
  split
  · exact h.mono (by omega)
  · rename_i hb
    simp only [Bool.or_eq_true, not_or, Bool.not_eq_true] at hb
    have hl := h.getLoose k
    refine h.put k _ (badName_len hb.1) (by rw [chgF_loose]; omega) ?_
    have hf := hb.2
    unfold fullR at hf
    simp only [Bool.or_eq_false_iff, decide_eq_false_iff_not] at hf
    have hf1 := hf.1
    unfold chgF
    simp
    omega
end Go.Proofs.YtpcipfnahknngaaGreatDoor

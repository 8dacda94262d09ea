/- Disks whose files are the segments 1, 2, .. . No statement of the seat. -/
import Derived.Test.YtpcipfnahknngaaGreatDoorNam
import Derived.Test.YtpcipfnahknngaaGreatDoorMaNam
namespace Go.Proofs.YtpcipfnahknngaaGreatDoor
open Go.RowKit Go.Maps
theorem decD_lt (u : Nat) (h : u < 10) : Lib.decDigits u = [UInt8.ofNat (48 + u)] := by rw [Lib.decDigits, dif_pos h]
theorem seg_small (n : Nat) (h : n < 10) : segName n = [108, 111, 103, 46, 48, 48, 48, 48, 48, 48, 48, UInt8.ofNat (48 + n)] := by
  unfold segName Lib.itoa
  rw [if_neg (by omega)]
  have e : ((100000000 : Int) + (n : Int)).toNat = 100000000 + n := by omega
  rw [e]
  have step : ∀ (u d m : Nat), u = m * 10 + d → 0 < m → d < 10 → Lib.decDigits u = Lib.decDigits m ++ [UInt8.ofNat (48 + d)] := by
    intro u d m h1 h2 h3
    rw [Lib.decDigits, dif_neg (by omega)]
    have a : u / 10 = m := by omega
    have b : u % 10 = d := by omega
    rw [a, b]
  rw [step _ n 10000000 (by omega) (by omega) h, step 10000000 0 1000000 (by omega) (by omega) (by omega), step 1000000 0 100000 (by omega) (by omega) (by omega), step 100000 0 10000 (by omega) (by omega) (by omega), step 10000 0 1000 (by omega) (by omega) (by omega), step 1000 0 100 (by omega) (by omega) (by omega), step 100 0 10 (by omega) (by omega) (by omega), step 10 0 1 (by omega) (by omega) (by omega), decD_lt 1 (by omega)]
  simp
theorem seg_before : ∀ i j : Fin 10, bytesBefore (segName i) (segName j) = decide (i.val < j.val) := by
  intro i j
  rw [seg_small _ i.2, seg_small _ j.2]
  revert i j
  decide +kernel
theorem seg_eq : ∀ i j : Fin 10, (segName i == segName j) = decide (i.val = j.val) := by
  intro i j
  rw [seg_small _ i.2, seg_small _ j.2]
  revert i j
  decide +kernel
theorem seg_le : ∀ i j : Fin 10, decide (segName i ≤ segName j) = decide (i.val ≤ j.val) := by
  intro i j
  rw [seg_small _ i.2, seg_small _ j.2]
  revert i j
  decide +kernel
theorem seg_len (n : Nat) (h : n < 10) : (segName n).length = 12 := by rw [seg_small n h]; rfl
theorem sbe {i j : Nat} (hi : i < 10) (hj : j < 10) : bytesBefore (segName i) (segName j) = decide (i < j) := seg_before ⟨i, hi⟩ ⟨j, hj⟩
theorem seq' {i j : Nat} (hi : i < 10) (hj : j < 10) : (segName i == segName j) = decide (i = j) := seg_eq ⟨i, hi⟩ ⟨j, hj⟩
theorem sle {i j : Nat} (hi : i < 10) (hj : j < 10) : decide (segName i ≤ segName j) = decide (i ≤ j) := seg_le ⟨i, hi⟩ ⟨j, hj⟩

def dkF : Nat → List Fil → List (List UInt8 × Fil)
  | _, [] => []
  | a, f :: fs => (segName a, f) :: dkF (a + 1) fs
def nmF : Nat → Nat → List (List UInt8)
  | _, 0 => []
  | a, n + 1 => segName a :: nmF (a + 1) n
theorem dkF_len (fs : List Fil) : ∀ a, (dkF a fs).length = fs.length := by
  induction fs with
  | nil => intro a; rfl
  | cons f fs ih => intro a; simp [dkF, ih]
theorem dkF_keys (fs : List Fil) : ∀ a, (dkF a fs).map (·.1) = nmF a fs.length := by
  induction fs with
  | nil => intro a; rfl
  | cons f fs ih => intro a; simp [dkF, nmF, ih]
theorem dkF_mem {fs : List Fil} : ∀ {a : Nat} {p : List UInt8 × Fil}, p ∈ dkF a fs → ∃ j, ∃ h : j < fs.length, p = (segName (a + j), fs[j]) := by
  induction fs with
  | nil => intro a p h; simp [dkF] at h
  | cons f fs ih =>
    intro a p h
    simp only [dkF, List.mem_cons] at h
    rcases h with rfl | h
    · exact ⟨0, by simp, rfl⟩
    · obtain ⟨j, hj, rfl⟩ := ih h
      refine ⟨j + 1, by simpa using hj, ?_⟩
      have e : a + 1 + j = a + (j + 1) := by omega
      rw [e]
      rfl
theorem nmF_mem {n : Nat} : ∀ {a : Nat} {k : List UInt8}, k ∈ nmF a n → ∃ j, j < n ∧ k = segName (a + j) := by
  induction n with
  | zero => intro a k h; simp [nmF] at h
  | succ n ih =>
    intro a k h
    simp only [nmF, List.mem_cons] at h
    rcases h with rfl | h
    · exact ⟨0, by omega, rfl⟩
    · obtain ⟨j, hj, rfl⟩ := ih h
      exact ⟨j + 1, by omega, by congr 1; omega⟩
theorem getK_dk (fs : List Fil) : ∀ (a j : Nat), a + fs.length ≤ 10 → a + j < 10 → getK (segName (a + j)) (dkF a fs) = fs[j]? := by
  induction fs with
  | nil => intro a j _ _; rfl
  | cons f fs ih =>
    intro a j h1 h2
    simp only [List.length_cons] at h1
    unfold getK
    simp only [dkF, List.find?_cons]
    rw [seq' (by omega) h2]
    cases j with
    | zero => simp
    | succ j =>
      have e : decide (a = a + (j + 1)) = false := decide_eq_false (by omega)
      rw [e]
      have := ih (a + 1) j (by omega) (by omega)
      unfold getK at this
      have e2 : a + 1 + j = a + (j + 1) := by omega
      rw [e2] at this
      simpa using this
theorem delK_dk (fs : List Fil) : ∀ (a x : Nat), a + fs.length ≤ x → x < 10 → delK (segName x) (dkF a fs) = dkF a fs := by
  intro a x h1 h2
  unfold delK
  rw [List.filter_eq_self]
  intro p hp
  obtain ⟨j, hj, rfl⟩ := dkF_mem hp
  simp only
  rw [seq' (by omega) h2, decide_eq_false (by omega)]
  rfl
theorem dkF_snoc (fs : List Fil) (f : Fil) : ∀ a, dkF a (fs ++ [f]) = dkF a fs ++ [(segName (a + fs.length), f)] := by
  induction fs with
  | nil => intro a; rfl
  | cons g fs ih =>
    intro a
    simp only [List.cons_append, dkF, ih, List.length_cons]
    have e : a + 1 + fs.length = a + (fs.length + 1) := by omega
    rw [e]
theorem delK_last (fs : List Fil) (g : Fil) (a : Nat) (h : a + fs.length < 10) : delK (segName (a + fs.length)) (dkF a (fs ++ [g])) = dkF a fs := by
  have h1 := delK_dk fs a (a + fs.length) (Nat.le_refl _) h
  unfold delK at h1 ⊢
  rw [dkF_snoc, List.filter_append, h1]
  simp
theorem insK_dk (fs : List Fil) (f : Fil) : ∀ a, a + fs.length < 10 → insK (segName (a + fs.length), f) (dkF a fs) = dkF a (fs ++ [f]) := by
  induction fs with
  | nil => intro a _; rfl
  | cons g fs ih =>
    intro a h
    simp only [List.length_cons] at h
    simp only [dkF, insK, List.cons_append, List.length_cons]
    rw [sbe h (by omega), decide_eq_false (by omega)]
    have e : a + (fs.length + 1) = a + 1 + fs.length := by omega
    rw [e]
    rw [ih (a + 1) (by omega)]
    rfl
theorem putK_last (fs : List Fil) (g f : Fil) (a : Nat) (h : a + fs.length < 10) : putK (segName (a + fs.length)) f (dkF a (fs ++ [g])) = dkF a (fs ++ [f]) := by
  unfold putK
  rw [delK_last fs g a h, insK_dk fs f a h]
theorem putK_new (fs : List Fil) (f : Fil) (a : Nat) (h : a + fs.length < 10) : putK (segName (a + fs.length)) f (dkF a fs) = dkF a (fs ++ [f]) := by
  unfold putK
  rw [delK_dk fs a _ (Nat.le_refl _) h, insK_dk fs f a h]
theorem getK_last (fs : List Fil) (g : Fil) (a : Nat) (h : a + fs.length < 10) : getK (segName (a + fs.length)) (dkF a (fs ++ [g])) = some g := by
  rw [getK_dk _ a fs.length (by simp; omega) h]
  simp
theorem nmF_sorted (n : Nat) : ∀ a, a + n ≤ 10 → (nmF a n).Pairwise fun x y => decide (x ≤ y) = true := by
  induction n with
  | zero => intro a _; exact List.Pairwise.nil
  | succ n ih =>
    intro a h
    refine List.Pairwise.cons (fun k hk => ?_) (ih (a + 1) (by omega))
    obtain ⟨j, hj, rfl⟩ := nmF_mem hk
    rw [sle (by omega) (by omega), decide_eq_true (by omega)]
theorem keysS_dk (fs : List Fil) (a : Nat) (h : a + fs.length ≤ 10) : keysS (dkF a fs) = nmF a fs.length := by
  unfold keysS
  rw [dkF_keys]
  exact List.mergeSort_of_pairwise (nmF_sorted _ _ h)
theorem filter_keys (p : Fil → Bool) (D : List (List UInt8 × Fil)) : ∀ D' : List (List UInt8 × Fil), (∀ x ∈ D', getK x.1 D = some x.2) → (D'.map (·.1)).filter (fun k => p ((getK k D).getD noFil)) = (D'.filter fun x => p x.2).map (·.1) := by
  intro D'
  induction D' with
  | nil => intro _; rfl
  | cons x D' ih =>
    intro h
    have h1 := h x List.mem_cons_self
    have h2 := ih fun y hy => h y (List.mem_cons_of_mem _ hy)
    simp only [List.map_cons, List.filter_cons, h1, Option.getD_some]
    cases p x.2 <;> simp [h2]
theorem namesS_dk (p : Fil → Bool) (fs : List Fil) (a : Nat) (h : a + fs.length ≤ 10) : namesS p (dkF a fs) = ((dkF a fs).filter fun x => p x.2).map (·.1) := by
  unfold namesS
  rw [keysS_dk fs a h, ← dkF_keys]
  refine filter_keys p (dkF a fs) (dkF a fs) fun x hx => ?_
  obtain ⟨j, hj, rfl⟩ := dkF_mem hx
  rw [getK_dk fs a j h (by omega)]
  exact List.getElem?_eq_getElem hj
theorem names_all (p : Fil → Bool) (fs : List Fil) (a : Nat) (h : a + fs.length ≤ 10) (hp : ∀ f ∈ fs, p f = true) : namesS p (dkF a fs) = nmF a fs.length := by
  rw [namesS_dk p fs a h, List.filter_eq_self.2, dkF_keys]
  intro x hx
  obtain ⟨j, hj, rfl⟩ := dkF_mem hx
  exact hp _ (List.getElem_mem hj)
theorem names_last (p : Fil → Bool) (fs : List Fil) (g : Fil) (a : Nat) (h : a + fs.length < 10) (hp : ∀ f ∈ fs, p f = false) : namesS p (dkF a (fs ++ [g])) = if p g then [segName (a + fs.length)] else [] := by
  rw [namesS_dk p _ a (by simp; omega), dkF_snoc, List.filter_append]
  have e : (dkF a fs).filter (fun x => p x.2) = [] := by
    rw [List.filter_eq_nil_iff]
    intro x hx
    obtain ⟨j, hj, rfl⟩ := dkF_mem hx
    simp [hp _ (List.getElem_mem hj)]
  rw [e]
  cases hg : p g <;> simp [hg]
theorem names_no (p : Fil → Bool) (fs : List Fil) (a : Nat) (h : a + fs.length ≤ 10) (hp : ∀ f ∈ fs, p f = false) : namesS p (dkF a fs) = [] := by
  rw [namesS_dk p _ a h]
  have e : (dkF a fs).filter (fun x => p x.2) = [] := by
    rw [List.filter_eq_nil_iff]
    intro x hx
    obtain ⟨j, hj, rfl⟩ := dkF_mem hx
    simp [hp _ (List.getElem_mem hj)]
  rw [e]
  rfl
theorem seg_good (n : Nat) (h : n < 10) : badName (segName n) = false := by
  unfold badName
  rw [seg_len n h]
  rfl
/-- what number tells of these names -/
def nmT (k : List UInt8) : Nat := (k.getD 11 0).toNat - 48
theorem nmT_seg (n : Nat) (h : n < 10) : nmT (segName n) = n := by
  unfold nmT
  rw [seg_small n h]
  simp
  omega
end Go.Proofs.YtpcipfnahknngaaGreatDoor

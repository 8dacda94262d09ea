/- Contract of known. No statement of the seat. -/
import Derived.Test.YtpcipfnahknngaaGreatDoorOp0
import Derived.Test.YtpcipfnahknngaaGreatDoorEnt2
namespace Go.Proofs.YtpcipfnahknngaaGreatDoor
open Go.RowKit Go.Maps

theorem frameL_small (x : Ent) (hx : x.ok) (hb : x.b.length ≤ 2000) : (frameL (recL x)).length ≤ 2060 := by
  have a1 := putL_len x.i hx.1
  have a2 := putL_len x.t hx.2.1
  have a3 := putL_len x.b.length (by omega)
  have h1 : (recL x).length ≤ 2030 := by simp [recL, putText]; omega
  have a4 := putL_len (recL x).length (by omega)
  simp [frameL, putText, fourN]
  omega
/-- files of at most M bytes -/
def Dn (M : Nat) (D : List (List UInt8 × Fil)) : Prop := ∀ p ∈ D, p.2.now.length ≤ M
theorem Dn.get {M : Nat} {D : List (List UInt8 × Fil)} (h : Dn M D) (k : List UInt8) : ((getK k D).getD noFil).now.length ≤ M := by
  cases hg : getK k D with
  | none => exact Nat.zero_le _
  | some f => exact h _ (getK_mem hg)
/-- a small append to a small disk goes well -/
theorem app_fits {M c : Nat} {D : List (List UInt8 × Fil)} (k b : List UInt8) (hk : badName k = false) (h : Dn M D) (hl : D.length ≤ c) (hc : c < 64) (hm : M + b.length ≤ 1048576) :
    appendE k b D = 0 ∧ Dn (M + b.length) (appendD k b D) ∧ (appendD k b D).length ≤ c + 1 := by
  have hg := h.get k
  have hf : fullA k b D = false := by
    unfold fullA
    have := manyS_le D
    rw [decide_eq_false (by omega), decide_eq_false (by omega)]
    simp
  have e : appendD k b D = putK k (chgF ((getK k D).getD noFil) ⟨!((getK k D).getD noFil).isNow, false, b⟩) D := by unfold appendD; rw [hk, hf]; rfl
  refine ⟨by unfold appendE; rw [hk, hf]; rfl, ?_, ?_⟩
  · rw [e]
    intro p hp
    rcases mem_putK hp with rfl | hp
    · simp only [chgF]
      split
      · simp
      · split <;> simp <;> omega
    · have := h p hp; omega
  · rw [e]
    have := putK_len k (chgF ((getK k D).getD noFil) ⟨!((getK k D).getD noFil).isNow, false, b⟩) D
    omega
theorem w_fits {M c : Nat} {D : List (List UInt8 × Fil)} {ss : List Seg} (x : Ent) (hx : x.ok) (hb : x.b.length ≤ 2000) (h : Dn M D) (hl : D.length ≤ c) (hc : c < 64) (hm : M + 2060 ≤ 1048576) (hs : wPre ss D = D) (hn : wNum ss ≤ 99999999) :
    wErr ss x D = 0 ∧ Dn (M + 2060) (wDisk ss x D) ∧ (wDisk ss x D).length ≤ c + 1 := by
  have hfr := frameL_small x hx hb
  obtain ⟨h1, h2, h3⟩ := app_fits (segName (wNum ss)) (frameL (recL x)) (segName_ok _ hn) h hl hc (by omega)
  unfold wErr wDisk
  rw [if_neg (by omega), if_neg (by omega), hs]
  exact ⟨h1, fun p hp => Nat.le_trans (h2 p hp) (by omega), h3⟩

def kArg : List Ent := [⟨1, 1, []⟩, ⟨2, 1, []⟩, ⟨3, 1, []⟩, ⟨2, 2, []⟩]
def kL : List Ent := [⟨1, 1, []⟩, ⟨2, 2, []⟩]
theorem kArg_app : ∃ D ss, appR kArg [] [] [] = (0, D, ss, kL) ∧ Dg 8 D ∧ SgOk ss ∧ ss.length = 1 := by
  have ok : ∀ x ∈ kArg, x.ok ∧ x.b.length ≤ 2000 := by
    intro x hx
    simp only [kArg, List.mem_cons, List.not_mem_nil, or_false] at hx
    rcases hx with rfl | rfl | rfl | rfl <;> exact ⟨⟨by simp, by simp, by simp⟩, by simp⟩
  have o1 := ok ⟨1, 1, []⟩ (by simp [kArg])
  have o2 := ok ⟨2, 1, []⟩ (by simp [kArg])
  have o3 := ok ⟨3, 1, []⟩ (by simp [kArg])
  have o4 := ok ⟨2, 2, []⟩ (by simp [kArg])
  obtain ⟨a1, b1, c1⟩ := w_fits (M := 0) (c := 0) (D := []) (ss := []) ⟨1, 1, []⟩ o1.1 o1.2 (fun p h => by simp at h) (Nat.le_refl _) (by decide) (by decide) rfl (by decide)
  obtain ⟨a2, b2, c2⟩ := w_fits (ss := [⟨1, [1]⟩]) ⟨2, 1, []⟩ o2.1 o2.2 b1 c1 (by decide) (by decide) rfl (by decide)
  obtain ⟨a3, b3, c3⟩ := w_fits (ss := [⟨1, [1, 2]⟩]) ⟨3, 1, []⟩ o3.1 o3.2 b2 c2 (by decide) (by decide) rfl (by decide)
  obtain ⟨a4, b4, c4⟩ := w_fits (ss := [⟨1, [1, 2, 3]⟩]) ⟨2, 2, []⟩ o4.1 o4.2 b3 c3 (by decide) (by decide) rfl (by decide)
  refine ⟨_, [⟨1, [1, 2, 3, 2]⟩], ?_, ((((Dg.nil 0).wDisk [] ⟨1, 1, []⟩).wDisk [⟨1, [1]⟩] ⟨2, 1, []⟩).wDisk [⟨1, [1, 2]⟩] ⟨3, 1, []⟩).wDisk [⟨1, [1, 2, 3]⟩] ⟨2, 2, []⟩, ?_, rfl⟩
  · have e0 : appR kArg [] [] [] = appW kArg [] [] [] := by
      unfold appR
      rw [if_pos (by decide), if_pos (fun x hx => (ok x hx).2)]
    rw [e0]
    unfold kArg
    rw [appW, if_pos a1, show wSegs [] (Ent.i ⟨1, 1, []⟩) = [⟨1, [1]⟩] from rfl, appW, if_pos a2, show wSegs [⟨1, [1]⟩] (Ent.i ⟨2, 1, []⟩) = [⟨1, [1, 2]⟩] from rfl, appW, if_pos a3, show wSegs [⟨1, [1, 2]⟩] (Ent.i ⟨3, 1, []⟩) = [⟨1, [1, 2, 3]⟩] from rfl, appW, if_pos a4, show wSegs [⟨1, [1, 2, 3]⟩] (Ent.i ⟨2, 2, []⟩) = [⟨1, [1, 2, 3, 2]⟩] from rfl, appW]
    rfl
  · intro s hs
    simp at hs
    subst hs
    exact ⟨by simp, by simp, by simp⟩
theorem kArg_two (D : List (List UInt8 × Fil)) (ss : List Seg) : appR [⟨5, 0, []⟩] D ss kL = (2, D, ss, kL) := by
  unfold appR
  rw [if_neg (by decide)]
end Go.Proofs.YtpcipfnahknngaaGreatDoor

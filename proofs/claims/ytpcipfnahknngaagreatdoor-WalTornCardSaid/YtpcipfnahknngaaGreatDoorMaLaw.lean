/- Texts of seat wal in one: Lt3 Lt4 Lt5. No statement of the seat. -/
import Derived.Test.YtpcipfnahknngaaGreatDoorLt1
import Derived.Test.YtpcipfnahknngaaGreatDoorLt2
import Derived.Test.YtpcipfnahknngaaGreatDoorCra2
/- What appending, syncing, crashing and opening make of a log of entries one behind the other. No statement of the seat. -/
namespace Go.Proofs.YtpcipfnahknngaaGreatDoor
open Go.RowKit Go.Maps

def sureG (b : List UInt8) : Fil := ⟨b, b, true, true, []⟩
def loF : Bool → List Ent → List Chg
  | _, [] => []
  | c, e :: es => ⟨c, false, frE e⟩ :: loF false es
theorem loF_snoc (es : List Ent) (x : Ent) : ∀ c, loF c (es ++ [x]) = loF c es ++ [⟨c && es.isEmpty, false, frE x⟩] := by
  induction es with
  | nil => intro c; simp [loF]
  | cons e es ih => intro c; simp [loF, ih]
theorem loF_len (es : List Ent) : ∀ c, (loF c es).length = es.length := by
  induction es with
  | nil => intro c; rfl
  | cons e es ih => intro c; simp [loF, ih]
/-- the last file: of the entries g, the first p sure -/
def lastF (g : List Ent) (p : Nat) : Fil := ⟨catF (g.take p), catF g, decide (0 < p), true, loF (decide (p = 0)) (g.drop p)⟩
def suresF (gs : List (List Ent)) : List Fil := gs.map fun g => sureG (catF g)
@[simp] theorem suresF_len (gs : List (List Ent)) : (suresF gs).length = gs.length := by simp [suresF]
def stD (fu : List (List Ent)) (g : List Ent) (p : Nat) : Dsk := dkF 1 (suresF fu ++ [lastF g p])
def sgF : Nat → List (List Ent) → List Seg
  | _, [] => []
  | a, g :: gs => ⟨a, g.map (·.i)⟩ :: sgF (a + 1) gs
theorem sgF_snoc (gs : List (List Ent)) (g : List Ent) : ∀ a, sgF a (gs ++ [g]) = sgF a gs ++ [⟨a + gs.length, g.map (·.i)⟩] := by
  induction gs with
  | nil => intro a; rfl
  | cons h gs ih =>
    intro a
    simp only [List.cons_append, sgF, ih, List.length_cons]
    have e : a + 1 + gs.length = a + (gs.length + 1) := by omega
    rw [e]
theorem sgF_len (gs : List (List Ent)) : ∀ a, (sgF a gs).length = gs.length := by
  induction gs with
  | nil => intro a; rfl
  | cons h gs ih => intro a; simp [sgF, ih]
theorem sgF_mem {gs : List (List Ent)} : ∀ {a : Nat} {s : Seg}, s ∈ sgF a gs → a ≤ s.n ∧ s.n < a + gs.length ∧ ∃ g ∈ gs, s.at_ = g.map (·.i) := by
  induction gs with
  | nil => intro a s h; simp [sgF] at h
  | cons g gs ih =>
    intro a s h
    simp only [sgF, List.mem_cons] at h
    rcases h with rfl | h
    · exact ⟨Nat.le_refl _, by simp, g, by simp, rfl⟩
    · obtain ⟨h1, h2, x, hx, h3⟩ := ih h
      exact ⟨by omega, by simp; omega, x, by simp [hx], h3⟩
theorem lastF_full (g : List Ent) (h : g ≠ []) : lastF g g.length = sureG (catF g) := by
  have h0 : 0 < g.length := List.length_pos_iff.2 h
  unfold lastF sureG
  rw [List.take_length, List.drop_length, decide_eq_true h0]
  rfl
theorem stD_full (fu : List (List Ent)) (g : List Ent) (h : g ≠ []) : stD fu g g.length = dkF 1 (suresF (fu ++ [g])) := by
  unfold stD
  rw [lastF_full g h]
  simp [suresF]
theorem get_st (fu : List (List Ent)) (g : List Ent) (p : Nat) (hf : fu.length < 9) : getK (segName (fu.length + 1)) (stD fu g p) = some (lastF g p) := by
  have := getK_last (suresF fu) (lastF g p) 1 (by simp; omega)
  rw [suresF_len, Nat.add_comm] at this
  exact this
theorem sync_st (fu : List (List Ent)) (g : List Ent) (p : Nat) (hf : fu.length < 9) : syncD (segName (fu.length + 1)) (stD fu g p) = dkF 1 (suresF (fu ++ [g])) := by
  unfold syncD
  rw [seg_good _ (by omega), get_st fu g p hf]
  show settled _ (lastF g p) _ = _
  unfold settled
  have h := putK_last (suresF fu) (lastF g p) (sureG (catF g)) 1 (by simp; omega)
  rw [suresF_len, Nat.add_comm 1] at h
  have e : suresF (fu ++ [g]) = suresF fu ++ [sureG (catF g)] := by simp [suresF]
  rw [e, ← h]
  rfl
theorem append_in (fu : List (List Ent)) (g : List Ent) (p : Nat) (x : Ent) (hf : fu.length < 9) (hp : p ≤ g.length) (hg : g ≠ []) (hl : (catF g).length + (frE x).length ≤ 1048576) :
    appendE (segName (fu.length + 1)) (frE x) (stD fu g p) = 0 ∧ appendD (segName (fu.length + 1)) (frE x) (stD fu g p) = stD fu (g ++ [x]) p := by
  have hg1 := get_st fu g p hf
  have hfull : fullA (segName (fu.length + 1)) (frE x) (stD fu g p) = false := by
    unfold fullA
    rw [hg1]
    have e : decide (1048576 < (catF g).length + (frE x).length) = false := decide_eq_false (by omega)
    show (decide (1048576 < (catF g).length + (frE x).length) || (!true && decide _)) = false
    rw [e]
    rfl
  unfold appendE appendD
  rw [seg_good _ (by omega), hfull, hg1]
  refine ⟨rfl, ?_⟩
  have h := putK_last (suresF fu) (lastF g p) (lastF (g ++ [x]) p) 1 (by simp; omega)
  rw [suresF_len, Nat.add_comm 1] at h
  have e : chgF (lastF g p) ⟨!(lastF g p).isNow, false, frE x⟩ = lastF (g ++ [x]) p := by
    unfold chgF lastF
    rw [List.take_append_of_le_length hp, List.drop_append_of_le_length hp, loF_snoc]
    have h3 : (decide (p = 0) && (g.drop p).isEmpty) = false := by
      by_cases h0 : p = 0
      · subst h0
        cases g with
        | nil => exact absurd rfl hg
        | cons y g => rfl
      · rw [decide_eq_false h0]; rfl
    rw [h3]
    simp
  show putK _ (chgF ((some (lastF g p)).getD noFil) ⟨!((some (lastF g p)).getD noFil).isNow, false, frE x⟩) _ = _
  simp only [Option.getD_some]
  rw [e]
  exact h
theorem append_new (fu : List (List Ent)) (x : Ent) (hf : fu.length < 9) (hl : (frE x).length ≤ 1048576) :
    appendE (segName (fu.length + 1)) (frE x) (dkF 1 (suresF fu)) = 0 ∧ appendD (segName (fu.length + 1)) (frE x) (dkF 1 (suresF fu)) = stD fu [x] 0 := by
  have hg1 : getK (segName (fu.length + 1)) (dkF 1 (suresF fu)) = none := by
    have := getK_dk (suresF fu) 1 fu.length (by simp; omega) (by omega)
    rw [Nat.add_comm] at this
    rw [this]
    simp
  have hm : manyS (dkF 1 (suresF fu)) ≤ fu.length := by
    have := manyS_le (dkF 1 (suresF fu))
    rw [dkF_len, suresF_len] at this
    exact this
  have hfull : fullA (segName (fu.length + 1)) (frE x) (dkF 1 (suresF fu)) = false := by
    unfold fullA
    rw [hg1]
    have e : decide (64 ≤ manyS (dkF 1 (suresF fu))) = false := decide_eq_false (by omega)
    rw [e]
    simp [noFil]
    omega
  unfold appendE appendD
  rw [seg_good _ (by omega), hfull, hg1]
  refine ⟨rfl, ?_⟩
  have h := putK_new (suresF fu) (lastF [x] 0) 1 (by simp; omega)
  rw [suresF_len, Nat.add_comm 1] at h
  have e : chgF noFil ⟨!noFil.isNow, false, frE x⟩ = lastF [x] 0 := by
    simp [chgF, lastF, noFil, loF]
  show putK _ (chgF ((none : Option Fil).getD noFil) ⟨!((none : Option Fil).getD noFil).isNow, false, frE x⟩) _ = _
  simp only [Option.getD_none]
  rw [e]
  exact h

/-- a log of the entries l, the first s sure -/
def LogSt (D : Dsk) (ss : List Seg) (l : List Ent) (s : Nat) : Prop :=
  (D = [] ∧ ss = [] ∧ l = [] ∧ s = 0) ∨ ∃ fu g p, D = stD fu g p ∧ ss = sgF 1 (fu ++ [g]) ∧ l = fu.flatten ++ g ∧ (∀ f ∈ fu, f.length = 8) ∧ g ≠ [] ∧ g.length ≤ 8 ∧ p ≤ g.length ∧ s ≤ fu.flatten.length + p
theorem flat8 (fu : List (List Ent)) (h : ∀ f ∈ fu, f.length = 8) : fu.flatten.length = 8 * fu.length := by
  induction fu with
  | nil => rfl
  | cons f fu ih =>
    have := ih fun x hx => h x (List.mem_cons_of_mem _ hx)
    have := h f List.mem_cons_self
    simp only [List.flatten_cons, List.length_append, List.length_cons]
    omega
theorem appR_one (D : Dsk) (ss : List Seg) (l : List Ent) (x : Ent) (h : Seqn (l ++ [x])) (he : wErr ss x D = 0) : appR [x] D ss l = (0, wDisk ss x D, wSegs ss x.i, l ++ [x]) := by
  have hx := h.ok x (by simp)
  have h1 := h.last
  have h2 := h.1
  simp only [List.length_append, List.length_singleton] at h2
  have hgood : goodI (lastI l) [x] = true := by
    unfold goodI
    rw [if_neg hx.2.1]
    unfold lastI
    cases hl : l.getLast? with
    | none => rfl
    | some y =>
      rw [List.getLast?_eq_getElem?] at hl
      obtain ⟨hj, rfl⟩ := List.getElem?_eq_some_iff.1 hl
      have h3 := (h.left.2 _ hj).1
      show (if ((l[l.length - 1]'hj).i + 1) % 18446744073709551616 < x.i then false else goodI (some x.i) []) = true
      rw [if_neg (by omega)]
      rfl
  unfold appR
  rw [if_pos hgood, if_pos (by intro y hy; simp at hy; subst hy; have := hx.2.2; omega)]
  unfold appW
  rw [if_pos he]
  unfold appW
  rw [h.put]
theorem LogSt.append {D : Dsk} {ss : List Seg} {l : List Ent} {s : Nat} (h : LogSt D ss l s) (x : Ent) (hs : Seqn (l ++ [x])) (hl : l.length < 40) : ∃ D' ss', appR [x] D ss l = (0, D', ss', l ++ [x]) ∧ LogSt D' ss' (l ++ [x]) s := by
  have hx := hs.ok x (by simp)
  have hfx := frE_len x hx
  rcases h with ⟨rfl, rfl, rfl, rfl⟩ | ⟨fu, g, p, rfl, rfl, rfl, h8, hg, hg8, hp, hsu⟩
  · obtain ⟨h1, h2⟩ := append_new [] x (by simp) (by omega)
    have he : wErr [] x ([] : Dsk) = 0 := h1
    refine ⟨_, _, appR_one [] [] [] x hs he, Or.inr ⟨[], [x], 0, ?_, ?_, rfl, by simp, by simp, by simp, by simp, by simp⟩⟩
    · exact h2
    · rfl
  · have hfl := flat8 fu h8
    simp only [List.length_append] at hl
    have hg0 : 0 < g.length := List.length_pos_iff.2 hg
    have hlast : (sgF 1 (fu ++ [g])).getLast? = some ⟨1 + fu.length, g.map (·.i)⟩ := by rw [sgF_snoc]; simp
    have hcg := catF_len g (fun e he => hs.left.ok e (by simp [he]))
    have e1 : 1 + fu.length = fu.length + 1 := by omega
    by_cases hfull : 8 ≤ g.length
    · have hn : wNum (sgF 1 (fu ++ [g])) = (fu ++ [g]).length + 1 := by
        unfold wNum
        rw [hlast]
        simp [hfull]
        omega
      have hpre : wPre (sgF 1 (fu ++ [g])) (stD fu g p) = dkF 1 (suresF (fu ++ [g])) := by
        unfold wPre
        rw [hlast]
        simp only [List.length_map, hfull, if_true]
        rw [e1]
        exact sync_st fu g p (by omega)
      obtain ⟨h1, h2⟩ := append_new (fu ++ [g]) x (by simp; omega) (by omega)
      have hnn : ¬ 99999999 < wNum (sgF 1 (fu ++ [g])) := by rw [hn]; simp; omega
      have he : wErr (sgF 1 (fu ++ [g])) x (stD fu g p) = 0 := by
        unfold wErr
        rw [if_neg hnn, hn, hpre]
        exact h1
      refine ⟨_, _, appR_one _ _ _ x hs he, Or.inr ⟨fu ++ [g], [x], 0, ?_, ?_, by simp, ?_, by simp, by simp, by simp, ?_⟩⟩
      · unfold wDisk
        rw [if_neg hnn, hn, hpre]
        exact h2
      · unfold wSegs
        rw [hlast]
        simp only [List.length_map, hfull, if_true]
        rw [sgF_snoc (fu ++ [g])]
        congr 3
        simp
        omega
      · intro f hf
        rcases List.mem_append.1 hf with hf | hf
        · exact h8 f hf
        · simp at hf; subst hf; omega
      · have e3 : (fu ++ [g]).flatten.length = fu.flatten.length + g.length := by rw [List.flatten_append, List.length_append]; simp
        omega
    · have hn : wNum (sgF 1 (fu ++ [g])) = fu.length + 1 := by
        unfold wNum
        rw [hlast]
        simp only [List.length_map]
        rw [if_neg hfull]
        omega
      have hpre : wPre (sgF 1 (fu ++ [g])) (stD fu g p) = stD fu g p := by
        unfold wPre
        rw [hlast]
        simp only [List.length_map]
        rw [if_neg hfull]
      obtain ⟨h1, h2⟩ := append_in fu g p x (by omega) hp hg (by omega)
      have hnn : ¬ 99999999 < wNum (sgF 1 (fu ++ [g])) := by rw [hn]; omega
      have he : wErr (sgF 1 (fu ++ [g])) x (stD fu g p) = 0 := by
        unfold wErr
        rw [if_neg hnn, hn, hpre]
        exact h1
      refine ⟨_, _, appR_one _ _ _ x hs he, Or.inr ⟨fu, g ++ [x], p, ?_, ?_, by simp, h8, by simp, by simp; omega, by simp; omega, hsu⟩⟩
      · unfold wDisk
        rw [if_neg hnn, hn, hpre]
        exact h2
      · unfold wSegs
        rw [hlast]
        simp only [List.length_map]
        rw [if_neg hfull, sgF_snoc, sgF_snoc]
        simp
theorem sures_loose (gs : List (List Ent)) : ∀ f ∈ suresF gs, decide (0 < f.loose.length) = false := by
  intro f hf
  obtain ⟨g, _, rfl⟩ := List.mem_map.1 hf
  rfl
theorem sures_now (gs : List (List Ent)) : ∀ f ∈ suresF gs, f.isNow = true := by
  intro f hf
  obtain ⟨g, _, rfl⟩ := List.mem_map.1 hf
  rfl
theorem loose_st (fu : List (List Ent)) (g : List Ent) (p : Nat) (hf : fu.length < 9) (hp : p ≤ g.length) : looseS (stD fu g p) = if p < g.length then [segName (fu.length + 1)] else [] := by
  unfold looseS stD
  rw [names_last _ (suresF fu) (lastF g p) 1 (by simp; omega) (sures_loose fu)]
  have e : (lastF g p).loose.length = g.length - p := by unfold lastF; rw [loF_len]; simp
  rw [e, suresF_len, Nat.add_comm 1]
  by_cases h : p < g.length
  · rw [if_pos h, decide_eq_true (by omega)]; rfl
  · rw [if_neg h, decide_eq_false (by omega)]; rfl
theorem loose_sures (gs : List (List Ent)) (h : gs.length < 10) : looseS (dkF 1 (suresF gs)) = [] := by
  unfold looseS
  exact names_no _ _ 1 (by simp; omega) (sures_loose gs)
theorem LogSt.sync {D : Dsk} {ss : List Seg} {l : List Ent} {s : Nat} (h : LogSt D ss l s) (hl : l.length ≤ 40) : LogSt (syncW nmT D) ss l l.length := by
  rcases h with ⟨rfl, rfl, rfl, rfl⟩ | ⟨fu, g, p, rfl, rfl, rfl, h8, hg, hg8, hp, hsu⟩
  · exact Or.inl ⟨by simp [syncW, looseS, namesS, keysS, syncL], rfl, rfl, rfl⟩
  · have hfl := flat8 fu h8
    simp only [List.length_append] at hl
    refine Or.inr ⟨fu, g, g.length, ?_, rfl, rfl, h8, hg, hg8, Nat.le_refl _, by simp⟩
    unfold syncW
    rw [loose_st fu g p (by omega) hp]
    by_cases h : p < g.length
    · rw [if_pos h]
      unfold syncL
      rw [nmT_seg _ (by omega), if_pos (by omega)]
      unfold syncL
      rw [sync_st fu g p (by omega), stD_full fu g hg]
    · rw [if_neg h]
      unfold syncL
      have e : p = g.length := by omega
      rw [e]
end Go.Proofs.YtpcipfnahknngaaGreatDoor

/- What crashing and opening make of a log of entries one behind the other. No statement of the seat. -/
namespace Go.Proofs.YtpcipfnahknngaaGreatDoor
open Go.RowKit Go.Maps

theorem torn_false (es : List Ent) (is : Bool) : ∀ (now : List UInt8) (n : Nat), (loF false es).foldl tornStep (now, is, n) = (now ++ (catF es).take n, is, n - (catF es).length) := by
  induction es with
  | nil => intro now n; simp [loF]
  | cons e es ih =>
    intro now n
    simp only [loF, List.foldl_cons]
    by_cases h0 : n = 0
    · subst h0
      have e0 : tornStep (now, is, 0) ⟨false, false, frE e⟩ = (now, is, 0) := rfl
      rw [e0, ih]
      simp
    · have e0 : tornStep (now, is, n) ⟨false, false, frE e⟩ = (now ++ (frE e).take (min n (frE e).length), is, n - min n (frE e).length) := by
        unfold tornStep
        rw [if_neg h0]
        rfl
      rw [e0, ih]
      have e1 : (frE e).take (min n (frE e).length) = (frE e).take n := by
        by_cases h : n ≤ (frE e).length
        · rw [Nat.min_eq_left h]
        · rw [Nat.min_eq_right (by omega), List.take_of_length_le (Nat.le_refl _), List.take_of_length_le (by omega)]
      have e2 : n - min n (frE e).length = n - (frE e).length := by omega
      rw [e1, e2, catF_cons, List.take_append, List.append_assoc, List.length_append]
      congr 2
      omega
theorem torn_true (e : Ent) (es : List Ent) (n : Nat) : tornS (loF true (e :: es)) [] false n = if n = 0 then ([], false, 0) else (frE e ++ (catF es).take (n - 1), true, n - 1 - (catF es).length) := by
  unfold tornS
  simp only [loF, List.foldl_cons]
  by_cases h0 : n = 0
  · subst h0
    have e1 : tornStep (([] : List UInt8), false, 0) ⟨true, false, frE e⟩ = ([], false, 0) := rfl
    rw [e1, torn_false, if_pos rfl]
    simp
  · have e1 : tornStep (([] : List UInt8), false, n) ⟨true, false, frE e⟩ = (frE e, true, n - 1) := by
      unfold tornStep
      rw [if_neg h0]
      rfl
    rw [e1, torn_false, if_neg h0]
theorem loF_take (es : List Ent) : ∀ (c : Bool) (j : Nat), (loF c es).take j = loF c (es.take j) := by
  induction es with
  | nil => intro c j; simp [loF]
  | cons e es ih =>
    intro c j
    cases j with
    | zero => rfl
    | succ j => simp [loF, ih]
theorem torn_len (g : List Ent) (p j n : Nat) : (tornS ((lastF g p).loose.take j) (lastF g p).sure (lastF g p).isSure n).1.length ≤ (catF g).length := by
  have hsplit : (catF g).length = (catF (g.take p)).length + (catF (g.drop p)).length := by
    rw [← List.length_append, ← catF_append, List.take_append_drop]
  have hsplit2 : (catF (g.drop p)).length = (catF ((g.drop p).take j)).length + (catF ((g.drop p).drop j)).length := by
    rw [← List.length_append, ← catF_append, List.take_append_drop]
  unfold lastF
  simp only
  rw [loF_take]
  by_cases h0 : p = 0
  · subst h0
    simp only [decide_true, List.take_zero, catF_nil, Nat.lt_irrefl, decide_false, List.drop_zero] at hsplit2 hsplit ⊢
    cases hg : g.take j with
    | nil => simp [loF, tornS]
    | cons e es =>
      rw [hg] at hsplit2
      rw [torn_true]
      simp only [catF_cons, List.length_append] at hsplit2
      split
      · simp
      · simp only [List.length_append, List.length_take]
        omega
  · rw [decide_eq_false h0]
    unfold tornS
    rw [torn_false]
    simp only [List.length_append, List.length_take]
    omega

theorem dg_dk (fs : List Fil) (h : fs.length ≤ 9) (hf : ∀ f ∈ fs, f.loose.length ≤ 100 ∧ f.now.length ≤ 1048576) : Dg 100 (dkF 1 fs) := by
  refine ⟨by rw [dkF_len]; omega, fun p hp => ?_, fun p hp => ?_, fun p hp => ?_⟩ <;> obtain ⟨j, hj, rfl⟩ := dkF_mem hp
  · show (segName (1 + j)).length ≤ 64
    rw [seg_len _ (by omega)]
    omega
  · exact (hf _ (List.getElem_mem hj)).1
  · exact (hf _ (List.getElem_mem hj)).2
theorem sure_small {gs : List (List Ent)} (h : Seqn gs.flatten) : ∀ f ∈ suresF gs, f.loose.length ≤ 100 ∧ f.now.length ≤ 1048576 := by
  intro f hf
  obtain ⟨g, hg, rfl⟩ := List.mem_map.1 hf
  refine ⟨Nat.zero_le _, ?_⟩
  have h1 := catF_len g (fun e he => h.ok e (List.mem_flatten.2 ⟨g, hg, he⟩))
  have h2 : g.length ≤ gs.flatten.length := by
    have := List.Sublist.length_le (List.sublist_flatten_of_mem hg)
    exact this
  have h3 := h.1
  show (catF g).length ≤ _
  omega
theorem LogSt.dg {D : Dsk} {ss : List Seg} {l : List Ent} {s : Nat} (h : LogSt D ss l s) (hs : Seqn l) (hl : l.length ≤ 40) : Dg 100 D ∧ Tn D ∧ SgOk ss ∧ ss.length ≤ 6 ∧ (∀ k ∈ looseS D, ∃ n, 1 ≤ n ∧ n < 10 ∧ k = segName n) := by
  rcases h with ⟨rfl, rfl, rfl, rfl⟩ | ⟨fu, g, p, rfl, rfl, rfl, h8, hg, hg8, hp, hsu⟩
  · exact ⟨Dg.nil _, fun p hp => by simp at hp, fun s hs => by simp at hs, by simp, fun k hk => by simp [looseS, namesS, keysS] at hk⟩
  · have hfl := flat8 fu h8
    simp only [List.length_append] at hl
    have hcg := catF_len g (fun e he => hs.ok e (by simp [he]))
    refine ⟨dg_dk _ (by simp; omega) ?_, ?_, ?_, ?_, ?_⟩
    · intro f hf
      rcases List.mem_append.1 hf with hf | hf
      · exact sure_small hs.left f hf
      · simp only [List.mem_singleton] at hf
        subst hf
        refine ⟨?_, ?_⟩
        · unfold lastF; rw [loF_len]; simp; omega
        · show (catF g).length ≤ _
          omega
    · intro x hx j n
      obtain ⟨i, hi, rfl⟩ := dkF_mem hx
      have hm := List.getElem_mem hi
      show (tornS (((suresF fu ++ [lastF g p])[i]).loose.take j) ((suresF fu ++ [lastF g p])[i]).sure ((suresF fu ++ [lastF g p])[i]).isSure n).1.length ≤ 1048576
      generalize (suresF fu ++ [lastF g p])[i] = f at hm ⊢
      rcases List.mem_append.1 hm with hf | hf
      · have h2 := (sure_small hs.left f hf).2
        obtain ⟨y, _, rfl⟩ := List.mem_map.1 hf
        show (tornS (([] : List Chg).take j) (catF y) true n).1.length ≤ 1048576
        rw [tornS_nil]
        exact h2
      · simp only [List.mem_singleton] at hf
        subst hf
        have := torn_len g p j n
        omega
    · intro s hs2
      obtain ⟨h1, h2, x, hx, h3⟩ := sgF_mem hs2
      simp only [List.length_append, List.length_singleton] at h2
      refine ⟨h1, by omega, ?_⟩
      rw [h3, List.length_map]
      rcases List.mem_append.1 hx with hx | hx
      · have := h8 x hx; omega
      · simp at hx; subst hx; omega
    · rw [sgF_len]; simp; omega
    · intro k hk
      rw [loose_st fu g p (by omega) hp] at hk
      split at hk
      · simp at hk
        exact ⟨fu.length + 1, by omega, by omega, hk⟩
      · simp at hk

/-- a disk behind a crash: whole files, and one that may be torn -/
def CrSt (D : Dsk) (l : List Ent) (s : Nat) : Prop :=
  ∃ fu g, l = fu.flatten ++ g ∧ (∀ f ∈ fu, f.length = 8) ∧ g.length ≤ 8 ∧ ((D = dkF 1 (suresF fu) ∧ s ≤ fu.flatten.length) ∨
    ∃ q R, D = dkF 1 (suresF fu ++ [sureG (catF (g.take q) ++ R)]) ∧ q ≤ g.length ∧ firstT R = none ∧ R.length ≤ 1000 ∧ s ≤ fu.flatten.length + q)
theorem crash_one (st : List Int) (D : Dsk) (k : List UInt8) (h : looseS D = [k]) : crashT st D = crash1 k (stayN st 0) D := by
  unfold crashT
  rw [h]
  rfl
theorem settle_st (fu : List (List Ent)) (g : List Ent) (p : Nat) (f : Fil) (hf : fu.length < 9) : settled (segName (fu.length + 1)) f (stD fu g p) = if f.isNow then dkF 1 (suresF fu ++ [sureG f.now]) else dkF 1 (suresF fu) := by
  have e : fu.length + 1 = 1 + (suresF fu).length := by simp; omega
  unfold settled stD
  rw [e]
  split
  · exact putK_last _ _ _ 1 (by simp; omega)
  · exact delK_last _ _ 1 (by simp; omega)
theorem LogSt.crash {D : Dsk} {ss : List Seg} {l : List Ent} {s : Nat} (h : LogSt D ss l s) (hs : Seqn l) (hl : l.length ≤ 40) (st : List Int) : CrSt (crashT st D) l s := by
  rcases h with ⟨rfl, rfl, rfl, rfl⟩ | ⟨fu, g, p, rfl, rfl, rfl, h8, hg, hg8, hp, hsu⟩
  · exact ⟨[], [], rfl, by simp, by simp, Or.inl ⟨by simp [crashT, looseS, namesS, keysS, crashL, dkF, suresF], by simp⟩⟩
  · have hfl := flat8 fu h8
    simp only [List.length_append] at hl
    have hok : ∀ e ∈ g, Okx e := fun e he => hs.ok e (by simp [he])
    have hls := loose_st fu g p (by omega) hp
    refine ⟨fu, g, rfl, h8, hg8, ?_⟩
    by_cases hpg : p < g.length
    · rw [if_pos hpg] at hls
      rw [crash_one st _ _ hls]
      generalize stayN st 0 = n
      unfold crash1
      rw [get_st fu g p (by omega)]
      simp only [Option.getD_some]
      rw [settle_st fu g p _ (by omega)]
      have take_R : ∀ (q0 n : Nat), p ≤ q0 → q0 ≤ g.length → ∃ q R, q ≤ g.length ∧ catF (g.take q0) ++ (catF (g.drop q0)).take n = catF (g.take q) ++ R ∧ firstT R = none ∧ R.length ≤ 1000 ∧ p ≤ q := by
        intro q0 n h1 h2
        have hokd : ∀ e ∈ g.drop q0, Okx e := fun e he => hok e (List.mem_of_mem_drop he)
        obtain ⟨q, R, hq, he, hR⟩ := take_cat (g.drop q0) hokd n
        have hl1 := congrArg List.length he
        have hl2 := catF_len (g.drop q0) hokd
        simp only [List.length_take, List.length_append, List.length_drop] at hl1 hl2 hq
        refine ⟨q0 + q, R, by omega, ?_, hR, by omega, by omega⟩
        rw [he, List.take_add, catF_append, List.append_assoc]
      by_cases h0 : p = 0
      · subst h0
        obtain ⟨e, es, rfl⟩ : ∃ e es, g = e :: es := by
          cases g with
          | nil => exact absurd rfl hg
          | cons e es => exact ⟨e, es, rfl⟩
        have ht : tornS (lastF (e :: es) 0).loose (lastF (e :: es) 0).sure (lastF (e :: es) 0).isSure n = if n = 0 then ([], false, 0) else (frE e ++ (catF es).take (n - 1), true, n - 1 - (catF es).length) := torn_true e es n
        rw [ht]
        by_cases hn : n = 0
        · rw [if_pos hn]
          exact Or.inl ⟨rfl, by omega⟩
        · rw [if_neg hn]
          obtain ⟨q, R, h1, h2, h3, h4, h5⟩ := take_R 1 (n - 1) (by omega) (by simp)
          refine Or.inr ⟨q, R, ?_, h1, h3, h4, by omega⟩
          have e1 : catF ((e :: es).take 1) ++ (catF ((e :: es).drop 1)).take (n - 1) = frE e ++ (catF es).take (n - 1) := by simp
          rw [e1] at h2
          simp only [if_true]
          rw [h2]
      · have ht : tornS (lastF g p).loose (lastF g p).sure (lastF g p).isSure n = (catF (g.take p) ++ (catF (g.drop p)).take n, true, n - (catF (g.drop p)).length) := by
          unfold lastF
          simp only
          rw [decide_eq_false h0, decide_eq_true (by omega)]
          exact torn_false _ _ _ _
        rw [ht]
        obtain ⟨q, R, h1, h2, h3, h4, h5⟩ := take_R p n (Nat.le_refl _) hp
        refine Or.inr ⟨q, R, ?_, h1, h3, h4, by omega⟩
        simp only [if_true]
        rw [h2]
    · rw [if_neg hpg] at hls
      have e : crashT st (stD fu g p) = stD fu g p := by unfold crashT; rw [hls]; rfl
      rw [e]
      have e2 : p = g.length := by omega
      subst e2
      refine Or.inr ⟨g.length, [], ?_, Nat.le_refl _, firstT_nil, by simp, hsu⟩
      unfold stD
      rw [lastF_full g hg]
      simp
end Go.Proofs.YtpcipfnahknngaaGreatDoor

/- What opening makes of a disk behind a crash. No statement of the seat. -/
namespace Go.Proofs.YtpcipfnahknngaaGreatDoor
open Go.RowKit Go.Maps

theorem openS_nil (nm : List UInt8 → Nat) (c : Bool) (D : Dsk) (ss : List Seg) (l : List Ent) : openS nm [] c D ss l = (D, ss, l) := by unfold openS; rfl
theorem openS_one (nm : List UInt8 → Nat) (k : List UInt8) (ks : List (List UInt8)) (D D' : Dsk) (ss ss' : List Seg) (l : List Ent) (R : Nat × List Nat × List Ent) (c : Bool) (h0 : nm k ≠ 0) (hR : scanT (segB (nm k) D) 0 [] l = R) (hr : readR (nm k) (segB (nm k) D) R D ss = (c, D', ss')) :
    openS nm (k :: ks) false D ss l = openS nm ks c D' ss' R.2.2 := by
  rw [openS, if_neg h0, if_neg (by decide), hR, hr]
theorem scan0 (es : List Ent) (R : List UInt8) (l : List Ent) (hR : firstT R = none) (hs : Seqn (l ++ es)) : scanT (catF es ++ R) 0 [] l = ((catF es).length, es.map (·.i), l ++ es) := by
  have := scanT_cat es R hR [] [] l hs
  simpa using this
theorem open_full (gs : List (List Ent)) : ∀ (a : Nat) (ss : List Seg) (l : List Ent) (D : Dsk) (tl : List (List UInt8)), (∀ j (h : j < gs.length), getK (segName (a + j)) D = some (sureG (catF gs[j]))) → 1 ≤ a → a + gs.length ≤ 10 → (∀ g ∈ gs, g ≠ []) → Seqn (l ++ gs.flatten) →
    openS nmT (nmF a gs.length ++ tl) false D ss l = openS nmT tl false D (ss ++ sgF a gs) (l ++ gs.flatten) := by
  induction gs with
  | nil => intro a ss l D tl _ _ _ _ _; simp [nmF, sgF]
  | cons g gs ih =>
    intro a ss l D tl hk h1 h2 hne hs
    simp only [List.length_cons] at h2
    have hs' : Seqn ((l ++ g) ++ gs.flatten) := by simpa using hs
    have hk0 := hk 0 (by simp)
    simp only [Nat.add_zero, List.getElem_cons_zero] at hk0
    have hB : segB a D = catF g := by unfold segB; rw [hk0]; rfl
    have hg : g ≠ [] := hne g (by simp)
    have hn : nmT (segName a) = a := nmT_seg a (by omega)
    have hpos := catF_pos g (fun e he => hs'.left.ok e (by simp [he])) hg
    have hsc := scan0 g [] l firstT_nil hs'.left
    rw [List.append_nil] at hsc
    simp only [List.length_cons, nmF, List.cons_append]
    rw [openS_one nmT (segName a) _ D D ss (ss ++ [⟨a, g.map (·.i)⟩]) l ((catF g).length, g.map (·.i), l ++ g) false (by rw [hn]; omega) (by rw [hn, hB]; exact hsc) (by rw [hn, hB]; unfold readR; rw [if_pos ⟨hpos, rfl⟩])]
    have hh := ih (a + 1) (ss ++ [⟨a, g.map (·.i)⟩]) (l ++ g) D tl (fun j hj => by
      have := hk (j + 1) (by simpa using hj)
      have e : a + 1 + j = a + (j + 1) := by omega
      rw [e]
      simpa using this) (by omega) (by omega) (fun x hx => hne x (by simp [hx])) hs'
    rw [hh]
    simp [sgF]
theorem get_sures (gs : List (List Ent)) (tl : List Fil) (h : gs.length + tl.length < 10) (j : Nat) (hj : j < gs.length) : getK (segName (1 + j)) (dkF 1 (suresF gs ++ tl)) = some (sureG (catF gs[j])) := by
  rw [getK_dk _ 1 j (by simp; omega) (by omega), List.getElem?_append_left (by simpa using hj)]
  simp [suresF, hj]
/-- opening whole files -/
theorem open_sures (gs : List (List Ent)) (h : gs.length < 9) (hne : ∀ g ∈ gs, g ≠ []) (hs : Seqn gs.flatten) : openT nmT (dkF 1 (suresF gs)) = (dkF 1 (suresF gs), sgF 1 gs, gs.flatten) := by
  unfold openT
  rw [names_all _ _ 1 (by simp; omega) (sures_now gs), suresF_len]
  have := open_full gs 1 [] [] (dkF 1 (suresF gs)) [] (fun j hj => by
    have := get_sures gs [] (by simp; omega) j hj
    rw [List.append_nil] at this
    exact this) (by omega) (by omega) hne (by simpa using hs)
  rw [List.append_nil] at this
  rw [this, openS_nil]
  simp
theorem settle_last (fs : List Fil) (g f : Fil) (h : fs.length < 9) : settled (segName (fs.length + 1)) f (dkF 1 (fs ++ [g])) = if f.isNow then dkF 1 (fs ++ [sureG f.now]) else dkF 1 fs := by
  have e : fs.length + 1 = 1 + fs.length := by omega
  unfold settled
  rw [e]
  split
  · exact putK_last _ _ _ 1 (by omega)
  · exact delK_last _ _ 1 (by omega)
theorem get_l (fs : List Fil) (g : Fil) (h : fs.length < 9) : getK (segName (fs.length + 1)) (dkF 1 (fs ++ [g])) = some g := by
  have := getK_last fs g 1 (by omega)
  rw [Nat.add_comm] at this
  exact this
theorem sync_l (fs : List Fil) (g : Fil) (h : fs.length < 9) : syncD (segName (fs.length + 1)) (dkF 1 (fs ++ [g])) = if g.isNow then dkF 1 (fs ++ [sureG g.now]) else dkF 1 fs := by
  unfold syncD
  rw [seg_good _ (by omega), get_l fs g h]
  exact settle_last fs g g h
theorem put_l (fs : List Fil) (g f : Fil) (h : fs.length < 9) : putK (segName (fs.length + 1)) f (dkF 1 (fs ++ [g])) = dkF 1 (fs ++ [f]) := by
  have := putK_last fs g f 1 (by omega)
  rw [Nat.add_comm 1] at this
  exact this
theorem cut_l (fs : List Fil) (P b : List UInt8) (h : fs.length < 9) (hb : b.length ≤ 1048576) : syncD (segName (fs.length + 1)) (replaceD (segName (fs.length + 1)) b (dkF 1 (fs ++ [sureG P]))) = dkF 1 (fs ++ [sureG b]) := by
  have hf : fullR (segName (fs.length + 1)) b (dkF 1 (fs ++ [sureG P])) = false := by
    unfold fullR
    rw [get_l _ _ h, decide_eq_false (by omega)]
    rfl
  have e : replaceD (segName (fs.length + 1)) b (dkF 1 (fs ++ [sureG P])) = dkF 1 (fs ++ [chgF (sureG P) ⟨true, false, b⟩]) := by
    unfold replaceD
    rw [seg_good _ (by omega), hf, get_l _ _ h]
    exact put_l _ _ _ h
  rw [e, sync_l _ _ h]
  rfl
theorem rem_l (fs : List Fil) (P : List UInt8) (h : fs.length < 9) : syncD (segName (fs.length + 1)) (removeD (segName (fs.length + 1)) (dkF 1 (fs ++ [sureG P]))) = dkF 1 fs := by
  have e : removeD (segName (fs.length + 1)) (dkF 1 (fs ++ [sureG P])) = dkF 1 (fs ++ [chgF (sureG P) ⟨true, true, []⟩]) := by
    unfold removeD
    rw [seg_good _ (by omega), get_l _ _ h]
    exact put_l _ _ _ h
  rw [e, sync_l _ _ h]
  rfl
/-- a log behind the crash and the opening: whole files, all sure -/
structure OpSt (D : Dsk) (ss : List Seg) (a l : List Ent) (s : Nat) (gs : List (List Ent)) : Prop where
  disk : D = dkF 1 (suresF gs)
  segs : ss = sgF 1 gs
  row : a = gs.flatten
  ne : ∀ g ∈ gs, g ≠ []
  len : gs.length ≤ 6
  pre : ∃ t, l = a ++ t
  sure : s ≤ a.length
theorem CrSt.open_ {D : Dsk} {l : List Ent} {s : Nat} (h : CrSt D l s) (hs : Seqn l) (hl : l.length ≤ 40) : ∃ gs, OpSt (openT nmT D).1 (openT nmT D).2.1 (openT nmT D).2.2 l s gs := by
  obtain ⟨fu, g, rfl, h8, hg8, h⟩ := h
  have hfl := flat8 fu h8
  simp only [List.length_append] at hl
  have hne : ∀ f ∈ fu, f ≠ [] := fun f hf e => by have := h8 f hf; rw [e] at this; cases this
  rcases h with ⟨rfl, hsu⟩ | ⟨q, R, rfl, hq, hR, hRl, hsu⟩
  · rw [open_sures fu (by omega) hne hs.left]
    exact ⟨fu, rfl, rfl, rfl, hne, by omega, ⟨g, rfl⟩, hsu⟩
  · have hsq : Seqn (fu.flatten ++ g.take q) := by
      have e : fu.flatten ++ g = (fu.flatten ++ g.take q) ++ g.drop q := by rw [List.append_assoc, List.take_append_drop]
      rw [e] at hs
      exact hs.left
    obtain ⟨P, hP⟩ : ∃ P, P = catF (g.take q) ++ R := ⟨_, rfl⟩
    have hnames : namesS (fun f => f.isNow) (dkF 1 (suresF fu ++ [sureG P])) = nmF 1 fu.length ++ [segName (fu.length + 1)] := by
      rw [names_all _ _ 1 (by simp; omega) (fun f hf => by
        rcases List.mem_append.1 hf with hf | hf
        · exact sures_now fu f hf
        · simp at hf; subst hf; rfl)]
      have e : ∀ n a, nmF a (n + 1) = nmF a n ++ [segName (a + n)] := by
        intro n
        induction n with
        | zero => intro a; rfl
        | succ n ih =>
          intro a
          have h1 := ih (a + 1)
          have e2 : a + 1 + n = a + (n + 1) := by omega
          rw [e2] at h1
          show segName a :: nmF (a + 1) (n + 1) = (segName a :: nmF (a + 1) n) ++ _
          rw [h1]
          rfl
      rw [List.length_append, suresF_len, List.length_singleton, e, Nat.add_comm 1]
    have hfull := open_full fu 1 [] [] (dkF 1 (suresF fu ++ [sureG P])) [segName (fu.length + 1)] (fun j hj => get_sures fu [_] (by simp; omega) j hj) (by omega) (by omega) hne (by simpa using hsq.left)
    have hn : nmT (segName (fu.length + 1)) = fu.length + 1 := nmT_seg _ (by omega)
    have hgl := get_l (suresF fu) (sureG P) (by simp; omega)
    rw [suresF_len] at hgl
    have hB : segB (fu.length + 1) (dkF 1 (suresF fu ++ [sureG P])) = P := by unfold segB; rw [hgl]; rfl
    have hsc : scanT P 0 [] fu.flatten = ((catF (g.take q)).length, (g.take q).map (·.i), fu.flatten ++ g.take q) := by rw [hP]; exact scan0 (g.take q) R _ hR hsq
    have hokq : ∀ e ∈ g.take q, Okx e := fun e he => hsq.ok e (by simp [he])
    have hql : (g.take q).length = q := by rw [List.length_take]; omega
    have hpre : fu.flatten ++ g = (fu.flatten ++ g.take q) ++ g.drop q := by rw [List.append_assoc, List.take_append_drop]
    rw [← hP]
    have step : ∀ (c : Bool) (D' : Dsk) (ss' : List Seg), readR (fu.length + 1) P ((catF (g.take q)).length, (g.take q).map (·.i), fu.flatten ++ g.take q) (dkF 1 (suresF fu ++ [sureG P])) (sgF 1 fu) = (c, D', ss') → openT nmT (dkF 1 (suresF fu ++ [sureG P])) = (D', ss', fu.flatten ++ g.take q) := by
      intro c D' ss' hr
      unfold openT
      rw [hnames, hfull]
      simp only [List.nil_append]
      rw [openS_one nmT (segName (fu.length + 1)) [] (dkF 1 (suresF fu ++ [sureG P])) D' (sgF 1 fu) ss' fu.flatten ((catF (g.take q)).length, (g.take q).map (·.i), fu.flatten ++ g.take q) c (by rw [hn]; omega) (by rw [hn, hB]; exact hsc) (by rw [hn, hB]; exact hr), openS_nil]
    by_cases h0 : q = 0
    · subst h0
      have hr : readR (fu.length + 1) P ((catF (g.take 0)).length, (g.take 0).map (·.i), fu.flatten ++ g.take 0) (dkF 1 (suresF fu ++ [sureG P])) (sgF 1 fu) = (true, dkF 1 (suresF fu), sgF 1 fu) := by
        have := rem_l (suresF fu) P (by simp; omega)
        rw [suresF_len] at this
        unfold readR
        rw [if_neg (by simp), if_neg (by simp), this]
      rw [step _ _ _ hr]
      exact ⟨fu, rfl, rfl, by simp, hne, by omega, ⟨g, by simp⟩, by simpa using hsu⟩
    · have hqn : g.take q ≠ [] := fun e => by rw [e] at hql; exact h0 hql.symm
      have hpos := catF_pos (g.take q) hokq hqn
      have hcl := catF_len (g.take q) hokq
      have hPl : P.length = (catF (g.take q)).length + R.length := by rw [hP, List.length_append]
      have fin : ∀ (D' : Dsk) (ss' : List Seg), D' = dkF 1 (suresF (fu ++ [g.take q])) → ss' = sgF 1 (fu ++ [g.take q]) → ∃ gs, OpSt D' ss' (fu.flatten ++ g.take q) (fu.flatten ++ g) s gs := by
        rintro D' ss' rfl rfl
        refine ⟨fu ++ [g.take q], rfl, rfl, by simp, fun x hx => ?_, by simp; omega, ⟨g.drop q, hpre⟩, ?_⟩
        · rcases List.mem_append.1 hx with hx | hx
          · exact hne x hx
          · simp at hx; subst hx; exact hqn
        · rw [List.length_append, hql]; exact hsu
      have esn : sgF 1 fu ++ [⟨fu.length + 1, (g.take q).map (·.i)⟩] = sgF 1 (fu ++ [g.take q]) := by rw [sgF_snoc, Nat.add_comm 1]
      have efn : suresF fu ++ [sureG (catF (g.take q))] = suresF (fu ++ [g.take q]) := by simp [suresF]
      by_cases hw : (catF (g.take q)).length = P.length
      · have hRn : R = [] := List.eq_nil_of_length_eq_zero (by omega)
        have hPc : P = catF (g.take q) := by rw [hP, hRn, List.append_nil]
        have hr : readR (fu.length + 1) P ((catF (g.take q)).length, (g.take q).map (·.i), fu.flatten ++ g.take q) (dkF 1 (suresF fu ++ [sureG P])) (sgF 1 fu) = (false, dkF 1 (suresF fu ++ [sureG P]), sgF 1 fu ++ [⟨fu.length + 1, (g.take q).map (·.i)⟩]) := by
          unfold readR
          rw [if_pos ⟨hpos, hw⟩]
        rw [step _ _ _ hr]
        exact fin _ _ (by rw [hPc, efn]) esn
      · have hr : readR (fu.length + 1) P ((catF (g.take q)).length, (g.take q).map (·.i), fu.flatten ++ g.take q) (dkF 1 (suresF fu ++ [sureG P])) (sgF 1 fu) = (true, dkF 1 (suresF fu ++ [sureG (catF (g.take q))]), sgF 1 fu ++ [⟨fu.length + 1, (g.take q).map (·.i)⟩]) := by
          have hc := cut_l (suresF fu) P (catF (g.take q)) (by simp; omega) (by omega)
          rw [suresF_len] at hc
          have ht : P.take (catF (g.take q)).length = catF (g.take q) := by rw [hP, List.take_left' rfl]
          unfold readR
          rw [if_neg (fun h => hw h.2), if_pos hpos]
          simp only
          rw [ht, hc]
        rw [step _ _ _ hr]
        exact fin _ _ (by rw [efn]) esn
theorem CrSt.dg {D : Dsk} {l : List Ent} {s : Nat} (h : CrSt D l s) (hs : Seqn l) (hl : l.length ≤ 40) : Dg 100 D ∧ ∀ k ∈ namesS (fun f => f.isNow) D, ∃ n, 1 ≤ n ∧ n < 10 ∧ k = segName n := by
  obtain ⟨fu, g, rfl, h8, hg8, h⟩ := h
  have hfl := flat8 fu h8
  simp only [List.length_append] at hl
  have hnm : ∀ (fs : List Fil), fs.length < 9 → ∀ k ∈ namesS (fun f => f.isNow) (dkF 1 fs), ∃ n, 1 ≤ n ∧ n < 10 ∧ k = segName n := by
    intro fs hf k hk
    unfold namesS at hk
    rw [keysS_dk fs 1 (by omega)] at hk
    obtain ⟨j, hj, rfl⟩ := nmF_mem (List.mem_filter.1 hk).1
    exact ⟨1 + j, by omega, by omega, rfl⟩
  rcases h with ⟨rfl, hsu⟩ | ⟨q, R, rfl, hq, hR, hRl, hsu⟩
  · exact ⟨dg_dk _ (by simp; omega) (sure_small hs.left), hnm _ (by simp; omega)⟩
  · refine ⟨dg_dk _ (by simp; omega) fun f hf => ?_, hnm _ (by simp; omega)⟩
    rcases List.mem_append.1 hf with hf | hf
    · exact sure_small hs.left f hf
    · simp only [List.mem_singleton] at hf
      subst hf
      have hcl := catF_len (g.take q) (fun e he => hs.ok e (by simp [List.mem_of_mem_take he]))
      have : (g.take q).length ≤ 8 := by rw [List.length_take]; omega
      refine ⟨Nat.zero_le _, ?_⟩
      show (catF (g.take q) ++ R).length ≤ _
      rw [List.length_append]
      omega
theorem OpSt.seqn {D : Dsk} {ss : List Seg} {a l : List Ent} {s : Nat} {gs : List (List Ent)} (h : OpSt D ss a l s gs) (hs : Seqn l) : Seqn gs.flatten := by
  obtain ⟨t, ht⟩ := h.pre
  rw [ht] at hs
  have := hs.left
  rw [h.row] at this
  exact this
theorem OpSt.again {D : Dsk} {ss : List Seg} {a l : List Ent} {s : Nat} {gs : List (List Ent)} (h : OpSt D ss a l s gs) (hs : Seqn l) : openT nmT D = (D, ss, a) := by
  have hq := h.seqn hs
  have := h.len
  rw [h.disk, h.segs, h.row]
  exact open_sures gs (by omega) h.ne hq
theorem OpSt.loose {D : Dsk} {ss : List Seg} {a l : List Ent} {s : Nat} {gs : List (List Ent)} (h : OpSt D ss a l s gs) : looseS D = [] := by
  have := h.len
  rw [h.disk]
  exact loose_sures gs (by omega)
theorem OpSt.dg {D : Dsk} {ss : List Seg} {a l : List Ent} {s : Nat} {gs : List (List Ent)} (h : OpSt D ss a l s gs) (hs : Seqn l) : Dg 100 D ∧ ∀ k ∈ namesS (fun f => f.isNow) D, ∃ n, 1 ≤ n ∧ n < 10 ∧ k = segName n := by
  have := h.len
  rw [h.disk]
  refine ⟨dg_dk _ (by simp; omega) (sure_small (h.seqn hs)), fun k hk => ?_⟩
  rw [names_all _ _ 1 (by simp; omega) (sures_now gs), suresF_len] at hk
  obtain ⟨j, hj, rfl⟩ := nmF_mem hk
  exact ⟨1 + j, by omega, by omega, rfl⟩
end Go.Proofs.YtpcipfnahknngaaGreatDoor

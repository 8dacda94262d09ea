/- What frame.First tells of a row of frames, whole or torn. No statement of the seat. -/
import Derived.Test.YtpcipfnahknngaaGreatDoorRd1
namespace Go.Proofs.YtpcipfnahknngaaGreatDoor
open Go.RowKit Go.Maps

theorem takeR_app : ∀ (r z : List UInt8) (i acc : Nat) (p : Nat × Nat), takeR r i acc = some p → takeR (r ++ z) i acc = some p := by
  intro r
  induction r with
  | nil => intro z i acc p h; simp [takeR] at h
  | cons x r ih =>
    intro z i acc p h
    simp only [List.cons_append, takeR] at h ⊢
    split at h
    · cases h
    · rename_i h1
      rw [if_neg h1]
      split at h
      · rename_i h2
        rw [if_pos h2]
        exact h
      · rename_i h2
        rw [if_neg h2]
        exact ih z _ _ p h
theorem takeT_app {b : List UInt8} {at_ n nx : Nat} (z : List UInt8) (h : takeT b at_ = (n, nx, 0)) : takeT (b ++ z) at_ = (n, nx, 0) := by
  unfold takeT at h ⊢
  by_cases h1 : b.length < at_
  · rw [if_pos h1] at h
    cases h
  · rw [if_neg h1] at h
    rw [if_neg (by rw [List.length_append]; omega), List.drop_append_of_le_length (by omega)]
    cases h2 : takeR (b.drop at_) 0 0 with
    | none => rw [h2] at h; cases h
    | some p => rw [takeR_app _ z _ _ p h2]; rw [h2] at h; exact h
theorem takeTextT_app {b s : List UInt8} {at_ nx : Nat} (z : List UInt8) (h : takeTextT b at_ = (s, nx, 0)) : takeTextT (b ++ z) at_ = (s, nx, 0) := by
  unfold takeTextT at h ⊢
  cases h1 : takeT b at_ with
  | mk n p =>
    obtain ⟨nx', e⟩ := p
    rw [h1] at h
    cases e with
    | succ e => cases h
    | zero =>
      rw [takeT_app z h1]
      have h2 := (takeT_ok h1).2
      simp only at h ⊢
      by_cases hc : 4096 < n ∨ b.length - nx' < n
      · rw [if_pos hc] at h; cases h
      · rw [if_neg hc] at h
        rw [if_neg (by rw [List.length_append]; omega), List.drop_append_of_le_length h2, List.take_append_of_le_length (by rw [List.length_drop]; omega)]
        exact h
theorem firstT_app {b r : List UInt8} {m : Nat} (z : List UInt8) (h : firstT b = some (r, m)) : firstT (b ++ z) = some (r, m) := by
  obtain ⟨h1, nx, rfl, h2, h3, h4⟩ := firstT_some h
  have h5 := (takeTextT_le h2)
  unfold firstT
  have e1 : (b ++ z).head? = some 90 := by
    cases b with
    | nil => cases h1
    | cons x b => exact h1
  rw [if_pos e1, takeTextT_app z h2]
  simp only
  have e2 : ((b ++ z).drop nx).take 4 = (b.drop nx).take 4 := by
    rw [List.drop_append_of_le_length h5.2.1, List.take_append_of_le_length (by rw [List.length_drop]; omega)]
  have e3 : ((b ++ z).drop 1).take (nx - 1) = (b.drop 1).take (nx - 1) := by
    rw [List.drop_append_of_le_length (by omega), List.take_append_of_le_length (by rw [List.length_drop]; omega)]
  rw [e2, e3, if_neg]
  rw [List.length_append]
  intro hc
  rcases hc with hc | hc
  · omega
  · exact hc h4
theorem frameL_size (r : List UInt8) : (frameL r).length = 5 + (putL r.length).length + r.length := by
  simp [frameL, putText, fourN_len]
  omega
theorem firstT_frame (r : List UInt8) (hr : r.length ≤ 4096) : firstT (frameL r) = some (r, (frameL r).length) := by
  obtain ⟨p, hp⟩ : ∃ p, p = putL r.length := ⟨_, rfl⟩
  have hb : frameL r = [90] ++ (p ++ (r ++ fourN (p ++ r))) := by simp [frameL, putText, hp]
  have hlen := frameL_size r
  rw [← hp] at hlen
  have ht : takeT (frameL r) 1 = (r.length, 1 + p.length, 0) := by
    rw [hb, hp]
    exact takeT_at [90] _ r.length (by omega)
  have htt : takeTextT (frameL r) 1 = (r, 1 + p.length + r.length, 0) := by
    unfold takeTextT
    rw [ht]
    simp only
    rw [if_neg (by omega)]
    have e : ((frameL r).drop (1 + p.length)).take r.length = r := by
      have e2 : frameL r = ([90] ++ p) ++ (r ++ fourN (p ++ r)) := by rw [hb]; simp
      rw [e2, List.drop_left' (by simp; omega), List.take_left' rfl]
    rw [e]
  unfold firstT
  rw [if_pos (by rw [hb]; rfl), htt]
  simp only
  have e1 : ((frameL r).drop (1 + p.length + r.length)).take 4 = fourN (p ++ r) := by
    have e2 : frameL r = ([90] ++ (p ++ r)) ++ fourN (p ++ r) := by rw [hb]; simp
    rw [e2, List.drop_left' (by simp; omega)]
    exact List.take_of_length_le (by rw [fourN_len]; omega)
  have e3 : ((frameL r).drop 1).take (1 + p.length + r.length - 1) = p ++ r := by
    have e2 : frameL r = [90] ++ ((p ++ r) ++ fourN (p ++ r)) := by rw [hb]; simp
    rw [e2, List.drop_left' (show ([90] : List UInt8).length = 1 from rfl), List.take_left' (by simp; omega)]
  rw [e1, e3, if_neg]
  · rw [hlen]
    congr 2
    omega
  · rw [hlen]
    intro hc
    rcases hc with hc | hc
    · omega
    · exact hc rfl
/-- a frame cut short is none -/
theorem firstT_cut (r : List UInt8) (hr : r.length ≤ 4096) (n : Nat) (hn : n < (frameL r).length) : firstT ((frameL r).take n) = none := by
  cases h : firstT ((frameL r).take n) with
  | none => rfl
  | some p =>
    obtain ⟨s, m⟩ := p
    have h1 := firstT_app ((frameL r).drop n) h
    rw [List.take_append_drop, firstT_frame r hr] at h1
    have h2 := (firstT_le h).2.1
    rw [List.length_take] at h2
    cases h1
    omega
theorem firstT_nil : firstT [] = none := rfl

/-- an entry as this law's logs have it -/
def Okx (e : Ent) : Prop := e.ok ∧ e.i ≠ 0 ∧ e.b.length ≤ 60
def frE (e : Ent) : List UInt8 := frameL (recL e)
def catF (es : List Ent) : List UInt8 := (es.map frE).flatten
theorem recL_len (e : Ent) (h : Okx e) : (recL e).length ≤ 90 := by
  obtain ⟨⟨h1, h2, _⟩, _, h3⟩ := h
  have a := putL_len e.i h1
  have b := putL_len e.t h2
  have c := putL_len e.b.length (by omega)
  simp [recL, putText]
  omega
theorem frE_len (e : Ent) (h : Okx e) : 5 < (frE e).length ∧ (frE e).length ≤ 105 := by
  have h1 := recL_len e h
  have h2 := putL_len (recL e).length (by omega)
  have h3 := firstT_le (firstT_frame (recL e) (by omega))
  unfold frE
  have h4 := frameL_size (recL e)
  exact ⟨h3.1, by omega⟩
@[simp] theorem catF_nil : catF [] = [] := rfl
@[simp] theorem catF_cons (e : Ent) (es : List Ent) : catF (e :: es) = frE e ++ catF es := rfl
@[simp] theorem catF_append (a b : List Ent) : catF (a ++ b) = catF a ++ catF b := by simp [catF]
theorem catF_len (es : List Ent) (h : ∀ e ∈ es, Okx e) : (catF es).length ≤ es.length * 105 := by
  induction es with
  | nil => simp
  | cons e es ih =>
    have h1 := frE_len e (h e List.mem_cons_self)
    have h2 := ih fun x hx => h x (List.mem_cons_of_mem _ hx)
    simp only [catF_cons, List.length_append, List.length_cons]
    omega
theorem catF_pos (es : List Ent) (h : ∀ e ∈ es, Okx e) (h0 : es ≠ []) : 0 < (catF es).length := by
  cases es with
  | nil => exact absurd rfl h0
  | cons e es =>
    have h1 := frE_len e (h e List.mem_cons_self)
    simp only [catF_cons, List.length_append]
    omega
/-- the first n bytes of a row of frames: whole frames, and no frame -/
theorem take_cat (es : List Ent) (h : ∀ e ∈ es, Okx e) (n : Nat) : ∃ q R, q ≤ es.length ∧ (catF es).take n = catF (es.take q) ++ R ∧ firstT R = none := by
  induction es generalizing n with
  | nil => exact ⟨0, [], Nat.le_refl _, by simp, firstT_nil⟩
  | cons e es ih =>
    have h1 := recL_len e (h e List.mem_cons_self)
    by_cases hn : n < (frE e).length
    · refine ⟨0, (frE e).take n, Nat.zero_le _, ?_, firstT_cut _ (by omega) n hn⟩
      rw [catF_cons, List.take_append_of_le_length (by omega)]
      rfl
    · obtain ⟨q, R, hq, he, hR⟩ := ih (fun x hx => h x (List.mem_cons_of_mem _ hx)) (n - (frE e).length)
      refine ⟨q + 1, R, by simpa using hq, ?_, hR⟩
      rw [catF_cons, List.take_append, List.take_of_length_le (by omega), he, List.take_succ_cons, catF_cons, List.append_assoc]

/-- entries one behind the other -/
def Seqn (l : List Ent) : Prop := l.length ≤ 1000 ∧ ∀ j (h : j < l.length), (l[j]).i = j + 1 ∧ Okx l[j]
theorem Seqn.left {a b : List Ent} (h : Seqn (a ++ b)) : Seqn a := by
  refine ⟨by have := h.1; simp at this; omega, fun j hj => ?_⟩
  have := h.2 j (by simp; omega)
  rw [List.getElem_append_left hj] at this
  exact this
theorem Seqn.ok {l : List Ent} (h : Seqn l) : ∀ e ∈ l, Okx e := fun e he => by
  obtain ⟨j, hj, rfl⟩ := List.getElem_of_mem he
  exact (h.2 j hj).2
theorem Seqn.last {l : List Ent} {e : Ent} (h : Seqn (l ++ [e])) : e.i = l.length + 1 := by
  have := (h.2 l.length (by simp)).1
  simpa using this
theorem Seqn.fits {l : List Ent} {e : Ent} (h : Seqn (l ++ [e])) : fitsT l e = true := by
  have h1 := h.last
  have h2 := h.1
  simp only [List.length_append, List.length_singleton] at h2
  unfold fitsT
  cases hl : l.getLast? with
  | none => simp; omega
  | some y =>
    rw [List.getLast?_eq_getElem?] at hl
    obtain ⟨hj, rfl⟩ := List.getElem?_eq_some_iff.1 hl
    have h3 := (h.left.2 _ hj).1
    simp
    omega
theorem Seqn.put {l : List Ent} {e : Ent} (h : Seqn (l ++ [e])) : putE l e = l ++ [e] := by
  unfold putE
  rw [idxN_all l e.i, List.take_length]
  intro k hk
  have := (h.left.2 k hk).1
  have := h.last
  omega
/-- what reading a segment's bytes brings -/
theorem scanT_cat (es : List Ent) (R : List UInt8) (hR : firstT R = none) : ∀ (pre : List UInt8) (at_ : List Nat) (l : List Ent), Seqn (l ++ es) →
    scanT (pre ++ (catF es ++ R)) pre.length at_ l = (pre.length + (catF es).length, at_ ++ es.map (·.i), l ++ es) := by
  induction es with
  | nil =>
    intro pre at_ l hs
    rw [scanT_none (by rw [List.drop_left' rfl]; simpa using hR)]
    simp
  | cons e es ih =>
    intro pre at_ l hs
    have hs' : Seqn ((l ++ [e]) ++ es) := by simpa using hs
    have hk := hs.ok e (by simp)
    have h1 := recL_len e hk
    have hf : firstT ((pre ++ (catF (e :: es) ++ R)).drop pre.length) = some (recL e, (frE e).length) := by
      rw [List.drop_left' rfl, catF_cons, List.append_assoc]
      exact firstT_app _ (firstT_frame _ (by omega))
    rw [scanT_yes hf (parseT_recL e hk.1 hk.2.1 (by have := hk.2.2; omega)) hs'.left.fits, hs'.left.put]
    have := ih (pre ++ frE e) (at_ ++ [e.i]) (l ++ [e]) hs'
    have e1 : pre ++ (catF (e :: es) ++ R) = (pre ++ frE e) ++ (catF es ++ R) := by simp
    rw [e1]
    rw [List.length_append] at this
    rw [this]
    simp [Nat.add_assoc]
end Go.Proofs.YtpcipfnahknngaaGreatDoor

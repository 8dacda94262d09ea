/- wal.read behind its loop: what holds there. No statement of the seat. -/
import Derived.Test.YtpcipfnahknngaaGreatDoorRd3
import Derived.Test.YtpcipfnahknngaaGreatDoorWr3
namespace Go.Proofs.YtpcipfnahknngaaGreatDoor
open Go.RowKit Go.Maps

/-- what reading a segment does: cut?, the disk, the segments; R: what its records bring -/
def readR (n : Nat) (b : List UInt8) (R : Nat × List Nat × List Ent) (D : List (List UInt8 × Fil)) (ss : List Seg) : Bool × List (List UInt8 × Fil) × List Seg :=
  if 0 < R.1 ∧ R.1 = b.length then (false, D, ss ++ [⟨n, R.2.1⟩])
  else if 0 < R.1 then (true, syncD (segName n) (replaceD (segName n) (b.take R.1) D), ss ++ [⟨n, R.2.1⟩])
  else (true, syncD (segName n) (removeD (segName n) D), ss)

theorem SgU.snoc {n0 : Nat} {W w' : World} {v u : Value} {ss : List Seg} {us : List Value} {s : Seg} {g c : Nat} (h : SgU n0 W v ss us) (hu : W.ownsRow n0 22 1 u s.at_.length (nv s.at_))
    (hnew : ∀ (k : Nat) (u' : Value) (g : Nat), us[k]? = some u' → u'.ownBlock = some g → u.ownBlock ≠ some g)
    (ho : w'.ownsRow n0 81 2 (.slice (some ⟨g, 0, none⟩) (ss.length + 1) c) (ss.length + 1) (sgCells ss us ++ [.int .i64 s.n, u])) (hg : W.grownBy w' v.ownBlock) :
    SgU n0 w' (.slice (some ⟨g, 0, none⟩) (ss.length + 1) c) (ss ++ [s]) (us ++ [u]) := by
  obtain ⟨h1, h2, h3, h4⟩ := h
  have f : Fr (fun e => e = 81) W w' := Fr.grown hg (Ty.of_own h2) rfl
  have hl : (ss ++ [s]).length = ss.length + 1 := by simp
  refine ⟨by simp [h1], ?_, fun k hk u' hu' => ?_, fun j k u1 u2 x hj hk hx hx' => ?_⟩
  · rw [hl, sgCells_app ss us h1]
    exact ho
  · rw [hl] at hk
    by_cases hk2 : k < ss.length
    · rw [List.getElem?_append_left (by omega)] at hu'
      rw [List.getElem_append_left hk2]
      exact own_fr (h3 k hk2 u' hu') f (by decide)
    · have hk3 : k = ss.length := by omega
      subst hk3
      rw [List.getElem?_append_right (by omega), h1, Nat.sub_self] at hu'
      cases hu'
      simp only [List.getElem_append_right (Nat.le_refl _), Nat.sub_self, List.getElem_singleton]
      exact own_fr hu f (by decide)
  · have key : ∀ (i : Nat) (y : Value), (us ++ [u])[i]? = some y → (us[i]? = some y) ∨ (i = us.length ∧ y = u) := by
      intro i y hi
      by_cases hi2 : i < us.length
      · rw [List.getElem?_append_left hi2] at hi; exact Or.inl hi
      · rw [List.getElem?_append_right (by omega)] at hi
        have h0 : i - us.length = 0 := by
          have := (List.getElem?_eq_some_iff.1 hi).1
          simp at this; omega
        rw [h0] at hi
        cases hi
        exact Or.inr ⟨by omega, rfl⟩
    rcases key j u1 hj with h5 | ⟨h5, h7⟩ <;> rcases key k u2 hk with h6 | ⟨h6, h8⟩
    · exact h4 j k u1 u2 x h5 h6 hx hx'
    · rw [h8] at hx'
      exact absurd hx' (hnew j u1 x h5 hx)
    · rw [h7] at hx
      exact absurd hx (hnew k u2 x h6 hx')
    · rw [h5, h6]

/-- behind read's loop; Dd: the block of the rounds' deferred calls -/
structure Tl (n0 q d mb Dd gw gb gs gg n : Nat) (v : Value) (b : List UInt8) (k : Nat) (u : Value) (l : List Ent) (la : Option Addr) (lc : Nat) (ss : List Seg) (us : List Value) (sa : Option Addr) (sc : Nat) (D : List (List UInt8 × Fil)) (w0 W : World) : Prop where
  bq : Box W q 37 #[.pointer (some ⟨d, 0, none⟩), .slice sa ss.length sc, .slice la l.length lc]
  bw : Box W gw 32 #[.pointer (some ⟨q, 0, none⟩)]
  bb : Box W gb 23 #[v]
  bs : Box W gs 81 #[.int .i64 n, u]
  bg : Box W gg 3 #[.int .i64 k]
  hb : BtT W v b
  es : Es W (.slice la l.length lc) l
  sg : SgU n0 W (.slice sa ss.length sc) ss us
  dp : Dp W d mb D
  tab : PowTab W
  df : W.heap[Dd]? = some (.deferred (some []))
  fr : Fr walT w0 W
  lo : Lo n0 mb w0 W
section
variable {n0 q d mb Dd gw gb gs gg n : Nat} {v : Value} {b : List UInt8} {k : Nat} {u : Value} {l : List Ent} {la : Option Addr} {lc : Nat} {ss : List Seg} {us : List Value} {sa : Option Addr} {sc : Nat} {D D' : List (List UInt8 × Fil)} {w0 W W' : World}
theorem Tl.dne (h : Tl n0 q d mb Dd gw gb gs gg n v b k u l la lc ss us sa sc D w0 W) : Dd ≠ mb := fun e => by
  obtain ⟨es, c, hm⟩ := h.dp.map
  have := h.df
  rw [e, hm] at this
  cases this
/-- behind a write to the disk -/
theorem Tl.fm (h : Tl n0 q d mb Dd gw gb gs gg n v b k u l la lc ss us sa sc D w0 W) (hf : Fm mb W W') (hd : Dp W' d mb D') (hm : LowM n0 mb) : Tl n0 q d mb Dd gw gb gs gg n v b k u l la lc ss us sa sc D' w0 W' :=
  ⟨h.bq.fr hf.fr id, h.bw.fr hf.fr id, h.bb.fr hf.fr id, h.bs.fr hf.fr id, h.bg.fr hf.fr id, h.hb.fr hf.fr id, h.es.fr hf.fr id id, h.sg.fr hf.fr id id, hd, h.tab.fr hf.fr,
    (hf.gr.block Dd (lt_of_get h.df) fun e => h.dne (by cases e; rfl)).trans h.df, h.fr.trans (hf.fr.mono fun _ => False.elim), h.lo.trans (hf.lo hm)⟩
theorem Tl.below (h : Tl n0 q d mb Dd gw gb gs gg n v b k u l la lc ss us sa sc D w0 W) (hb : Below W.heap.size W W') (hm : LowM n0 mb) : Tl n0 q d mb Dd gw gb gs gg n v b k u l la lc ss us sa sc D w0 W' :=
  h.fm (Fm.of_below hb (Nat.le_refl _)) (h.dp.below hb (Nat.le_refl _)) hm
/-- behind the new segment's row and its store -/
theorem Tl.seg {g c : Nat} {at_ : List Nat} (h : Tl n0 q d mb Dd gw gb gs gg n v b k u l la lc ss us sa sc D w0 W) (hn2 : 2 < n0) (hq : n0 ≤ q) (hu : W.ownsRow n0 22 1 u at_.length (nv at_))
    (hnew : ∀ (k : Nat) (u' : Value) (g : Nat), us[k]? = some u' → u'.ownBlock = some g → u.ownBlock ≠ some g)
    (ho : W'.ownsRow n0 81 2 (.slice (some ⟨g, 0, none⟩) (ss.length + 1) c) (ss.length + 1) (sgCells ss us ++ [.int .i64 n, u])) (hg : W.grownBy W' (Value.slice sa ss.length sc).ownBlock)
    (hgs : (Value.slice sa ss.length sc).ownBlock ≠ some gs) :
    Tl n0 q d mb Dd gw gb gs gg n v b k u l la lc (ss ++ [⟨n, at_⟩]) (us ++ [u]) (some ⟨g, 0, none⟩) c D w0 (W'.setCell ⟨q, 1, none⟩ (.slice (some ⟨g, 0, none⟩) (ss.length + 1) c)) := by
  have hT := Ty.of_own h.sg.2.1
  have f6 : Fr (fun e => e = 81) W W' := Fr.grown hg hT rfl
  have q6 := h.bq.fr f6 (by decide)
  have f7 := box_fr q6 1 (.slice (some ⟨g, 0, none⟩) (ss.length + 1) c)
  have sn := SgU.snoc (s := ⟨n, at_⟩) h.sg hu hnew ho hg
  have hl : (ss ++ [(⟨n, at_⟩ : Seg)]).length = ss.length + 1 := by simp
  have bs6 : Box W' gs 81 #[.int .i64 n, u] := (hg.block gs (lt_of_get h.bs) fun e => hgs e.symm).trans h.bs
  have f8 : Fr walT W (W'.setCell ⟨q, 1, none⟩ (.slice (some ⟨g, 0, none⟩) (ss.length + 1) c)) := (f6.mono fun e h => Or.inr (Or.inl h)).trans (f7.mono fun e h => Or.inl h)
  have lo8 : Lo n0 mb W (W'.setCell ⟨q, 1, none⟩ (.slice (some ⟨g, 0, none⟩) (ss.length + 1) c)) := (Lo.grown hg h.sg.2.1).setCell _ _ hq
  have other : ∀ (x : Nat) (o : Obj), W.heap[x]? = some o → o.isCells = false → (W'.setCell ⟨q, 1, none⟩ (.slice (some ⟨g, 0, none⟩) (ss.length + 1) c)).heap[x]? = W.heap[x]? := by
    intro x o hx ho
    have e1 : W'.heap[x]? = W.heap[x]? := hg.block x (lt_of_get hx) fun e => by
      obtain ⟨cur, fz, h2⟩ := hT x e.symm
      rw [hx] at h2
      cases h2
      cases ho
    have hne : x ≠ q := fun e => by
      have h6 := h.bq
      unfold Box at h6
      rw [← e, hx] at h6
      cases h6
      cases ho
    exact (Below.heap_setCell _ _ _ _ hne).trans e1
  obtain ⟨es, cc, hm⟩ := h.dp.map
  refine ⟨?_, (h.bw.fr f6 (by decide)).fr f7 (by decide), (h.bb.fr f6 (by decide)).fr f7 (by decide), bs6.fr f7 (by decide), (h.bg.fr f6 (by decide)).fr f7 (by decide), (h.hb.fr f6 (by decide)).fr f7 (by decide), (h.es.fr f6 (by decide) (by decide)).fr f7 (by decide) (by decide), ?_, ?_, h.tab.lo lo8 hn2, (other Dd _ h.df rfl).trans h.df, h.fr.trans f8, h.lo.trans lo8⟩
  · rw [hl]; exact q6.set 1 _
  · rw [hl]; exact sn.fr f7 (by decide) (by decide)
  · exact h.dp.fr f8 (by unfold walT; decide) (by unfold walT; decide) (by unfold walT; decide) (other mb _ hm rfl)
/-- the log, when the deferred calls' block is shut -/
theorem Tl.wl (h : Tl n0 q d mb Dd gw gb gs gg n v b k u l la lc ss us sa sc D w0 W) (hq : n0 ≤ q) (hm : LowM n0 mb) (hD : n0 ≤ Dd) (o : Obj) :
    Fr walT w0 (W.putObj Dd o) ∧ Lo n0 mb w0 (W.putObj Dd o) ∧ WlE n0 (W.putObj Dd o) q d mb D ss l := by
  have hg := grownBy_putObj' W Dd o
  have hr : ∀ x, some Dd = some x → ∃ o : Obj, W.heap[x]? = some o ∧ o.isCells = false := fun x e => by cases e; exact ⟨_, h.df, rfl⟩
  have f : Fr noTypes W (W.putObj Dd o) := Fr.of_own hg hr
  refine ⟨h.fr.trans (f.mono fun _ => False.elim), h.lo.trans (Lo.of_all f.size fun g hg2 hs => hg.block g hs fun e => by cases e; omega), sa, sc, la, lc, h.bq.fr f id, ?_, hq, hm, ⟨us, h.sg.fr f id id⟩, h.es.fr f id id⟩
  exact h.dp.fr f id id id (hg.block mb h.dp.2.lt fun e => h.dne (by cases e; rfl))
end

/-- a row of segments grows by a segment, at a step of a region that draws -/
theorem step_seg2 {ops : Array Oper} {o : Oper} {a : Act} {w : World} {K : Act → World → Prop} {Q : Exit → Act → World → Prop} {E : Prop} (hgd : o.guard = none) (s x : Operand)
    (ho : o.op = .call { callee := .builtin .append, args := #[s, x], argTypes := #[34, 34] }) (n0 : Nat) (ss : List Seg) (us : List Value) (sa : Option Addr) (sc gx n : Nat) (u : Value) (hu : u.oneCell' = true) (w4 : World) (hf : Below w4.heap.size w4 w)
    (hs : a.eval s = .slice sa ss.length sc) (hown4 : w4.ownsRow n0 81 2 (.slice sa ss.length sc) ss.length (sgCells ss us)) (hx : a.eval x = .slice (some ⟨gx, 0, none⟩) 1 1) (hb : Box w gx 81 #[.int .i64 n, u])
    (hlen : ss.length < 2000000000) (hbase : n0 ≤ w.heap.size)
    (h : ∀ W g cap w', Below w4.heap.size w4 W → w'.ownsRow n0 81 2 (.slice (some ⟨g, 0, none⟩) (ss.length + 1) cap) (ss.length + 1) (sgCells ss us ++ [.int .i64 n, u]) → W.grownBy w' (Value.slice sa ss.length sc).ownBlock → K (a.put o.dst (.slice (some ⟨g, 0, none⟩) (ss.length + 1) cap)) w') :
    if Region.wanted o (yielded ops a.tmps) = true then Oper.wp Tryz.prog o a w K Q else E := by
  obtain ⟨i0, hi, hz0, hz1, hz2⟩ := info_parts info81
  have hown := own_fr hown4 (Fr.of_below (M := noTypes) hf (Nat.le_refl _)) id
  refine step_append_lies w hgd s x 34 ho n0 81 i0 (.agg #[.int .i64 0, .slice none 0 0]) 2 32 Tryz.underlying34 hi hz0 hz1 hz2 rfl (by decide) _ ss.length _ hs hown ⟨gx, 0, none⟩ 1 1 [.int .i64 n, u] hx rfl (World.news_of_block (cs := #[.int .i64 n, u]) hb) (fun y hy => by
      simp only [List.mem_cons, List.not_mem_nil, or_false] at hy
      rcases hy with rfl | rfl
      · rfl
      · exact hu) (by decide) (by unfold maxLen; omega) (by omega) hbase _ rfl
    fun g cap w' h1 h2 _ _ => h w g cap w' hf h1 h2

/-- the code from a region on, be it the first of a statement -/
def startsAt2 (k : Nat) : Code → Bool
  | .region j _ _ => j == k
  | .seq a _ => startsAt2 k a
  | .block _ c => startsAt2 k c
  | .loop c => startsAt2 k c
  | .scope c => startsAt2 k c
  | _ => false
def fromStart2 (k : Nat) : Code → Option Code
  | .seq a b => if startsAt2 k a then some (.seq a b) else match fromStart2 k a with
    | some c => some c
    | none => fromStart2 k b
  | .cond _ a b => match fromStart2 k a with
    | some c => some c
    | none => fromStart2 k b
  | .loop c => fromStart2 k c
  | .block _ c => fromStart2 k c
  | .scope c => fromStart2 k c
  | _ => none
noncomputable def tail47C : Code := ((Tryz.f47.body.bind (fromStart2 12)).getD .skip)
end Go.Proofs.YtpcipfnahknngaaGreatDoor

/- Contract of disk.put. No statement of the seat. -/
import Derived.Test.YtpcipfnahknngaaGreatDoorDisk2
import Derived.Deep.RegionWith
import Derived.Deep.DeepMust
namespace Go.Proofs.YtpcipfnahknngaaGreatDoor
open Go.RowKit Go.Maps

theorem info108 : (Tryz.prog.info? 108).map (fun i => (i.zero, i.size, i.bytes)) = some (some (.agg #[.bool false, .bool false, .slice none 0 0]), 3, 32) := by kernel_rfl

set_option maxRecDepth 100000 in
set_option maxHeartbeats 800000 in
theorem clip98 (ao : Option Addr) (n cap : Nat) (w : World) (h1 : n ≤ cap) (h2 : cap ≤ maxLen) : Calls Tryz.prog 98 #[.slice ao n cap] w fun e w' => e = .returned (.slice ao n n) ∧ w' = w := by
  have _h2 := h2
  unfold maxLen at _h2
  by_cases h0 : n = 0
  · subst h0
    go_enter Tryz.func98, Tryz.ntmps98
    go_wp2
    go_ret
    exact ⟨rfl, rfl⟩
  · have h0' : 0 < n := by omega
    go_enter Tryz.func98, Tryz.ntmps98
    go_wp2
    go_ret
    exact ⟨rfl, rfl⟩

theorem below_grown {w w' : World} (h : w.grownBy w' none) : Below w.heap.size w w' := ⟨h.os, h.tape, h.output, h.size, fun i hi => h.block i hi (by simp)⟩

theorem chCells_len (cs : List Chg) (us : List Value) (h : us.length = cs.length) : (chCells cs us).length = cs.length * 3 := by
  induction cs generalizing us with
  | nil => cases us <;> rfl
  | cons c cs ih =>
    cases us with
    | nil => simp at h
    | cons u us =>
      have := ih us (by simpa using h)
      simp only [chCells, List.length_cons, this]
      omega
theorem chCells_app (cs : List Chg) (us : List Value) (h : us.length = cs.length) (c : Chg) (u : Value) : chCells (cs ++ [c]) (us ++ [u]) = chCells cs us ++ [.bool c.whole, .bool c.gone, u] := by
  induction cs generalizing us with
  | nil => cases us with
    | nil => rfl
    | cons _ _ => simp at h
  | cons d cs ih =>
    cases us with
    | nil => simp at h
    | cons u us =>
      have := ih us (by simpa using h)
      simp only [List.cons_append, chCells, this]
theorem chCells_one (cs : List Chg) (us : List Value) (h : us.length = cs.length) (hu : ∀ u ∈ us, u.oneCell' = true) : ∀ x ∈ chCells cs us, x.oneCell' = true := by
  induction cs generalizing us with
  | nil => intro x hx; cases us <;> simp [chCells] at hx
  | cons d cs ih =>
    cases us with
    | nil => simp at h
    | cons u us =>
      intro x hx
      simp only [chCells, List.mem_cons] at hx
      rcases hx with rfl | rfl | rfl | hx
      · rfl
      · rfl
      · exact hu _ (by simp)
      · exact ih us (by simpa using h) (fun y hy => hu y (by simp [hy])) x hx
theorem Ty.of_own {w : World} {B : Nat} {e : TypeId} {sz : Nat} {v : Value} {n : Nat} {xs : List Value} (h : w.ownsRow B e sz v n xs) : Ty e w v := by
  intro g hg
  rcases h.2 with ⟨rfl, _⟩ | ⟨g', cap, cur, rfl, _, hh, _⟩
  · cases hg
  · cases hg
    exact ⟨cur, _, hh⟩
theorem Bt.slice {w : World} {v : Value} {l : List UInt8} (h : Bt w v l) : v.oneCell' = true := by
  obtain ⟨_, _, ao, cap, rfl, _⟩ := h
  rfl

theorem FilT.loose_cap {w : World} {f : Fil} {a b c d : Value} {la : Option Addr} {n lc : Nat} (h : FilT w (.agg #[a, b, c, d, .slice la n lc]) f) : n ≤ lc ∧ lc ≤ maxLen := by
  obtain ⟨sa, sc, na, nc, la, lc, hv, h1, h2, us, u1, ⟨s1, s2, ao, cap, hv2, s3, s4, s6, s5⟩, u3, u4⟩ := h
  cases hv2
  simp only [Value.agg.injEq, Array.mk.injEq, List.cons.injEq, Value.slice.injEq, and_true] at hv
  obtain ⟨_, _, _, _, _, rfl, rfl⟩ := hv
  exact ⟨s3, s4⟩

theorem box5 (g : Nat) {w w2 : World} {a b c d e : Value} {t : TypeId} {B : Nat} (h : Below B (w.alloc (.cells #[a, b, c, d, e] t)) w2) (hg : g = w.heap.size) (hB : w.heap.size < B) :
    w2.cell? ⟨g, 0, none⟩ = some a ∧ w2.cell? ⟨g, 1, none⟩ = some b ∧ w2.cell? ⟨g, 2, none⟩ = some c ∧ w2.cell? ⟨g, 3, none⟩ = some d ∧ w2.cell? ⟨g, 4, none⟩ = some e ∧ (∀ j, w2.frozen? ⟨g, j, none⟩ = false) := by
  subst hg
  refine ⟨?_, ?_, ?_, ?_, ?_, fun j => ?_⟩
  · rw [h.cell (p := ⟨w.heap.size, 0, none⟩) hB, World.cell?_alloc_at _ _ _ _ rfl]; rfl
  · rw [h.cell (p := ⟨w.heap.size, 1, none⟩) hB, World.cell?_alloc_at _ _ _ _ rfl]; rfl
  · rw [h.cell (p := ⟨w.heap.size, 2, none⟩) hB, World.cell?_alloc_at _ _ _ _ rfl]; rfl
  · rw [h.cell (p := ⟨w.heap.size, 3, none⟩) hB, World.cell?_alloc_at _ _ _ _ rfl]; rfl
  · rw [h.cell (p := ⟨w.heap.size, 4, none⟩) hB, World.cell?_alloc_at _ _ _ _ rfl]; rfl
  · rw [h.frozen (p := ⟨w.heap.size, j, none⟩) hB]; exact World.frozen?_alloc_at _ _ _ _ rfl

theorem cells3 (g : Nat) {w w2 : World} {a b c : Value} {t : TypeId} {B : Nat} (h : Below B (w.alloc (.cells #[a, b, c] t)) w2) (hg : g = w.heap.size) (hB : w.heap.size < B) :
    w2.cell? ⟨g, 0, none⟩ = some a ∧ w2.cell? ⟨g, 1, none⟩ = some b ∧ w2.cell? ⟨g, 2, none⟩ = some c ∧ (∀ j, w2.frozen? ⟨g, j, none⟩ = false) := by
  subst hg
  refine ⟨?_, ?_, ?_, fun j => ?_⟩
  · rw [h.cell (p := ⟨w.heap.size, 0, none⟩) hB, World.cell?_alloc_at _ _ _ _ rfl]; rfl
  · rw [h.cell (p := ⟨w.heap.size, 1, none⟩) hB, World.cell?_alloc_at _ _ _ _ rfl]; rfl
  · rw [h.cell (p := ⟨w.heap.size, 2, none⟩) hB, World.cell?_alloc_at _ _ _ _ rfl]; rfl
  · rw [h.frozen (p := ⟨w.heap.size, j, none⟩) hB]; exact World.frozen?_alloc_at _ _ _ _ rfl

theorem blk_new {w w2 : World} {B : Nat} {xs : Array Value} {t : TypeId} (g : Nat) (h : Below B (w.alloc (.cells xs t)) w2) (hg : g = w.heap.size) (hB : w.heap.size < B) : ∃ cur fz, w2.heap[g]? = some (Obj.cells cur t fz) := by
  subst hg
  refine ⟨xs, (0, 0), (h.block _ hB).trans (heap_alloc_new w _)⟩

theorem step_ch {ops : Array Oper} {o : Oper} {a : Act} {w : World} {K : Act → World → Prop} {Q : Exit → Act → World → Prop} {E : Prop}
    (hg : o.guard = none) (s x : Operand) (hop : o.op = Op.call { callee := Callee.builtin Builtin.append, args := #[s, x], argTypes := #[104, 104] })
    (la : Option Addr) (lc : Nat) (cs : List Chg) (c : Chg) (u : Value) (g : Nat) (hs : a.eval s = .slice la cs.length cs.length) (hx : a.eval x = .slice (some ⟨g, 0, none⟩) 1 1)
    (hT : ChT w (.slice la cs.length lc) cs) (x0 : w.cell? ⟨g, 0, none⟩ = some (.bool c.whole)) (x1 : w.cell? ⟨g, 1, none⟩ = some (.bool c.gone)) (x2 : w.cell? ⟨g, 2, none⟩ = some u) (hu : BtT w u c.b)
    (hl : cs.length < 1000000000000)
    (hK : ∀ la' lc' w', ChT w' (.slice la' (cs ++ [c]).length lc') (cs ++ [c]) → Below w.heap.size w w' → K (a.put o.dst (.slice la' (cs ++ [c]).length lc')) w') :
    if Region.wanted o (yielded ops a.tmps) = true then Oper.wp Tryz.prog o a w K Q else E := by
  obtain ⟨us, u1, ⟨s1, s2, ao, cap, hv, s3, s4, s6, s5⟩, u3, u4⟩ := hT
  cases hv
  obtain ⟨i0, hi, hz0, hz1, hz2⟩ := info_parts info108
  have hone := hu.1.slice
  refine step_append_grows hg s x 104 hop 108 i0 _ 3 32 Tryz.underlying104 hi hz0 hz1 hz2 rfl (by decide) la cs.length cs.length (chCells cs us) hs ?_ s1 ?_ ⟨g, 0, none⟩ 1 1
    [.bool c.whole, .bool c.gone, u] hx rfl ?_ ?_ (by omega) (by unfold maxLen; omega) (by omega) ?_
  · intro h
    have := s6 h
    omega
  · intro b hb j v hj
    rcases s5 with s5 | ⟨g', off, rfl, s5⟩
    · have : (chCells cs us) = [] := List.eq_nil_of_length_eq_zero (by rw [s1, s5])
      rw [this] at hj; simp at hj
    · cases hb
      have h2 := s5 j v hj
      unfold Addr.add
      split
      · rename_i h3; subst h3; exact h2
      · exact h2
  · intro j v hj
    match j, hj with
    | 0, hj => cases hj; exact x0
    | 1, hj => cases hj; exact x1
    | 2, hj => cases hj; exact x2
  · intro v hv
    simp only [List.mem_cons, List.not_mem_nil, or_false] at hv
    rcases hv with rfl | rfl | rfl
    · rfl
    · rfl
    · exact hone
  · intro v' w' hown hgrow
    have hb := below_grown hgrow
    have hT := Ty.of_own hown
    rw [← chCells_app cs us u1 c u] at hown
    have hlen : cs.length + 1 = (cs ++ [c]).length := by simp
    rw [hlen] at hown
    have hS : Sl w' 3 v' (cs ++ [c]).length (chCells (cs ++ [c]) (us ++ [u])) := Sl.of_own hown (by
      rw [chCells_app cs us u1 c u]
      intro y hy
      rcases List.mem_append.1 hy with hy | hy
      · exact s2 y hy
      · simp only [List.mem_cons, List.not_mem_nil, or_false] at hy
        rcases hy with rfl | rfl | rfl
        · rfl
        · rfl
        · exact hone)
    obtain ⟨la', lc', hv⟩ := own_shape hown
    subst hv
    refine hK la' lc' w' ⟨us ++ [u], by simp [u1], Sl.of_own hown ?_, hT, ?_⟩ hb
    · exact hS.2.1
    · have hfr : Fr noTypes w w' := Fr.of_below hb (Nat.le_refl _)
      intro k hk
      by_cases hk2 : k < cs.length
      · obtain ⟨y, y1, y2⟩ := u4 k hk2
        refine ⟨y, ?_, ?_⟩
        · rw [List.getElem?_append_left (by omega)]; exact y1
        · rw [List.getElem_append_left hk2]; exact y2.fr hfr id
      · have hk3 : k = cs.length := by simp at hk; omega
        subst hk3
        refine ⟨u, ?_, ?_⟩
        · rw [List.getElem?_append_right (by omega), u1]; simp
        · rw [List.getElem_append_right (by omega)]; simp; exact hu.fr hfr id

/-- the end of put: the loose changes are stored in the box q, the box in the map -/
theorem put_end {w w2 : World} {d mb q : Nat} {D : List (List UInt8 × Fil)} (k : List UInt8) (f : Fil) (h : Dp w d mb D) (hB : Below w.heap.size w w2) (hq : w.heap.size ≤ q) (hty : ∃ cur fz, w2.heap[q]? = some (Obj.cells cur 106 fz))
    (hk : k.length ≤ maxLen) (hn : D.length < maxLen) (sa na la : Option Addr) (sc nc lc : Nat)
    (h1 : BtT w2 (.slice sa f.sure.length sc) f.sure) (h2 : BtT w2 (.slice na f.now.length nc) f.now) (h3 : ChT w2 (.slice la f.loose.length lc) f.loose) :
    ∃ w4, (Instr.mapUpdate 89 (.map (some mb)) (.string (tx k)) (.agg #[.slice sa f.sure.length sc, .slice na f.now.length nc, .bool f.isSure, .bool f.isNow, .slice la f.loose.length lc])).run Tryz.prog (w2.setCell ⟨q, 4, none⟩ (.slice la f.loose.length lc)).drew = .ok () w4 ∧
      Dp w4 d mb (putK k f D) ∧ Fm mb w w4 := by
  have hd : d < w.heap.size := by
    obtain ⟨⟨fz, hd⟩, _⟩ := h
    exact lt_of_get hd
  have hB3 : Below w.heap.size w (w2.setCell ⟨q, 4, none⟩ (.slice la f.loose.length lc)).drew := (hB.setCell (p := ⟨q, 4, none⟩) hq _).drew
  have hf3 : Fr (fun e => e = 106) w2 (w2.setCell ⟨q, 4, none⟩ (.slice la f.loose.length lc)).drew :=
    (Fr.setCell (Fr.refl _ w2) _ (fun cur e fz hh => by
      obtain ⟨c2, f2, hty⟩ := hty
      have : w2.heap[q]? = some (Obj.cells cur e fz) := hh
      rw [hty] at this
      cases this; rfl)).trans (Fr.of_below ((Below.refl _ _).drew) (Nat.le_refl _))
  have hD := h.below hB3 (Nat.le_refl _)
  obtain ⟨w4, hrun, hD4, hturn⟩ := set_run _ mb D hD.2 k hk _ f ⟨sa, sc, na, nc, la, lc, rfl, h1.fr hf3 (by decide), h2.fr hf3 (by decide), h3.fr hf3 (by decide) (by decide)⟩ hn
  exact ⟨w4, hrun, hD.turned hturn hD4 (Fm.of_below hB3 (Nat.le_refl _))⟩

/-- a file behind a change -/
def chgF (f : Fil) (c : Chg) : Fil :=
  { f with now := if c.gone then [] else if c.whole then c.b else f.now ++ c.b, isNow := !c.gone, loose := f.loose ++ [c] }

set_option maxRecDepth 100000 in
set_option maxHeartbeats 3200000 in
theorem put74_gone (d mb : Nat) (D : List (List UInt8 × Fil)) (k : List UInt8) (wh : Bool) (ca : Option Addr) (cc : Nat) (cb : List UInt8) (w : World) (h : Dp w d mb D) (hc : BtT w (.slice ca cb.length cc) cb)
    (hk : k.length ≤ 64) (hn : D.length < maxLen) (hl : ((getK k D).getD noFil).loose.length < 1000000000000) :
    Calls Tryz.prog 74 #[.pointer (some ⟨d, 0, none⟩), .string (tx k), .agg #[.bool wh, .bool true, .slice ca cb.length cc]] w fun e w' =>
      e = .returned (.tuple #[]) ∧ Dp w' d mb (putK k (chgF ((getK k D).getD noFil) ⟨wh, true, cb⟩) D) ∧ Fm mb w w' := by
  have hkm : k.length ≤ maxLen := by unfold maxLen; omega
  obtain ⟨f, hf0⟩ : ∃ f, f = (getK k D).getD noFil := ⟨_, rfl⟩
  have hf := Lib.hid hf0
  have hb1 : Below w.heap.size w (w.alloc (.cells #[.bool wh, .bool true, .slice ca cb.length cc] 108)) := (Below.refl _ _).alloc (Nat.le_refl _) _
  have h1 := h.below hb1 (Nat.le_refl _)
  obtain ⟨sa, sc, na, nc, la, lc, hrun, _, hT⟩ := look_run _ mb D h1.2 k hkm
  rw [← hf0] at hrun hT hl ⊢
  clear hf0
  have hcell := h1.cell
  obtain ⟨hl1, hl2⟩ := hT.loose_cap
  obtain ⟨sa', sc', na', nc', la0, lc0, hv, t1, t2, t3⟩ := hT
  cases hv
  go_enter Tryz.func74, Tryz.ntmps74
  go_wp2
  go_region_law (first
    | (go_simp; go_at_call 98; (with_reducible refine (clip98 _ _ _ _ (by assumption) (by assumption)).mono ?_); rintro e w1 ⟨rfl, rfl⟩)
    | (refine step_ch rfl (.tmp 35) (.tmp 37) rfl la lc f.loose ⟨wh, true, cb⟩ (.slice ca cb.length cc) (w.heap.size + 1 + 1) (by simp [Act.eval]) (by simp [Act.eval])
        (t3.fr (Fr.of_below (M := noTypes) (B := w.heap.size + 1) (by repeat (first | exact Below.refl _ _ | refine Below.drew ?_ | refine Below.alloc ?_ (by simp <;> omega) _)) (by simp <;> omega)) id id)
        (cells3 (w.heap.size + 1 + 1) (B := w.heap.size + 1 + 1 + 1) (by first | exact (Below.refl _ _).drew | exact Below.refl _ _) (by simp) (by simp)).1 (cells3 (w.heap.size + 1 + 1) (B := w.heap.size + 1 + 1 + 1) (by first | exact (Below.refl _ _).drew | exact Below.refl _ _) (by simp) (by simp)).2.1 (cells3 (w.heap.size + 1 + 1) (B := w.heap.size + 1 + 1 + 1) (by first | exact (Below.refl _ _).drew | exact Below.refl _ _) (by simp) (by simp)).2.2.1
        (hc.fr (Fr.of_below (M := noTypes) (B := w.heap.size) (by repeat (first | exact Below.refl _ _ | refine Below.drew ?_ | refine Below.alloc ?_ (by simp <;> omega) _)) (by simp <;> omega)) id) hl ?_
       intro la' lc' w2 hT2 hb2
       have hbF : Below (w.heap.size + 1 + 1) ((w.alloc (Obj.cells #[Value.bool wh, Value.bool true, Value.slice ca cb.length cc] 108)).alloc (Obj.cells #[Value.slice sa f.sure.length sc, Value.slice none 0 0, Value.bool f.isSure, Value.bool false, Value.slice la f.loose.length lc] 106)) w2 :=
        Below.trans (by first | exact ((Below.refl _ _).alloc (by simp) _).drew | exact ((Below.refl _ _).drew).alloc (by simp) _) (hb2.mono (by simp))
       obtain ⟨c0, c1, c2, c3, c4, c5⟩ := box5 (w.heap.size + 1) hbF (by simp) (by simp)))
  all_goals (
    have hb02 : Below w.heap.size w w2 := hb1.trans (((Below.refl _ _).alloc (by simp) _).trans (hbF.mono (by omega)))
    have hb12 : Below (w.heap.size + 1) (w.alloc (Obj.cells #[Value.bool wh, Value.bool true, Value.slice ca cb.length cc] 108)) w2 := ((Below.refl _ _).alloc (by simp) _).trans (hbF.mono (by omega))
    obtain ⟨w4, hrun2, hD4, hf4⟩ := put_end k (chgF f ⟨wh, true, cb⟩) h hb02 (q := w.heap.size + 1) (by omega) (blk_new _ hbF (by simp) (by simp)) hkm hn sa none la' sc 0 lc'
      (t1.fr (Fr.of_below (M := noTypes) hb12 (by simp)) id) (BtT.nil _) hT2
    have hcd := (h.below ((hb02.setCell (p := ⟨w.heap.size + 1, 4, none⟩) (by simp) (.slice la' (f.loose ++ [(⟨wh, true, cb⟩ : Chg)]).length lc')).drew) (Nat.le_refl _)).cell
    unfold chgF at hrun2 hD4
    simp only [if_true, Bool.not_true, List.length_append, List.length_cons, List.length_nil, Nat.zero_add] at hrun2 hcd
    go_wp2
    go_must (go_region)
    go_end0
    exact ⟨rfl, hD4, hf4⟩)
set_option maxRecDepth 100000 in
set_option maxHeartbeats 3200000 in
theorem put74_whole (d mb : Nat) (D : List (List UInt8 × Fil)) (k : List UInt8) (ca : Option Addr) (cc : Nat) (cb : List UInt8) (w : World) (h : Dp w d mb D) (hc : BtT w (.slice ca cb.length cc) cb)
    (hk : k.length ≤ 64) (hn : D.length < maxLen) (hl : ((getK k D).getD noFil).loose.length < 1000000000000) :
    Calls Tryz.prog 74 #[.pointer (some ⟨d, 0, none⟩), .string (tx k), .agg #[.bool true, .bool false, .slice ca cb.length cc]] w fun e w' =>
      e = .returned (.tuple #[]) ∧ Dp w' d mb (putK k (chgF ((getK k D).getD noFil) ⟨true, false, cb⟩) D) ∧ Fm mb w w' := by
  have hkm : k.length ≤ maxLen := by unfold maxLen; omega
  obtain ⟨f, hf0⟩ : ∃ f, f = (getK k D).getD noFil := ⟨_, rfl⟩
  have hf := Lib.hid hf0
  have hb1 : Below w.heap.size w (w.alloc (.cells #[.bool true, .bool false, .slice ca cb.length cc] 108)) := (Below.refl _ _).alloc (Nat.le_refl _) _
  have h1 := h.below hb1 (Nat.le_refl _)
  obtain ⟨sa, sc, na, nc, la, lc, hrun, _, hT⟩ := look_run _ mb D h1.2 k hkm
  rw [← hf0] at hrun hT hl ⊢
  clear hf0
  have hcell := h1.cell
  obtain ⟨hl1, hl2⟩ := hT.loose_cap
  obtain ⟨sa', sc', na', nc', la0, lc0, hv, t1, t2, t3⟩ := hT
  cases hv
  go_enter Tryz.func74, Tryz.ntmps74
  go_wp2
  go_region_law (first
    | (go_simp; go_at_call 98; (with_reducible refine (clip98 _ _ _ _ (by assumption) (by assumption)).mono ?_); rintro e w1 ⟨rfl, rfl⟩)
    | (refine step_ch rfl (.tmp 35) (.tmp 37) rfl la lc f.loose ⟨true, false, cb⟩ (.slice ca cb.length cc) (w.heap.size + 1 + 1) (by simp [Act.eval]) (by simp [Act.eval])
        (t3.fr (Fr.of_below (M := noTypes) (B := w.heap.size + 1) (by repeat (first | exact Below.refl _ _ | refine Below.drew ?_ | refine Below.alloc ?_ (by simp <;> omega) _)) (by simp <;> omega)) id id)
        (cells3 (w.heap.size + 1 + 1) (B := w.heap.size + 1 + 1 + 1) (by first | exact (Below.refl _ _).drew | exact Below.refl _ _) (by simp) (by simp)).1 (cells3 (w.heap.size + 1 + 1) (B := w.heap.size + 1 + 1 + 1) (by first | exact (Below.refl _ _).drew | exact Below.refl _ _) (by simp) (by simp)).2.1 (cells3 (w.heap.size + 1 + 1) (B := w.heap.size + 1 + 1 + 1) (by first | exact (Below.refl _ _).drew | exact Below.refl _ _) (by simp) (by simp)).2.2.1
        (hc.fr (Fr.of_below (M := noTypes) (B := w.heap.size) (by repeat (first | exact Below.refl _ _ | refine Below.drew ?_ | refine Below.alloc ?_ (by simp <;> omega) _)) (by simp <;> omega)) id) hl ?_
       intro la' lc' w2 hT2 hb2
       have hbF : Below (w.heap.size + 1 + 1) ((w.alloc (Obj.cells #[Value.bool true, Value.bool false, Value.slice ca cb.length cc] 108)).alloc (Obj.cells #[Value.slice sa f.sure.length sc, Value.slice ca cb.length cc, Value.bool f.isSure, Value.bool true, Value.slice la f.loose.length lc] 106)) w2 :=
        Below.trans (by first | exact ((Below.refl _ _).alloc (by simp) _).drew | exact ((Below.refl _ _).drew).alloc (by simp) _) (hb2.mono (by simp))
       obtain ⟨c0, c1, c2, c3, c4, c5⟩ := box5 (w.heap.size + 1) hbF (by simp) (by simp)))
  all_goals (
    have hb02 : Below w.heap.size w w2 := hb1.trans (((Below.refl _ _).alloc (by simp) _).trans (hbF.mono (by omega)))
    have hb12 : Below (w.heap.size + 1) (w.alloc (Obj.cells #[Value.bool true, Value.bool false, Value.slice ca cb.length cc] 108)) w2 := ((Below.refl _ _).alloc (by simp) _).trans (hbF.mono (by omega))
    obtain ⟨w4, hrun2, hD4, hf4⟩ := put_end k (chgF f ⟨true, false, cb⟩) h hb02 (q := w.heap.size + 1) (by omega) (blk_new _ hbF (by simp) (by simp)) hkm hn sa ca la' sc cc lc'
      (t1.fr (Fr.of_below (M := noTypes) hb12 (by simp)) id) (hc.fr (Fr.of_below (M := noTypes) hb02 (Nat.le_refl _)) id) hT2
    have hcd := (h.below ((hb02.setCell (p := ⟨w.heap.size + 1, 4, none⟩) (by simp) (.slice la' (f.loose ++ [(⟨true, false, cb⟩ : Chg)]).length lc')).drew) (Nat.le_refl _)).cell
    unfold chgF at hrun2 hD4
    simp only [if_true, Bool.not_false, Bool.false_eq_true, if_false, List.length_append, List.length_cons, List.length_nil, Nat.zero_add] at hrun2 hcd
    go_wp2
    go_must (go_region)
    go_end0
    exact ⟨rfl, hD4, hf4⟩)
end Go.Proofs.YtpcipfnahknngaaGreatDoor

/- A disk in memory: what its map's block reads as; lookup, update, delete. No statement of the seat. -/
import Derived.Test.YtpcipfnahknngaaGreatDoorPar
import Derived.Maps.OwnSet
import Derived.Maps.OwnOps
namespace Go.Proofs.YtpcipfnahknngaaGreatDoor
open Go.RowKit Go.Maps

/-- a loose change of a file; a file -/
structure Chg where
  whole : Bool
  gone : Bool
  b : List UInt8
structure Fil where
  sure : List UInt8
  now : List UInt8
  isSure : Bool
  isNow : Bool
  loose : List Chg
def noFil : Fil := ⟨[], [], false, false, []⟩

/-- the block of v is a row of elements of type e -/
def Ty (e : TypeId) (w : World) (v : Value) : Prop := ∀ g, v.ownBlock = some g → ∃ cur fz, w.heap[g]? = some (Obj.cells cur e fz)
/-- but for maps, and rows of the types M, all that was there is as it was -/
structure Fr (M : TypeId → Prop) (w w' : World) : Prop where
  os : w'.os = w.os
  tape : w'.tape = w.tape
  output : w'.output = w.output
  size : w.heap.size ≤ w'.heap.size
  kept : ∀ (g : Nat) (cur : Array Value) (e : TypeId) (fz : Nat × Nat), w.heap[g]? = some (Obj.cells cur e fz) → ¬ M e → w'.heap[g]? = w.heap[g]?
def noTypes : TypeId → Prop := fun _ => False
theorem Fr.refl (M : TypeId → Prop) (w : World) : Fr M w w := ⟨rfl, rfl, rfl, Nat.le_refl _, fun _ _ _ _ _ _ => rfl⟩
theorem Fr.trans {M : TypeId → Prop} {a b c : World} (h : Fr M a b) (k : Fr M b c) : Fr M a c :=
  ⟨k.os.trans h.os, k.tape.trans h.tape, k.output.trans h.output, Nat.le_trans h.size k.size, fun g cur e fz hg he => by
    have h1 := h.kept g cur e fz hg he
    rw [k.kept g cur e fz (h1.trans hg) he, h1]⟩
theorem Fr.mono {M N : TypeId → Prop} {a b : World} (h : Fr M a b) (hm : ∀ e, M e → N e) : Fr N a b :=
  ⟨h.os, h.tape, h.output, h.size, fun g cur e fz hg he => h.kept g cur e fz hg fun h2 => he (hm e h2)⟩
theorem lt_of_get {α : Type} {a : Array α} {i : Nat} {x : α} (h : a[i]? = some x) : i < a.size := (Array.getElem?_eq_some_iff.1 h).1
theorem Fr.of_below {M : TypeId → Prop} {w w' : World} {B : Nat} (h : Below B w w') (hB : w.heap.size ≤ B) : Fr M w w' :=
  ⟨h.os, h.tape, h.output, h.size, fun g _ _ _ hg _ => h.block g (Nat.lt_of_lt_of_le (lt_of_get hg) hB)⟩
theorem Fr.of_map {M : TypeId → Prop} {w w' : World} {b : Nat} (h : w.mapTurned w' b) : Fr M w w' := by
  have hg := h.grown
  obtain ⟨es, clock, es', clock', hb, _⟩ := h
  refine ⟨hg.os, hg.tape, hg.output, hg.size, fun g cur e fz hc _ => hg.block g (lt_of_get hc) fun e2 => ?_⟩
  cases e2
  rw [hb] at hc
  cases hc
theorem Fr.setCell {M : TypeId → Prop} {w w' : World} (h : Fr M w w') {a : Addr} (u : Value) (hn : ∀ (cur : Array Value) (e : TypeId) (fz : Nat × Nat), w.heap[a.block]? = some (Obj.cells cur e fz) → M e) : Fr M w (w'.setCell a u) :=
  ⟨h.os, h.tape, h.output, by simpa [World.setCell] using h.size, fun g cur e fz hg he => by
    rw [Below.heap_setCell _ _ _ _ (fun e2 => he (by subst e2; exact hn _ _ _ hg))]
    exact h.kept g cur e fz hg he⟩

def BtT (w : World) (v : Value) (l : List UInt8) : Prop := Bt w v l ∧ Ty 5 w v
def chCells : List Chg → List Value → List Value
  | c :: cs, u :: us => .bool c.whole :: .bool c.gone :: u :: chCells cs us
  | _, _ => []
def ChT (w : World) (v : Value) (cs : List Chg) : Prop :=
  ∃ us : List Value, us.length = cs.length ∧ Sl w 3 v cs.length (chCells cs us) ∧ Ty 108 w v ∧ ∀ k (h : k < cs.length), ∃ u, us[k]? = some u ∧ BtT w u (cs[k]).b
def FilT (w : World) (v : Value) (f : Fil) : Prop :=
  ∃ sa sc na nc la lc, v = .agg #[.slice sa f.sure.length sc, .slice na f.now.length nc, .bool f.isSure, .bool f.isNow, .slice la f.loose.length lc] ∧
    BtT w (.slice sa f.sure.length sc) f.sure ∧ BtT w (.slice na f.now.length nc) f.now ∧ ChT w (.slice la f.loose.length lc) f.loose

theorem Ty.fr {M : TypeId → Prop} {w w' : World} {e : TypeId} {v : Value} (h : Ty e w v) (hf : Fr M w w') (he : ¬ M e) : Ty e w' v := fun g hg => by
  obtain ⟨cur, fz, h1⟩ := h g hg
  exact ⟨cur, fz, (hf.kept g cur e fz h1 he).trans h1⟩
theorem Sl.fr {M : TypeId → Prop} {w w' : World} {e : TypeId} {sz : Nat} {v : Value} {n : Nat} {xs : List Value} (h : Sl w sz v n xs) (ht : Ty e w v) (hf : Fr M w w') (he : ¬ M e) : Sl w' sz v n xs :=
  h.kept fun g hg => by
    obtain ⟨cur, fz, h1⟩ := ht g hg
    exact hf.kept g cur e fz h1 he
theorem BtT.fr {M : TypeId → Prop} {w w' : World} {v : Value} {l : List UInt8} (h : BtT w v l) (hf : Fr M w w') (he : ¬ M 5) : BtT w' v l := ⟨Sl.fr h.1 h.2 hf he, h.2.fr hf he⟩
theorem ChT.fr {M : TypeId → Prop} {w w' : World} {v : Value} {cs : List Chg} (h : ChT w v cs) (hf : Fr M w w') (h5 : ¬ M 5) (h8 : ¬ M 108) : ChT w' v cs := by
  obtain ⟨us, h1, h2, h3, h4⟩ := h
  refine ⟨us, h1, Sl.fr h2 h3 hf h8, h3.fr hf h8, fun k hk => ?_⟩
  obtain ⟨u, a, b⟩ := h4 k hk
  exact ⟨u, a, b.fr hf h5⟩
theorem FilT.fr {M : TypeId → Prop} {w w' : World} {v : Value} {f : Fil} (h : FilT w v f) (hf : Fr M w w') (h5 : ¬ M 5) (h8 : ¬ M 108) : FilT w' v f := by
  obtain ⟨sa, sc, na, nc, la, lc, rfl, h1, h2, h3⟩ := h
  exact ⟨sa, sc, na, nc, la, lc, rfl, h1.fr hf h5, h2.fr hf h5, h3.fr hf h5 h8⟩
theorem BtT.nil (w : World) : BtT w (.slice none 0 0) [] := ⟨Bt.nil w, fun g hg => by cases hg⟩
theorem ChT.nil (w : World) : ChT w (.slice none 0 0) [] := ⟨[], rfl, Sl.nil w 3, fun g hg => (by cases hg), fun k hk => by simp at hk⟩
def noFilV : Value := .agg #[.slice none 0 0, .slice none 0 0, .bool false, .bool false, .slice none 0 0]
theorem FilT.no (w : World) : FilT w noFilV noFil := ⟨none, 0, none, 0, none, 0, rfl, BtT.nil w, BtT.nil w, ChT.nil w⟩
theorem BtT.of_own {w : World} {B : Nat} {v : Value} {l : List UInt8} (h : w.ownsRow B 5 1 v l.length (bv l)) : BtT w v l := by
  refine ⟨Bt.of_own h, fun g hg => ?_⟩
  rcases h.2 with ⟨rfl, _⟩ | ⟨g', cap, cur, rfl, _, hh, _⟩
  · cases hg
  · cases hg
    exact ⟨cur, _, hh⟩

/-! ### lists by names -/
def insK {α : Type} (x : List UInt8 × α) : List (List UInt8 × α) → List (List UInt8 × α)
  | [] => [x]
  | y :: r => if bytesBefore x.1 y.1 then x :: y :: r else y :: insK x r
def delK {α : Type} (k : List UInt8) (l : List (List UInt8 × α)) : List (List UInt8 × α) := l.filter fun p => !(p.1 == k)
def putK {α : Type} (k : List UInt8) (x : α) (l : List (List UInt8 × α)) : List (List UInt8 × α) := insK (k, x) (delK k l)
def getK {α : Type} (k : List UInt8) (l : List (List UInt8 × α)) : Option α := (l.find? fun p => p.1 == k).map (·.2)

/-- two lists by names, alike -/
inductive Both {α β : Type} (R : α → β → Prop) : List (List UInt8 × α) → List (List UInt8 × β) → Prop
  | nil : Both R [] []
  | cons {k x y l m} : R x y → Both R l m → Both R ((k, x) :: l) ((k, y) :: m)
section
variable {α β : Type} {R : α → β → Prop}
theorem Both.length {l : List (List UInt8 × α)} {m : List (List UInt8 × β)} (h : Both R l m) : l.length = m.length := by
  induction h with
  | nil => rfl
  | cons _ _ ih => simp [ih]
theorem Both.mono {S : α → β → Prop} (hs : ∀ x y, R x y → S x y) {l : List (List UInt8 × α)} {m : List (List UInt8 × β)} (h : Both R l m) : Both S l m := by
  induction h with
  | nil => exact .nil
  | cons h _ ih => exact .cons (hs _ _ h) ih
theorem Both.ins {k : List UInt8} {x : α} {y : β} (hx : R x y) {l : List (List UInt8 × α)} {m : List (List UInt8 × β)} (h : Both R l m) : Both R (insK (k, x) l) (insK (k, y) m) := by
  induction h with
  | nil => exact .cons hx .nil
  | @cons k' x' y' l m h1 h2 ih =>
    unfold insK
    simp only
    split
    · exact .cons hx (.cons h1 h2)
    · exact .cons h1 ih
theorem Both.del {k : List UInt8} {l : List (List UInt8 × α)} {m : List (List UInt8 × β)} (h : Both R l m) : Both R (delK k l) (delK k m) := by
  induction h with
  | nil => exact .nil
  | @cons k' x' y' l m h1 h2 ih =>
    unfold delK at ih ⊢
    simp only [List.filter_cons]
    split
    · exact .cons h1 ih
    · exact ih
theorem Both.put {k : List UInt8} {x : α} {y : β} (hx : R x y) {l : List (List UInt8 × α)} {m : List (List UInt8 × β)} (h : Both R l m) : Both R (putK k x l) (putK k y m) := (h.del).ins hx
theorem Both.get {k : List UInt8} {l : List (List UInt8 × α)} {m : List (List UInt8 × β)} (h : Both R l m) :
    (getK k l = none ∧ getK k m = none) ∨ ∃ x y, getK k l = some x ∧ getK k m = some y ∧ R x y := by
  induction h with
  | nil => exact Or.inl ⟨rfl, rfl⟩
  | @cons k' x' y' l m h1 h2 ih =>
    unfold getK at ih ⊢
    simp only [List.find?_cons]
    split
    · exact Or.inr ⟨x', y', rfl, rfl, h1⟩
    · exact ih
theorem Both.keys {l : List (List UInt8 × α)} {m : List (List UInt8 × β)} (h : Both R l m) : l.map (·.1) = m.map (·.1) := by
  induction h with
  | nil => rfl
  | cons _ _ ih => simp [ih]
end

/-! ### the map's block -/
def RV : Value → Option (DataW Value × List MemPlace) := fun v => some (.held v, [])
def mpD (l : List (List UInt8 × Value)) : DataW Value := .map (l.map fun p => (.string p.1, .held p.2))

theorem mpD_put (l : List (List UInt8 × Value)) (k : List UInt8) (v : Value) : (mpD l).put (.string k) (.held v) = mpD (putK k v l) := by
  have h1 : ∀ l : List (List UInt8 × Value), DataW.insert (Lit.string k, DataW.held v) (l.map fun p => (Lit.string p.1, DataW.held p.2)) = (insK (k, v) l).map fun p => (Lit.string p.1, DataW.held p.2) := by
    intro l
    induction l with
    | nil => rfl
    | cons y r ih =>
      rw [List.map_cons]
      unfold DataW.insert insK
      by_cases hb : bytesBefore k y.fst = true
      · rw [if_pos (show (Lit.string k).before (Lit.string y.1) = true from hb), if_pos hb]; rfl
      · rw [if_neg (show ¬ (Lit.string k).before (Lit.string y.1) = true from hb), if_neg hb, ih]; rfl
  have h2 : (l.map fun p => (Lit.string p.1, (DataW.held p.2 : DataW Value))).filter (fun p => !p.1.sameKey (.string k)) = (delK k l).map fun p => (Lit.string p.1, DataW.held p.2) := by
    unfold delK
    rw [List.filter_map]
    rfl
  unfold mpD putK
  simp only [DataW.put]
  rw [h2, h1]
theorem mpD_del (l : List (List UInt8 × Value)) (k : List UInt8) : (mpD l).del (.string k) = mpD (delK k l) := by
  unfold mpD delK
  simp only [DataW.del]
  rw [List.filter_map]
  rfl
theorem mpD_at (l : List (List UInt8 × Value)) (k : List UInt8) (z : Value) : (mpD l).atKey (.string k) (.held z) = .held ((getK k l).getD z) := by
  unfold mpD getK
  simp only [DataW.atKey]
  rw [List.find?_map]
  have : ((fun p : Lit × DataW Value => p.1.sameKey (.string k)) ∘ fun p : List UInt8 × Value => (Lit.string p.1, DataW.held p.2)) = fun p => p.1 == k := rfl
  rw [this]
  cases l.find? fun p => p.1 == k <;> rfl
theorem mpD_has (l : List (List UInt8 × Value)) (k : List UInt8) : Maps.has (mpD l) (.string k) = (getK k l).isSome := by
  unfold mpD getK
  rw [Maps.has_eq]
  rw [List.any_map]
  have : ((fun p : Lit × DataW Value => p.1.sameKey (.string k)) ∘ fun p : List UInt8 × Value => (Lit.string p.1, DataW.held p.2)) = fun p => p.1 == k := rfl
  rw [this, Option.isSome_map, Bool.eq_iff_iff, List.find?_isSome, List.any_eq_true]

/-- block mb of w is a disk's map -/
def Dk (w : World) (mb : Nat) (D : List (List UInt8 × Fil)) : Prop :=
  ∃ l, w.ownsMap Tryz.prog 9 RV mb l.length (mpD l) ∧ Both (FilT w) l D

theorem own_len {w : World} {mb n : Nat} {l : List (List UInt8 × Value)} (h : w.ownsMap Tryz.prog 9 RV mb n (mpD l)) : w.ownsMap Tryz.prog 9 RV mb l.length (mpD l) := by
  obtain ⟨es, clock, hb, F, hs, hD⟩ := h
  refine ⟨es, clock, hb, F, ?_, hD⟩
  have h1 := congrArg Maps.size hD
  unfold mpD at h1
  rw [Maps.size_eq, Maps.size_eq, List.length_map, length_sorted, List.length_map, Array.length_toList] at h1
  exact Nat.le_of_eq h1.symm

theorem Dk.fr {M : TypeId → Prop} {w w' : World} {mb : Nat} {D : List (List UInt8 × Fil)} (h : Dk w mb D) (hf : Fr M w w') (h5 : ¬ M 5) (h8 : ¬ M 108) (hm : w'.heap[mb]? = w.heap[mb]?) : Dk w' mb D := by
  obtain ⟨l, ⟨es, clock, hb, r⟩, h2⟩ := h
  exact ⟨l, ⟨es, clock, hm.trans hb, r⟩, h2.mono fun _ _ h => h.fr hf h5 h8⟩
theorem Dk.lt {w : World} {mb : Nat} {D : List (List UInt8 × Fil)} (h : Dk w mb D) : mb < w.heap.size := by
  obtain ⟨l, h1, _⟩ := h
  exact h1.lt
theorem Dk.below {w w' : World} {mb : Nat} {D : List (List UInt8 × Fil)} (h : Dk w mb D) {B : Nat} (hb : Below B w w') (hB : w.heap.size ≤ B) : Dk w' mb D :=
  h.fr (M := noTypes) (Fr.of_below hb hB) id id (hb.block mb (Nat.lt_of_lt_of_le h.lt hB))
theorem Dk.new (w : World) : Dk (w.alloc (Obj.map #[] 0)) w.heap.size [] := ⟨[], World.ownsMap_made w Tryz.prog 9 RV, .nil⟩

theorem zero106 (w : World) : (zeroValue 106).run Tryz.prog w = .ok noFilV w := by kernel_rfl
theorem keyed9 : Keyed Tryz.prog 9 := string_keyed Tryz.underlying9
theorem key_tx (k : List UInt8) (hk : k.length ≤ maxLen) : keyOf Tryz.prog 9 (.string (tx k)) = some (.string k) := by
  have := WideMaps.keyOf_string_mk (P := Tryz.prog) (k := 9) Tryz.underlying9 (s := tx k) (by simpa using hk)
  simpa using this

/-- 'd.l[name] = f', 'delete(d.l, name)', as equations -/
theorem set_run (W : World) (mb : Nat) (D : List (List UInt8 × Fil)) (hD : Dk W mb D) (k : List UInt8) (hk : k.length ≤ maxLen) (v : Value) (f : Fil) (hv : FilT W v f) (hn : D.length < maxLen) :
    ∃ w', (Instr.mapUpdate 89 (.map (some mb)) (.string (tx k)) v).run Tryz.prog W = .ok () w' ∧ Dk w' mb (putK k f D) ∧ W.mapTurned w' mb := by
  obtain ⟨l, h1, h2⟩ := hD
  obtain ⟨w', hrun, ho, ht⟩ := h1.store (t := 89) (e := 106) keyed9 Tryz.underlying89 (by rw [h2.length]; exact hn) (val := v) (d := .held v) (ps := []) (key_tx k hk) rfl
  rw [mpD_put] at ho
  have hf : Fr noTypes W w' := Fr.of_map ht
  exact ⟨w', hrun, ⟨_, own_len ho, (h2.mono fun _ _ h => h.fr hf id id).put (hv.fr hf id id)⟩, ht⟩
theorem del_run (W : World) (mb : Nat) (D : List (List UInt8 × Fil)) (hD : Dk W mb D) (k : List UInt8) (hk : k.length ≤ maxLen) (ty : TypeId) :
    ∃ w', (Builtin.delete_ #[89, 9] ty #[.map (some mb), .string (tx k)]).run Tryz.prog W = .ok (.tuple #[]) w' ∧ Dk w' mb (delK k D) ∧ W.mapTurned w' mb := by
  obtain ⟨l, h1, h2⟩ := hD
  obtain ⟨w', hrun, ho, ht⟩ := h1.drop (t := 89) (e := 106) keyed9 Tryz.underlying89 (key_tx k hk) ty
  rw [mpD_del] at ho
  have hf : Fr noTypes W w' := Fr.of_map ht
  exact ⟨w', hrun, ⟨_, own_len ho, (h2.mono fun _ _ h => h.fr hf id id).del⟩, ht⟩
theorem look_run (W : World) (mb : Nat) (D : List (List UInt8 × Fil)) (hD : Dk W mb D) (k : List UInt8) (hk : k.length ≤ maxLen) :
    ∃ sa sc na nc la lc, (Instr.lookup 89 (.map (some mb)) (.string (tx k)) false).run Tryz.prog W =
        .ok (.agg #[.slice sa ((getK k D).getD noFil).sure.length sc, .slice na ((getK k D).getD noFil).now.length nc, .bool ((getK k D).getD noFil).isSure, .bool ((getK k D).getD noFil).isNow, .slice la ((getK k D).getD noFil).loose.length lc]) W ∧
      (Instr.lookup 89 (.map (some mb)) (.string (tx k)) true).run Tryz.prog W =
        .ok (.tuple #[.agg #[.slice sa ((getK k D).getD noFil).sure.length sc, .slice na ((getK k D).getD noFil).now.length nc, .bool ((getK k D).getD noFil).isSure, .bool ((getK k D).getD noFil).isNow, .slice la ((getK k D).getD noFil).loose.length lc], .bool (getK k D).isSome]) W ∧
      FilT W (.agg #[.slice sa ((getK k D).getD noFil).sure.length sc, .slice na ((getK k D).getD noFil).now.length nc, .bool ((getK k D).getD noFil).isSure, .bool ((getK k D).getD noFil).isNow, .slice la ((getK k D).getD noFil).loose.length lc]) ((getK k D).getD noFil) := by
  obtain ⟨l, h1, h2⟩ := hD
  obtain ⟨v, ps, hrun, hv⟩ := h1.lookup (t := 89) (e := 106) keyed9 Tryz.underlying89 (zero106 W) (zd := .held noFilV) (zp := []) rfl (key_tx k hk)
  obtain ⟨v2, ps2, hrun2, hv2⟩ := h1.look_ok (t := 89) (e := 106) keyed9 Tryz.underlying89 (zero106 W) (zd := .held noFilV) (zp := []) rfl (key_tx k hk)
  rw [mpD_at] at hv hv2
  rw [mpD_has] at hrun2
  have e1 : v = (getK k l).getD noFilV := by
    simp only [RV, Option.some.injEq, Prod.mk.injEq, DataW.held.injEq] at hv
    exact hv.1
  have e2 : v2 = (getK k l).getD noFilV := by
    simp only [RV, Option.some.injEq, Prod.mk.injEq, DataW.held.injEq] at hv2
    exact hv2.1
  have hT : FilT W ((getK k l).getD noFilV) ((getK k D).getD noFil) ∧ (getK k l).isSome = (getK k D).isSome := by
    rcases h2.get (k := k) with ⟨e1, e2⟩ | ⟨x, y, e1, e2, hxy⟩
    · rw [e1, e2]; exact ⟨FilT.no W, rfl⟩
    · rw [e1, e2]; exact ⟨hxy, rfl⟩
  rw [e1] at hrun
  rw [e2, hT.2] at hrun2
  obtain ⟨hT, _⟩ := hT
  have hT2 := hT
  obtain ⟨sa, sc, na, nc, la, lc, e3, _⟩ := hT2
  rw [e3] at hrun hrun2 hT
  exact ⟨sa, sc, na, nc, la, lc, hrun, hrun2, hT⟩

section
variable {w : World} {ops : Array Oper} {rest : List Oper} {o : Oper} {a : Act} {Q : Exit → Act → World → Prop}
/-- 'd.l[name]' -/
theorem wl_look (hg : o.guard = none) (m x : Operand) (hop : o.op = Op.lookup 89 m x false) (mb : Nat) (D : List (List UInt8 × Fil)) (hm : a.eval m = .map (some mb)) (hD : Dk w mb D)
    (k : List UInt8) (hx : a.eval x = .string (tx k)) (hk : k.length ≤ maxLen) (f : Fil) (hf : f = (getK k D).getD noFil)
    (h : ∀ sa sc na nc la lc, FilT w (.agg #[.slice sa f.sure.length sc, .slice na f.now.length nc, .bool f.isSure, .bool f.isNow, .slice la f.loose.length lc]) f →
      wpList Tryz.prog ops Q rest (a.put o.dst (.agg #[.slice sa f.sure.length sc, .slice na f.now.length nc, .bool f.isSure, .bool f.isNow, .slice la f.loose.length lc])) w) : wpList Tryz.prog ops Q (o :: rest) a w := by
  obtain ⟨l, h1, h2⟩ := hD
  obtain ⟨v, ps, hrun, hv⟩ := h1.lookup (t := 89) (e := 106) keyed9 Tryz.underlying89 (zero106 w) (zd := .held noFilV) (zp := []) rfl (key_tx k hk)
  rw [mpD_at] at hv
  have hv2 : v = (getK k l).getD noFilV := by
    simp only [RV, Option.some.injEq, Prod.mk.injEq, DataW.held.injEq] at hv
    exact hv.1
  have hT : FilT w v f := by
    rw [hv2, hf]
    rcases h2.get (k := k) with ⟨e1, e2⟩ | ⟨x, y, e1, e2, hxy⟩
    · rw [e1, e2]; exact FilT.no w
    · rw [e1, e2]; exact hxy
  refine wpList_plain hg fun K' hK' => ?_
  unfold Oper.wp
  simp only [execOp, hop, hm, hx, hrun, Result.andThen_ok, Sem.run_bind, Sem.run_pure]
  have hT2 := hT
  obtain ⟨sa, sc, na, nc, la, lc, rfl, _⟩ := hT2
  exact hK' _ _ (h sa sc na nc la lc hT)
end
end Go.Proofs.YtpcipfnahknngaaGreatDoor

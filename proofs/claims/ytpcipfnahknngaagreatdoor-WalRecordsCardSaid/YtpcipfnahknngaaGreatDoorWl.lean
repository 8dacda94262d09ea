/- A log in memory: rows of segments; what the log's box reads as. No statement of the seat. -/
import Derived.Test.YtpcipfnahknngaaGreatDoorEnt
import Derived.Test.YtpcipfnahknngaaGreatDoorDiskCopy
import Derived.Laws.OwnMore
namespace Go.Proofs.YtpcipfnahknngaaGreatDoor
open Go.RowKit Go.Maps

/-! ### own rows from the first block on -/
theorem own_fr {M : TypeId → Prop} {w w' : World} {B : Nat} {e : TypeId} {sz : Nat} {v : Value} {n : Nat} {xs : List Value} (h : w.ownsRow B e sz v n xs) (hf : Fr M w w') (he : ¬ M e) : w'.ownsRow B e sz v n xs := by
  refine ⟨h.1, ?_⟩
  rcases h.2 with h2 | ⟨g, cap, cur, rfl, hb, hg, r⟩
  · exact Or.inl h2
  · exact Or.inr ⟨g, cap, cur, rfl, hb, (hf.kept g cur e _ hg he).trans hg, r⟩
/-- a row that grew in its own block -/
theorem Fr.grown {M : TypeId → Prop} {w w' : World} {v : Value} {e : TypeId} (hg : w.grownBy w' v.ownBlock) (ht : Ty e w v) (hm : M e) : Fr M w w' := by
  refine ⟨hg.os, hg.tape, hg.output, hg.size, fun g cur e2 fz hh he => hg.block g (lt_of_get hh) fun h => ?_⟩
  obtain ⟨cur2, fz2, h2⟩ := ht g h.symm
  rw [h2] at hh
  cases hh
  exact he hm
theorem grown_map {w w' : World} {v : Value} {e : TypeId} {b : Nat} {es : Array MapEntry} {c : Nat} (hg : w.grownBy w' v.ownBlock) (ht : Ty e w v) (hb : w.heap[b]? = some (Obj.map es c)) : w'.heap[b]? = w.heap[b]? := by
  refine hg.block b (lt_of_get hb) fun h => ?_
  obtain ⟨cur2, fz2, h2⟩ := ht b h.symm
  rw [h2] at hb
  cases hb
/-- the first n blocks are as they were -/
structure Lo (n : Nat) (w w' : World) : Prop where
  size : w.heap.size ≤ w'.heap.size
  block : ∀ g, g < n → g < w.heap.size → w'.heap[g]? = w.heap[g]?
theorem Lo.refl (n : Nat) (w : World) : Lo n w w := ⟨Nat.le_refl _, fun _ _ _ => rfl⟩
theorem Lo.trans {n : Nat} {a b c : World} (h : Lo n a b) (k : Lo n b c) : Lo n a c :=
  ⟨Nat.le_trans h.size k.size, fun g hn hg => (k.block g hn (Nat.lt_of_lt_of_le hg h.size)).trans (h.block g hn hg)⟩
theorem Lo.mono {n m : Nat} {w w' : World} (h : Lo m w w') (hn : n ≤ m) : Lo n w w' := ⟨h.size, fun g hg hs => h.block g (Nat.lt_of_lt_of_le hg hn) hs⟩
theorem Lo.of_below {n B : Nat} {w w' : World} (h : Below B w w') (hn : n ≤ B) : Lo n w w' := ⟨h.size, fun g hg _ => h.block g (Nat.lt_of_lt_of_le hg hn)⟩
theorem Lo.blw {n B : Nat} {w w' : World} (h : Below B w w') (hB : w.heap.size ≤ B) : Lo n w w' := ⟨h.size, fun g _ hs => h.block g (Nat.lt_of_lt_of_le hs hB)⟩
theorem Fm.lo {n m : Nat} {w w' : World} (h : Fm m w w') (hn : n ≤ m) : Lo n w w' := ⟨h.gr.size, fun g hg hs => h.gr.block g hs fun e => by cases e; omega⟩
theorem Lo.setCell {n : Nat} {w w' : World} (h : Lo n w w') (a : Addr) (u : Value) (hn : n ≤ a.block) : Lo n w (w'.setCell a u) :=
  ⟨by simpa [World.setCell] using h.size, fun g hg hs => by rw [Below.heap_setCell _ _ _ _ (show g ≠ a.block by omega)]; exact h.block g hg hs⟩
theorem Lo.grown {n : Nat} {w w' : World} {e : TypeId} {sz : Nat} {v : Value} {k : Nat} {xs : List Value} (hg : w.grownBy w' v.ownBlock) (ho : w.ownsRow n e sz v k xs) : Lo n w w' :=
  ⟨hg.size, fun g hn hs => hg.block g hs fun h => by have := (ho.lt g h.symm).1; omega⟩
theorem tab_keep {n : String} {g : Nat} {k : IntKind} {zs : List Int} {w w' : World} (hg : Tryz.prog.globalNamed n = some g) (h : Lib.TabIs Tryz.prog w n k zs) (hk : ∀ (cur : Array Value) (e : TypeId) (fz : Nat × Nat), w.heap[g]? = some (Obj.cells cur e fz) → w'.heap[g]? = w.heap[g]?) : Lib.TabIs Tryz.prog w' n k zs := by
  unfold Lib.TabIs at h ⊢
  unfold World.var? at h ⊢
  simp only [hg, Option.bind_some] at h ⊢
  cases hc : w.heap[g]? with
  | none => rw [hc] at h; simp at h
  | some o =>
    cases o with
    | cells cur e fz => rw [hk cur e fz hc]; exact h
    | _ => rw [hc] at h; simp at h
theorem pow_named : Tryz.prog.globalNamed "internal/strconv.uint64pow10" = some 2 := by kernel_rfl
abbrev PowTab (w : World) : Prop := Lib.TabIs Tryz.prog w "internal/strconv.uint64pow10" .u64 Lib.pow10Tab
theorem PowTab.fr {w w' : World} (h : PowTab w) (hf : Fr noTypes w w') : PowTab w' := tab_keep pow_named h fun cur e fz hc => hf.kept _ cur e fz hc id
theorem PowTab.below {w w' : World} (h : PowTab w) {B : Nat} (hb : Below B w w') (hB : w.heap.size ≤ B) : PowTab w' := h.fr (Fr.of_below hb hB)
theorem PowTab.lo {w w' : World} {n : Nat} (h : PowTab w) (hl : Lo n w w') (hn : 2 < n) : PowTab w' := tab_keep pow_named h fun cur e fz hc => hl.block _ (by omega) (lt_of_get hc)

theorem Dp.fr {M : TypeId → Prop} {w w' : World} {d mb : Nat} {D : List (List UInt8 × Fil)} (h : Dp w d mb D) (hf : Fr M w w') (h5 : ¬ M 5) (h8 : ¬ M 108) (h9 : ¬ M 91) (hm : w'.heap[mb]? = w.heap[mb]?) : Dp w' d mb D := by
  obtain ⟨⟨fz, h1⟩, h2⟩ := h
  exact ⟨⟨fz, (hf.kept _ _ _ _ h1 h9).trans h1⟩, h2.fr hf h5 h8 hm⟩
theorem Dp.map {w : World} {d mb : Nat} {D : List (List UInt8 × Fil)} (h : Dp w d mb D) : ∃ es c, w.heap[mb]? = some (Obj.map es c) := by
  obtain ⟨_, l, ⟨es, clock, hb, _⟩, _⟩ := h
  exact ⟨es, clock, hb⟩
theorem Box.fr {M : TypeId → Prop} {w w' : World} {g : Nat} {t : TypeId} {xs : Array Value} (h : Box w g t xs) (hf : Fr M w w') (he : ¬ M t) : Box w' g t xs := (hf.kept _ _ _ _ h he).trans h
/-- a row that grew, beside a box of another type -/
theorem Box.grown {w w' : World} {g : Nat} {t : TypeId} {xs : Array Value} (h : Box w g t xs) {v : Value} {e : TypeId} (hg : w.grownBy w' v.ownBlock) (ht : Ty e w v) (hne : e ≠ t) : Box w' g t xs := by
  refine (hg.block g (lt_of_get h) fun h2 => ?_).trans h
  obtain ⟨cur2, fz2, h3⟩ := ht g h2.symm
  unfold Box at h
  rw [h3] at h
  cases h
  exact hne rfl

/-! ### segments -/
/-- a segment: its number, its records' indexes -/
structure Seg where
  n : Nat
  at_ : List Nat
def nv (l : List Nat) : List Value := l.map fun (i : Nat) => Value.int .u64 (i : Int)
@[simp] theorem nv_length (l : List Nat) : (nv l).length = l.length := by simp [nv]
@[simp] theorem nv_append (l m : List Nat) : nv (l ++ m) = nv l ++ nv m := by simp [nv]
theorem nv_one (l : List Nat) : ∀ u ∈ nv l, u.oneCell' = true := by
  intro u hu
  simp only [nv, List.mem_map] at hu
  obtain ⟨b, _, rfl⟩ := hu
  rfl
theorem nv_get (l : List Nat) (j : Nat) (h : j < l.length) : (nv l)[j]? = some (.int .u64 (l[j] : Nat)) := by simp [nv, h]
def sgCells : List Seg → List Value → List Value
  | s :: ss, u :: us => .int .i64 s.n :: u :: sgCells ss us
  | _, _ => []
theorem sgCells_len (l : List Seg) (us : List Value) (h : us.length = l.length) : (sgCells l us).length = l.length * 2 := by
  induction l generalizing us with
  | nil => cases us <;> rfl
  | cons c l ih =>
    cases us with
    | nil => simp at h
    | cons u us =>
      have := ih us (by simpa using h)
      simp only [sgCells, List.length_cons, this]
      omega
theorem sgCells_app (l : List Seg) (us : List Value) (h : us.length = l.length) (m : List Seg) (vs : List Value) : sgCells (l ++ m) (us ++ vs) = sgCells l us ++ sgCells m vs := by
  induction l generalizing us with
  | nil => cases us with
    | nil => rfl
    | cons _ _ => simp at h
  | cons d l ih =>
    cases us with
    | nil => simp at h
    | cons u us =>
      have := ih us (by simpa using h)
      simp only [List.cons_append, sgCells, this]
theorem sgCells_at (l : List Seg) (us : List Value) (h : us.length = l.length) (k : Nat) (hk : k < l.length) (u : Value) (hu : us[k]? = some u) :
    (sgCells l us)[k * 2]? = some (.int .i64 (l[k]).n) ∧ (sgCells l us)[k * 2 + 1]? = some u := by
  induction l generalizing us k with
  | nil => simp at hk
  | cons d l ih =>
    cases us with
    | nil => simp at h
    | cons x us =>
      cases k with
      | zero =>
        simp at hu
        subst hu
        exact ⟨rfl, rfl⟩
      | succ k =>
        have := ih us (by simpa using h) k (by simpa using hk) (by simpa using hu)
        have e : (k + 1) * 2 = k * 2 + 2 := by omega
        rw [e]
        simpa [sgCells] using this
/-- v is the row of the segments ss, whose rows of indexes are us, each in a block of its own -/
def SgU (n0 : Nat) (w : World) (v : Value) (ss : List Seg) (us : List Value) : Prop :=
  us.length = ss.length ∧ w.ownsRow n0 81 2 v ss.length (sgCells ss us) ∧
    (∀ k (h : k < ss.length) u, us[k]? = some u → w.ownsRow n0 22 1 u (ss[k]).at_.length (nv (ss[k]).at_)) ∧
    (∀ (j k : Nat) (u u' : Value) (g : Nat), us[j]? = some u → us[k]? = some u' → u.ownBlock = some g → u'.ownBlock = some g → j = k)
def Sg (n0 : Nat) (w : World) (v : Value) (ss : List Seg) : Prop := ∃ us, SgU n0 w v ss us
theorem SgU.fr {M : TypeId → Prop} {n0 : Nat} {w w' : World} {v : Value} {ss : List Seg} {us : List Value} (h : SgU n0 w v ss us) (hf : Fr M w w') (h1 : ¬ M 81) (h2 : ¬ M 22) : SgU n0 w' v ss us :=
  ⟨h.1, own_fr h.2.1 hf h1, fun k hk u hu => own_fr (h.2.2.1 k hk u hu) hf h2, h.2.2.2⟩
theorem Sg.fr {M : TypeId → Prop} {n0 : Nat} {w w' : World} {v : Value} {ss : List Seg} (h : Sg n0 w v ss) (hf : Fr M w w') (h1 : ¬ M 81) (h2 : ¬ M 22) : Sg n0 w' v ss := by
  obtain ⟨us, h⟩ := h
  exact ⟨us, h.fr hf h1 h2⟩
theorem Sg.nil (n0 : Nat) (w : World) : Sg n0 w (.slice none 0 0) [] :=
  ⟨[], rfl, World.ownsRow_nil _ _ _ _, fun k hk => by simp at hk, fun j k u u' g h => by simp at h⟩

/-- the log in the box q, over the disk d -/
structure Wl (n0 : Nat) (w : World) (q d mb : Nat) (D : List (List UInt8 × Fil)) (ss : List Seg) (l : List Ent) (sa : Option Addr) (sc : Nat) (la : Option Addr) (lc : Nat) : Prop where
  box : Box w q 37 #[.pointer (some ⟨d, 0, none⟩), .slice sa ss.length sc, .slice la l.length lc]
  disk : Dp w d mb D
  low : n0 ≤ q
  lowm : n0 ≤ mb
  segs : Sg n0 w (.slice sa ss.length sc) ss
  es : Es w (.slice la l.length lc) l
def WlE (n0 : Nat) (w : World) (q d mb : Nat) (D : List (List UInt8 × Fil)) (ss : List Seg) (l : List Ent) : Prop := ∃ sa sc la lc, Wl n0 w q d mb D ss l sa sc la lc
theorem Wl.fr {M : TypeId → Prop} {n0 : Nat} {w w' : World} {q d mb : Nat} {D : List (List UInt8 × Fil)} {ss : List Seg} {l : List Ent} {sa : Option Addr} {sc : Nat} {la : Option Addr} {lc : Nat} (h : Wl n0 w q d mb D ss l sa sc la lc) (hf : Fr M w w')
    (hm : ∀ e, e ∈ [5, 108, 91, 37, 81, 22, 25] → ¬ M e) (hb : w'.heap[mb]? = w.heap[mb]?) : Wl n0 w' q d mb D ss l sa sc la lc :=
  ⟨h.box.fr hf (hm _ (by decide)), h.disk.fr hf (hm _ (by decide)) (hm _ (by decide)) (hm _ (by decide)) hb, h.low, h.lowm, h.segs.fr hf (hm _ (by decide)) (hm _ (by decide)), h.es.fr hf (hm _ (by decide)) (hm _ (by decide))⟩
theorem Wl.below {n0 : Nat} {w w' : World} {q d mb : Nat} {D : List (List UInt8 × Fil)} {ss : List Seg} {l : List Ent} {sa : Option Addr} {sc : Nat} {la : Option Addr} {lc : Nat} (h : Wl n0 w q d mb D ss l sa sc la lc) {B : Nat} (hb : Below B w w') (hB : w.heap.size ≤ B) : Wl n0 w' q d mb D ss l sa sc la lc :=
  h.fr (M := noTypes) (Fr.of_below hb hB) (fun _ _ => id) (hb.block mb (Nat.lt_of_lt_of_le h.disk.2.lt hB))
/-- behind a write to the disk -/
theorem Wl.disked {n0 : Nat} {w w' : World} {q d mb : Nat} {D D' : List (List UInt8 × Fil)} {ss : List Seg} {l : List Ent} {sa : Option Addr} {sc : Nat} {la : Option Addr} {lc : Nat} (h : Wl n0 w q d mb D ss l sa sc la lc) (hf : Fr noTypes w w') (hd : Dp w' d mb D') : Wl n0 w' q d mb D' ss l sa sc la lc :=
  ⟨h.box.fr hf id, hd, h.low, h.lowm, h.segs.fr hf id id, h.es.fr hf id id⟩
/-- the types that a log's calls write in place -/
def walT (e : TypeId) : Prop := e = 37 ∨ e = 81 ∨ e = 22
end Go.Proofs.YtpcipfnahknngaaGreatDoor

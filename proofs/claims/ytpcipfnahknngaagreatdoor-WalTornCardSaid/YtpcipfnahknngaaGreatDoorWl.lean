/- A log in memory: rows of segments; what the log's box reads as. No statement of the seat. -/
import Derived.Test.YtpcipfnahknngaaGreatDoorEnt
import Derived.Test.YtpcipfnahknngaaGreatDoorMaNam
import Derived.Laws.OwnMore
namespace Go.Proofs.YtpcipfnahknngaaGreatDoor
open Go.RowKit Go.Maps

/-! ### own rows from the first block on -/
theorem own_fr {M : TypeId → Prop} {w w' : World} {B : Nat} {e : TypeId} {sz : Nat} {v : Value} {n : Nat} {xs : List Value} (h : w.ownsRow B e sz v n xs) (hf : Fr M w w') (he : ¬ M e) : w'.ownsRow B e sz v n xs := by
  refine ⟨h.1, ?_⟩
  rcases h.2 with h2 | ⟨g, cap, cur, rfl, hb, hg, r⟩
  · exact Or.inl h2
  · exact Or.inr ⟨g, cap, cur, rfl, hb, (hf.kept g cur e _ hg he).trans hg, r⟩
/-- a row that grew in its own block -/
theorem Fr.grown {M : TypeId → Prop} {w w' : World} {v : Value} {e : TypeId} (hg : w.grownBy w' v.ownBlock) (ht : Ty e w v) (hm : M e) : Fr M w w' := by
  refine ⟨hg.os, hg.tape, hg.output, hg.size, fun g cur e2 fz hh he => hg.block g (lt_of_get hh) fun h => ?_⟩
  obtain ⟨cur2, fz2, h2⟩ := ht g h.symm
  rw [h2] at hh
  cases hh
  exact he hm
theorem grown_map {w w' : World} {v : Value} {e : TypeId} {b : Nat} {es : Array MapEntry} {c : Nat} (hg : w.grownBy w' v.ownBlock) (ht : Ty e w v) (hb : w.heap[b]? = some (Obj.map es c)) : w'.heap[b]? = w.heap[b]? := by
  refine hg.block b (lt_of_get hb) fun h => ?_
  obtain ⟨cur2, fz2, h2⟩ := ht b h.symm
  rw [h2] at hb
  cases hb
/-- the first n blocks are as they were, but the map in the block m -/
structure Lo (n m : Nat) (w w' : World) : Prop where
  size : w.heap.size ≤ w'.heap.size
  block : ∀ (g : Nat) (cur : Array Value) (e : TypeId) (fz : Nat × Nat), g < n → w.heap[g]? = some (Obj.cells cur e fz) → w'.heap[g]? = w.heap[g]?
  other : ∀ g, g < n → g < w.heap.size → g ≠ m → w'.heap[g]? = w.heap[g]?
/-- the map block may lie anywhere -/
def LowM (_ _ : Nat) : Prop := True
theorem Lo.of_all {n m : Nat} {w w' : World} (hs : w.heap.size ≤ w'.heap.size) (h : ∀ g, g < n → g < w.heap.size → w'.heap[g]? = w.heap[g]?) : Lo n m w w' :=
  ⟨hs, fun g _ _ _ hg hc => h g hg (lt_of_get hc), fun g hg hl _ => h g hg hl⟩
theorem Lo.all {n m : Nat} {w w' : World} (h : Lo n m w w') (hn : n ≤ m) : ∀ g, g < n → g < w.heap.size → w'.heap[g]? = w.heap[g]? := fun g hg hl => h.other g hg hl (by omega)
theorem Lo.refl (n m : Nat) (w : World) : Lo n m w w := Lo.of_all (Nat.le_refl _) fun _ _ _ => rfl
theorem Lo.trans {n m : Nat} {a b c : World} (h : Lo n m a b) (k : Lo n m b c) : Lo n m a c :=
  ⟨Nat.le_trans h.size k.size, fun g cur e fz hn hg => (k.block g cur e fz hn ((h.block g cur e fz hn hg).trans hg)).trans (h.block g cur e fz hn hg),
    fun g hn hg hm => (k.other g hn (Nat.lt_of_lt_of_le hg h.size) hm).trans (h.other g hn hg hm)⟩
theorem Lo.mono {n k m : Nat} {w w' : World} (h : Lo k m w w') (hn : n ≤ k) : Lo n m w w' := ⟨h.size, fun g cur e fz hg hs => h.block g cur e fz (Nat.lt_of_lt_of_le hg hn) hs, fun g hg hs hm => h.other g (Nat.lt_of_lt_of_le hg hn) hs hm⟩
theorem Lo.of_below {n m B : Nat} {w w' : World} (h : Below B w w') (hn : n ≤ B) : Lo n m w w' := Lo.of_all h.size fun g hg _ => h.block g (Nat.lt_of_lt_of_le hg hn)
theorem Lo.blw {n m B : Nat} {w w' : World} (h : Below B w w') (hB : w.heap.size ≤ B) : Lo n m w w' := Lo.of_all h.size fun g _ hs => h.block g (Nat.lt_of_lt_of_le hs hB)
theorem Fm.lo {n m : Nat} {w w' : World} (h : Fm m w w') (_ : LowM n m) : Lo n m w w' := ⟨h.gr.size, fun g cur e fz _ hs => h.fr.kept g cur e fz hs id, fun g _ hs hm => h.gr.block g hs fun e => hm (by cases e; rfl)⟩
theorem Lo.setCell {n m : Nat} {w w' : World} (h : Lo n m w w') (a : Addr) (u : Value) (hn : n ≤ a.block) : Lo n m w (w'.setCell a u) :=
  ⟨by simpa [World.setCell] using h.size, fun g cur e fz hg hs => by rw [Below.heap_setCell _ _ _ _ (show g ≠ a.block by omega)]; exact h.block g cur e fz hg hs,
    fun g hg hs hm => by rw [Below.heap_setCell _ _ _ _ (show g ≠ a.block by omega)]; exact h.other g hg hs hm⟩
theorem Lo.grown {n m : Nat} {w w' : World} {e : TypeId} {sz : Nat} {v : Value} {k : Nat} {xs : List Value} (hg : w.grownBy w' v.ownBlock) (ho : w.ownsRow n e sz v k xs) : Lo n m w w' :=
  Lo.of_all hg.size fun g hn hs => hg.block g hs fun h => by have := (ho.lt g h.symm).1; omega
/-- a cell lies in a block of cells -/
theorem cells_at {w : World} {a : Addr} {x : Value} (h : w.cell? a = some x) : ∃ cur t fz, w.heap[a.block]? = some (Obj.cells cur t fz) := by
  cases ho : w.heap[a.block]? with
  | none => simp [World.cell?, ho] at h
  | some o =>
    cases o with
    | cells cur t fz => exact ⟨cur, t, fz, rfl⟩
    | _ => simp [World.cell?, ho] at h
theorem Sl.fr0 {w w' : World} {sz : Nat} {v : Value} {n : Nat} {xs : List Value} (h : Sl w sz v n xs) (hf : Fr noTypes w w') : Sl w' sz v n xs := by
  obtain ⟨h1, h2, ao, cap, hv, h3, h4, h6, h5⟩ := h
  refine ⟨h1, h2, ao, cap, hv, h3, h4, h6, h5.imp id ?_⟩
  rintro ⟨g, off, e, hc⟩
  refine ⟨g, off, e, fun j x hj => ?_⟩
  have h7 := hc j x hj
  obtain ⟨cur, t, fz, ho⟩ := cells_at h7
  exact (World.cell?_of_block (a := ⟨g, off + j, none⟩) (hf.kept g cur t fz ho id)).trans h7
/-- the block of v is a row of elements of type e, or one of the first n -/
def Pl (e : TypeId) (n : Nat) (w : World) (v : Value) : Prop := ∀ g, v.ownBlock = some g → (∃ cur fz, w.heap[g]? = some (Obj.cells cur e fz)) ∨ g < n
theorem Pl.go {M : TypeId → Prop} {n : Nat} {w w' : World} {e : TypeId} {v : Value} (hp : Pl e n w v) (hf : Fr M w w') (he : ¬ M e) : Pl e n w' v := fun g hg => by
  rcases hp g hg with ⟨cur, fz, h⟩ | h
  · exact Or.inl ⟨cur, fz, (hf.kept g cur e fz h he).trans h⟩
  · exact Or.inr h
theorem Sl.go {M : TypeId → Prop} {n m : Nat} {w w' : World} {e : TypeId} {sz : Nat} {v : Value} {k : Nat} {xs : List Value} (h : Sl w sz v k xs) (hp : k ≠ 0 → Pl e n w v) (hf : Fr M w w') (he : ¬ M e) (hl : Lo n m w w') : Sl w' sz v k xs := by
  obtain ⟨h1, h2, ao, cap, hv, h3, h4, h6, h5⟩ := h
  refine ⟨h1, h2, ao, cap, hv, h3, h4, h6, h5.imp id ?_⟩
  rintro ⟨g, off, ea, hc⟩
  refine ⟨g, off, ea, fun j x hj => ?_⟩
  have h7 := hc j x hj
  obtain ⟨cur, t, fz, ho⟩ := cells_at h7
  have hk0 : k ≠ 0 := fun h0 => by
    rw [h0, Nat.zero_mul] at h1
    rw [List.eq_nil_of_length_eq_zero h1] at hj
    cases hj
  have hk : w'.heap[g]? = w.heap[g]? := by
    rcases hp hk0 g (by rw [hv, ea]; rfl) with ⟨cur', fz', h8⟩ | h8
    · exact hf.kept g cur' e fz' h8 he
    · exact hl.block g cur t fz h8 ho
  exact (World.cell?_of_block (a := ⟨g, off + j, none⟩) hk).trans h7
/-- bytes whose block no call of the log turns -/
def BtX (n : Nat) (w : World) (v : Value) (l : List UInt8) : Prop := Bt w v l ∧ (l.length ≠ 0 → Pl 5 n w v)
theorem BtT.x {n : Nat} {w : World} {v : Value} {l : List UInt8} (h : BtT w v l) : BtX n w v l := ⟨h.1, fun _ g hg => Or.inl (h.2 g hg)⟩
theorem BtX.go {M : TypeId → Prop} {n m : Nat} {w w' : World} {v : Value} {l : List UInt8} (h : BtX n w v l) (hf : Fr M w w') (he : ¬ M 5) (hl : Lo n m w w') : BtX n w' v l := ⟨Sl.go h.1 h.2 hf he hl, fun h0 => (h.2 h0).go hf he⟩
theorem BtX.fr0 {n : Nat} {w w' : World} {v : Value} {l : List UInt8} (h : BtX n w v l) (hf : Fr noTypes w w') : BtX n w' v l := ⟨Sl.fr0 h.1 hf, fun h0 => (h.2 h0).go hf id⟩
/-- .. a row of entries -/
def EsX (n : Nat) (w : World) (v : Value) (l : List Ent) : Prop :=
  ∃ us : List Value, us.length = l.length ∧ Sl w 3 v l.length (enCells l us) ∧ (l.length ≠ 0 → Pl 25 n w v) ∧ ∀ k (h : k < l.length), ∃ u, us[k]? = some u ∧ BtX n w u (l[k]).b
theorem Es.x {n : Nat} {w : World} {v : Value} {l : List Ent} (h : Es w v l) : EsX n w v l := by
  obtain ⟨us, h1, h2, h3, h4⟩ := h
  exact ⟨us, h1, h2, fun _ g hg => Or.inl (h3 g hg), fun k hk => by obtain ⟨u, a, b⟩ := h4 k hk; exact ⟨u, a, b.x⟩⟩
theorem EsX.go {M : TypeId → Prop} {n m : Nat} {w w' : World} {v : Value} {l : List Ent} (h : EsX n w v l) (hf : Fr M w w') (h5 : ¬ M 5) (h25 : ¬ M 25) (hl : Lo n m w w') : EsX n w' v l := by
  obtain ⟨us, h1, h2, h3, h4⟩ := h
  exact ⟨us, h1, Sl.go h2 h3 hf h25 hl, fun h0 => (h3 h0).go hf h25, fun k hk => by obtain ⟨u, a, b⟩ := h4 k hk; exact ⟨u, a, b.go hf h5 hl⟩⟩
theorem EsX.fr0 {n : Nat} {w w' : World} {v : Value} {l : List Ent} (h : EsX n w v l) (hf : Fr noTypes w w') : EsX n w' v l := by
  obtain ⟨us, h1, h2, h3, h4⟩ := h
  exact ⟨us, h1, Sl.fr0 h2 hf, fun h0 => (h3 h0).go hf id, fun k hk => by obtain ⟨u, a, b⟩ := h4 k hk; exact ⟨u, a, b.fr0 hf⟩⟩
theorem tab_keep {n : String} {g : Nat} {k : IntKind} {zs : List Int} {w w' : World} (hg : Tryz.prog.globalNamed n = some g) (h : Lib.TabIs Tryz.prog w n k zs) (hk : ∀ (cur : Array Value) (e : TypeId) (fz : Nat × Nat), w.heap[g]? = some (Obj.cells cur e fz) → w'.heap[g]? = w.heap[g]?) : Lib.TabIs Tryz.prog w' n k zs := by
  unfold Lib.TabIs at h ⊢
  unfold World.var? at h ⊢
  simp only [hg, Option.bind_some] at h ⊢
  cases hc : w.heap[g]? with
  | none => rw [hc] at h; simp at h
  | some o =>
    cases o with
    | cells cur e fz => rw [hk cur e fz hc]; exact h
    | _ => rw [hc] at h; simp at h
theorem pow_named : Tryz.prog.globalNamed "internal/strconv.uint64pow10" = some 2 := by kernel_rfl
abbrev PowTab (w : World) : Prop := Lib.TabIs Tryz.prog w "internal/strconv.uint64pow10" .u64 Lib.pow10Tab
theorem PowTab.fr {w w' : World} (h : PowTab w) (hf : Fr noTypes w w') : PowTab w' := tab_keep pow_named h fun cur e fz hc => hf.kept _ cur e fz hc id
theorem PowTab.below {w w' : World} (h : PowTab w) {B : Nat} (hb : Below B w w') (hB : w.heap.size ≤ B) : PowTab w' := h.fr (Fr.of_below hb hB)
theorem PowTab.lo {w w' : World} {n m : Nat} (h : PowTab w) (hl : Lo n m w w') (hn : 2 < n) : PowTab w' := tab_keep pow_named h fun cur e fz hc => hl.block _ cur e fz (by omega) hc

theorem Dp.fr {M : TypeId → Prop} {w w' : World} {d mb : Nat} {D : List (List UInt8 × Fil)} (h : Dp w d mb D) (hf : Fr M w w') (h5 : ¬ M 5) (h8 : ¬ M 108) (h9 : ¬ M 91) (hm : w'.heap[mb]? = w.heap[mb]?) : Dp w' d mb D := by
  obtain ⟨⟨fz, h1⟩, h2⟩ := h
  exact ⟨⟨fz, (hf.kept _ _ _ _ h1 h9).trans h1⟩, h2.fr hf h5 h8 hm⟩
theorem Dp.map {w : World} {d mb : Nat} {D : List (List UInt8 × Fil)} (h : Dp w d mb D) : ∃ es c, w.heap[mb]? = some (Obj.map es c) := by
  obtain ⟨_, l, ⟨es, clock, hb, _⟩, _⟩ := h
  exact ⟨es, clock, hb⟩
theorem Box.fr {M : TypeId → Prop} {w w' : World} {g : Nat} {t : TypeId} {xs : Array Value} (h : Box w g t xs) (hf : Fr M w w') (he : ¬ M t) : Box w' g t xs := (hf.kept _ _ _ _ h he).trans h
/-- a row that grew, beside a box of another type -/
theorem Box.grown {w w' : World} {g : Nat} {t : TypeId} {xs : Array Value} (h : Box w g t xs) {v : Value} {e : TypeId} (hg : w.grownBy w' v.ownBlock) (ht : Ty e w v) (hne : e ≠ t) : Box w' g t xs := by
  refine (hg.block g (lt_of_get h) fun h2 => ?_).trans h
  obtain ⟨cur2, fz2, h3⟩ := ht g h2.symm
  unfold Box at h
  rw [h3] at h
  cases h
  exact hne rfl

/-! ### segments -/
/-- a segment: its number, its records' indexes -/
structure Seg where
  n : Nat
  at_ : List Nat
def nv (l : List Nat) : List Value := l.map fun (i : Nat) => Value.int .u64 (i : Int)
@[simp] theorem nv_length (l : List Nat) : (nv l).length = l.length := by simp [nv]
@[simp] theorem nv_append (l m : List Nat) : nv (l ++ m) = nv l ++ nv m := by simp [nv]
theorem nv_one (l : List Nat) : ∀ u ∈ nv l, u.oneCell' = true := by
  intro u hu
  simp only [nv, List.mem_map] at hu
  obtain ⟨b, _, rfl⟩ := hu
  rfl
theorem nv_get (l : List Nat) (j : Nat) (h : j < l.length) : (nv l)[j]? = some (.int .u64 (l[j] : Nat)) := by simp [nv, h]
def sgCells : List Seg → List Value → List Value
  | s :: ss, u :: us => .int .i64 s.n :: u :: sgCells ss us
  | _, _ => []
theorem sgCells_len (l : List Seg) (us : List Value) (h : us.length = l.length) : (sgCells l us).length = l.length * 2 := by
  induction l generalizing us with
  | nil => cases us <;> rfl
  | cons c l ih =>
    cases us with
    | nil => simp at h
    | cons u us =>
      have := ih us (by simpa using h)
      simp only [sgCells, List.length_cons, this]
      omega
theorem sgCells_app (l : List Seg) (us : List Value) (h : us.length = l.length) (m : List Seg) (vs : List Value) : sgCells (l ++ m) (us ++ vs) = sgCells l us ++ sgCells m vs := by
  induction l generalizing us with
  | nil => cases us with
    | nil => rfl
    | cons _ _ => simp at h
  | cons d l ih =>
    cases us with
    | nil => simp at h
    | cons u us =>
      have := ih us (by simpa using h)
      simp only [List.cons_append, sgCells, this]
theorem sgCells_at (l : List Seg) (us : List Value) (h : us.length = l.length) (k : Nat) (hk : k < l.length) (u : Value) (hu : us[k]? = some u) :
    (sgCells l us)[k * 2]? = some (.int .i64 (l[k]).n) ∧ (sgCells l us)[k * 2 + 1]? = some u := by
  induction l generalizing us k with
  | nil => simp at hk
  | cons d l ih =>
    cases us with
    | nil => simp at h
    | cons x us =>
      cases k with
      | zero =>
        simp at hu
        subst hu
        exact ⟨rfl, rfl⟩
      | succ k =>
        have := ih us (by simpa using h) k (by simpa using hk) (by simpa using hu)
        have e : (k + 1) * 2 = k * 2 + 2 := by omega
        rw [e]
        simpa [sgCells] using this
/-- v is the row of the segments ss, whose rows of indexes are us, each in a block of its own -/
def SgU (n0 : Nat) (w : World) (v : Value) (ss : List Seg) (us : List Value) : Prop :=
  us.length = ss.length ∧ w.ownsRow n0 81 2 v ss.length (sgCells ss us) ∧
    (∀ k (h : k < ss.length) u, us[k]? = some u → w.ownsRow n0 22 1 u (ss[k]).at_.length (nv (ss[k]).at_)) ∧
    (∀ (j k : Nat) (u u' : Value) (g : Nat), us[j]? = some u → us[k]? = some u' → u.ownBlock = some g → u'.ownBlock = some g → j = k)
def Sg (n0 : Nat) (w : World) (v : Value) (ss : List Seg) : Prop := ∃ us, SgU n0 w v ss us
theorem SgU.fr {M : TypeId → Prop} {n0 : Nat} {w w' : World} {v : Value} {ss : List Seg} {us : List Value} (h : SgU n0 w v ss us) (hf : Fr M w w') (h1 : ¬ M 81) (h2 : ¬ M 22) : SgU n0 w' v ss us :=
  ⟨h.1, own_fr h.2.1 hf h1, fun k hk u hu => own_fr (h.2.2.1 k hk u hu) hf h2, h.2.2.2⟩
theorem Sg.fr {M : TypeId → Prop} {n0 : Nat} {w w' : World} {v : Value} {ss : List Seg} (h : Sg n0 w v ss) (hf : Fr M w w') (h1 : ¬ M 81) (h2 : ¬ M 22) : Sg n0 w' v ss := by
  obtain ⟨us, h⟩ := h
  exact ⟨us, h.fr hf h1 h2⟩
theorem Sg.nil (n0 : Nat) (w : World) : Sg n0 w (.slice none 0 0) [] :=
  ⟨[], rfl, World.ownsRow_nil _ _ _ _, fun k hk => by simp at hk, fun j k u u' g h => by simp at h⟩

/-- the log in the box q, over the disk d -/
structure Wl (n0 : Nat) (w : World) (q d mb : Nat) (D : List (List UInt8 × Fil)) (ss : List Seg) (l : List Ent) (sa : Option Addr) (sc : Nat) (la : Option Addr) (lc : Nat) : Prop where
  box : Box w q 37 #[.pointer (some ⟨d, 0, none⟩), .slice sa ss.length sc, .slice la l.length lc]
  disk : Dp w d mb D
  low : n0 ≤ q
  lowm : LowM n0 mb
  segs : Sg n0 w (.slice sa ss.length sc) ss
  es : Es w (.slice la l.length lc) l
def WlE (n0 : Nat) (w : World) (q d mb : Nat) (D : List (List UInt8 × Fil)) (ss : List Seg) (l : List Ent) : Prop := ∃ sa sc la lc, Wl n0 w q d mb D ss l sa sc la lc
theorem Wl.fr {M : TypeId → Prop} {n0 : Nat} {w w' : World} {q d mb : Nat} {D : List (List UInt8 × Fil)} {ss : List Seg} {l : List Ent} {sa : Option Addr} {sc : Nat} {la : Option Addr} {lc : Nat} (h : Wl n0 w q d mb D ss l sa sc la lc) (hf : Fr M w w')
    (hm : ∀ e, e ∈ [5, 108, 91, 37, 81, 22, 25] → ¬ M e) (hb : w'.heap[mb]? = w.heap[mb]?) : Wl n0 w' q d mb D ss l sa sc la lc :=
  ⟨h.box.fr hf (hm _ (by decide)), h.disk.fr hf (hm _ (by decide)) (hm _ (by decide)) (hm _ (by decide)) hb, h.low, h.lowm, h.segs.fr hf (hm _ (by decide)) (hm _ (by decide)), h.es.fr hf (hm _ (by decide)) (hm _ (by decide))⟩
theorem Wl.below {n0 : Nat} {w w' : World} {q d mb : Nat} {D : List (List UInt8 × Fil)} {ss : List Seg} {l : List Ent} {sa : Option Addr} {sc : Nat} {la : Option Addr} {lc : Nat} (h : Wl n0 w q d mb D ss l sa sc la lc) {B : Nat} (hb : Below B w w') (hB : w.heap.size ≤ B) : Wl n0 w' q d mb D ss l sa sc la lc :=
  h.fr (M := noTypes) (Fr.of_below hb hB) (fun _ _ => id) (hb.block mb (Nat.lt_of_lt_of_le h.disk.2.lt hB))
/-- behind a write to the disk -/
theorem Wl.disked {n0 : Nat} {w w' : World} {q d mb : Nat} {D D' : List (List UInt8 × Fil)} {ss : List Seg} {l : List Ent} {sa : Option Addr} {sc : Nat} {la : Option Addr} {lc : Nat} (h : Wl n0 w q d mb D ss l sa sc la lc) (hf : Fr noTypes w w') (hd : Dp w' d mb D') : Wl n0 w' q d mb D' ss l sa sc la lc :=
  ⟨h.box.fr hf id, hd, h.low, h.lowm, h.segs.fr hf id id, h.es.fr hf id id⟩
/-- the types that a log's calls write in place -/
def walT (e : TypeId) : Prop := e = 37 ∨ e = 81 ∨ e = 22
end Go.Proofs.YtpcipfnahknngaaGreatDoor

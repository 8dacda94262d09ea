/- What the texts of this seat say of memory: slices that read as rows of cells, what stays as it was, appends. No statement of the seat. -/
import Derived.Test.YtpcipfnahknngaaGreatDoorProg
import Derived.WalkKit
import Derived.Deep.LoopGhost
import Derived.Lib.Hide
import Derived.Laws.AppendOwnNone
import Derived.Laws.BytesArg
import Derived.Laws.IdiomStrings
namespace Go.Proofs.YtpcipfnahknngaaGreatDoor
open Go.RowKit

theorem info5 : (Tryz.prog.info? 5).map (fun i => (i.zero, i.size, i.bytes)) = some (some (.int .u8 0), 1, 1) := by kernel_rfl

/-- bytes as cells -/
def bv (l : List UInt8) : List Value := l.map fun b => .int .u8 b.toNat

@[simp] theorem bv_length (l : List UInt8) : (bv l).length = l.length := by simp [bv]
@[simp] theorem bv_append (l m : List UInt8) : bv (l ++ m) = bv l ++ bv m := by simp [bv]
theorem bv_one (l : List UInt8) : ∀ u ∈ bv l, u.oneCell' = true := by
  intro u hu
  simp only [bv, List.mem_map] at hu
  obtain ⟨b, _, rfl⟩ := hu
  rfl
theorem bv_get (l : List UInt8) (j : Nat) (h : j < l.length) : (bv l)[j]? = some (.int .u8 (l[j]).toNat) := by
  simp [bv, h]

/-- v is a slice of n elements of sz cells each, that are xs -/
def Sl (w : World) (sz : Nat) (v : Value) (n : Nat) (xs : List Value) : Prop :=
  xs.length = n * sz ∧ (∀ u ∈ xs, u.oneCell' = true) ∧ ∃ ao cap, v = .slice ao n cap ∧ n ≤ cap ∧ cap ≤ maxLen ∧ (ao = none → cap = 0) ∧
    (n = 0 ∨ ∃ g off, ao = some ⟨g, off, none⟩ ∧ ∀ j u, xs[j]? = some u → w.cell? ⟨g, off + j, none⟩ = some u)

/-- .. bytes -/
def Bt (w : World) (v : Value) (l : List UInt8) : Prop := Sl w 1 v l.length (bv l)

theorem Sl.nil (w : World) (sz : Nat) : Sl w sz (.slice none 0 0) 0 [] :=
  ⟨by simp, by simp, none, 0, rfl, Nat.le_refl _, Nat.zero_le _, fun _ => rfl, Or.inl rfl⟩
theorem Bt.nil (w : World) : Bt w (.slice none 0 0) [] := Sl.nil w 1

theorem Sl.below {w w' : World} {sz : Nat} {v : Value} {n : Nat} {xs : List Value} (h : Sl w sz v n xs) {B : Nat} (hB : Below B w w') (hs : w.heap.size ≤ B) : Sl w' sz v n xs := by
  obtain ⟨h1, h2, ao, cap, rfl, h3, h4, h6, h5⟩ := h
  refine ⟨h1, h2, ao, cap, rfl, h3, h4, h6, ?_⟩
  rcases h5 with h5 | ⟨g, off, rfl, h5⟩
  · exact Or.inl h5
  · refine Or.inr ⟨g, off, rfl, fun j u hj => ?_⟩
    have hc := h5 j u hj
    rw [hB.cell (p := ⟨g, off + j, none⟩) (Nat.lt_of_lt_of_le (World.block_lt_of_cell? w _ hc) hs)]
    exact hc
theorem Bt.below {w w' : World} {v : Value} {l : List UInt8} (h : Bt w v l) {B : Nat} (hB : Below B w w') (hs : w.heap.size ≤ B) : Bt w' v l := Sl.below h hB hs

/-- what a row of the call's own reads as -/
theorem Sl.of_own {w : World} {B : Nat} {e : TypeId} {sz : Nat} {v : Value} {n : Nat} {xs : List Value} (h : w.ownsRow B e sz v n xs) (h1 : ∀ u ∈ xs, u.oneCell' = true) : Sl w sz v n xs := by
  refine ⟨h.1, h1, ?_⟩
  rcases h.2 with ⟨rfl, rfl⟩ | ⟨g, cap, cur, rfl, hb, hg, hnc, hcm, hcs, ht⟩
  · exact ⟨none, 0, rfl, Nat.le_refl _, Nat.zero_le _, fun _ => rfl, Or.inl rfl⟩
  · refine ⟨some ⟨g, 0, none⟩, cap, rfl, hnc, hcm, (fun h => by cases h), Or.inr ⟨g, 0, rfl, fun j u hj => ?_⟩⟩
    rw [Nat.zero_add, cell_of_row w g j cur e (0, 0) hg]
    rw [← ht, List.getElem?_take] at hj
    split at hj
    · simpa using hj
    · cases hj
theorem Bt.of_own {w : World} {B : Nat} {v : Value} {l : List UInt8} (h : w.ownsRow B 5 1 v l.length (bv l)) : Bt w v l := Sl.of_own h (bv_one l)

section
variable {w : World} {ops : Array Oper} {rest : List Oper} {o : Oper} {a : Act} {Q : Exit → Act → World → Prop}

theorem _root_.Go.World.ownsRow.base {w : World} {B B' : Nat} {e : TypeId} {sz : Nat} {v : Value} {n : Nat} {xs : List Value} (h : w.ownsRow B e sz v n xs) (hB : B' ≤ B) : w.ownsRow B' e sz v n xs := by
  refine ⟨h.1, ?_⟩
  rcases h.2 with h2 | ⟨g, cap, cur, h3, hb, r⟩
  · exact Or.inl h2
  · exact Or.inr ⟨g, cap, cur, h3, Nat.le_trans hB hb, r⟩
theorem own_shape {w : World} {B : Nat} {e : TypeId} {sz : Nat} {v : Value} {n : Nat} {xs : List Value} (h : w.ownsRow B e sz v n xs) : ∃ ao cap, v = .slice ao n cap := by
  rcases h.2 with ⟨rfl, rfl⟩ | ⟨g, cap, cur, rfl, _⟩
  · exact ⟨_, _, rfl⟩
  · exact ⟨_, _, rfl⟩

/-- append of whatever reads as a row, to a row of the call's own -/
theorem wl_app (hgd : o.guard = none) (s x : Operand) (t : TypeId)
    (ho : o.op = .call { callee := .builtin .append, args := #[s, x], argTypes := #[t, t] })
    (B : Nat) (e : TypeId) (z : Value) (sz bytes : Nat) (ht : Tryz.prog.underlying t = some (.slice e)) (hi : (Tryz.prog.info? e).map (fun i => (i.zero, i.size, i.bytes)) = some (some z, sz, bytes))
    (hzs : z.cells.size = sz) (hsz : 0 < sz)
    (v : Value) (n : Nat) (xs : List Value) (hs : a.eval s = v) (hown : w.ownsRow B e sz v n xs)
    (y : Value) (m : Nat) (ys : List Value) (hx : a.eval x = y) (hy : Sl w sz y m ys)
    (h63 : n + m ≤ maxLen) (hbytes : (n + m) * bytes ≤ 140737488355328) (hbase : B ≤ w.heap.size)
    (h : ∀ v' w', w'.ownsRow B e sz v' (n + m) (xs ++ ys) → w.grownBy w' v.ownBlock → wpList Tryz.prog ops Q rest (a.put o.dst v') w') : wpList Tryz.prog ops Q (o :: rest) a w := by
  obtain ⟨i0, hi, hz0, hz1, hz2⟩ := info_parts hi
  obtain ⟨y1, y2, ao, cap, rfl, y3, y4, y7, y5⟩ := hy
  cases ao with
  | none =>
    have hm : m = 0 := by
      rcases y5 with y5 | ⟨g, off, y5, _⟩
      · exact y5
      · cases y5
    subst hm
    have hys : ys = [] := List.eq_nil_of_length_eq_zero (by simpa using y1)
    subst hys
    obtain rfl := y7 rfl
    refine wpList_append_own_none hgd s x t ho B e i0 sz ht hi v n xs hs hown hx ?_
    refine h v w ?_ ⟨rfl, rfl, rfl, Nat.le_refl _, fun _ _ _ => rfl⟩
    simpa using hown
  | some ad =>
    refine wpList_append_own w hgd s x t ho B e i0 z sz bytes ht hi hz0 hz1 hz2 hzs hsz v n xs hs hown ad m cap ys hx y1 ?_ y2 h63 hbytes hbase fun v' w' h1 h2 _ => h v' w' h1 h2
    intro j u hj
    rcases y5 with rfl | ⟨g, off, y5, y6⟩
    · have e0 : ys = [] := List.eq_nil_of_length_eq_zero (by simpa using y1)
      subst e0
      simp at hj
    · cases y5
      have := y6 j u hj
      unfold Addr.add
      split
      · rename_i e0; subst e0; simpa using this
      · exact this

theorem wl_appB (hgd : o.guard = none) (s x : Operand)
    (ho : o.op = .call { callee := .builtin .append, args := #[s, x], argTypes := #[23, 23] })
    (B : Nat) (v : Value) (l : List UInt8) (hs : a.eval s = v) (hown : w.ownsRow B 5 1 v l.length (bv l))
    (y : Value) (m : List UInt8) (hx : a.eval x = y) (hy : Bt w y m) (hlen : l.length + m.length ≤ 140737488355328) (hbase : B ≤ w.heap.size)
    (h : ∀ v' w', w'.ownsRow B 5 1 v' (l ++ m).length (bv (l ++ m)) → w.grownBy w' v.ownBlock → wpList Tryz.prog ops Q rest (a.put o.dst v') w') : wpList Tryz.prog ops Q (o :: rest) a w :=
  wl_app hgd s x 23 ho B 5 (.int .u8 0) 1 1 Tryz.underlying23 info5 rfl (by decide) v l.length (bv l) hs hown y m.length (bv m) hx hy (by unfold maxLen; omega) (by omega) hbase
    fun v' w' h1 h2 => h v' w' (by simpa using h1) h2
end

/-- one byte, in a new block -/
theorem Bt.one (w : World) (x : Int) (hx : 0 ≤ x) (hx2 : x < 256) : Bt (w.alloc (.cells #[.int .u8 x] 5)) (.slice (some ⟨w.heap.size, 0, none⟩) 1 1) [UInt8.ofNat x.toNat] := by
  refine ⟨by simp, bv_one _, some ⟨w.heap.size, 0, none⟩, 1, rfl, Nat.le_refl _, by decide, (fun h => by cases h), Or.inr ⟨w.heap.size, 0, rfl, fun j u hj => ?_⟩⟩
  match j, hj with
  | 0, hj =>
    simp [bv] at hj
    subst hj
    rw [World.cell?_alloc_at _ _ _ _ rfl]
    simp
    omega

/-- bytes as a text -/
def tx (l : List UInt8) : ByteArray := ⟨l.toArray⟩
@[simp] theorem tx_size (l : List UInt8) : (tx l).size = l.length := by simp [tx, ByteArray.size]
@[simp] theorem tx_list (l : List UInt8) : (tx l).data.toList = l := by simp [tx]
theorem tx_of (s : ByteArray) : tx s.data.toList = s := by cases s; simp [tx]

/-- '[]byte(s)' -/
theorem conv_bytes (w : World) (s : List UInt8) (hs : s.length ≤ 140737488351232) : ∃ v w', (convert 9 23 (.string (tx s))).run Tryz.prog w = .ok v w' ∧ Bt w' v s ∧ Below w.heap.size w w' ∧ (∃ cap, v = .slice (some ⟨w.heap.size, 0, none⟩) s.length cap) := by
  have h := run_bytes_of_string (P := Tryz.prog) w 9 23 5 (tx s) Tryz.underlying9 Tryz.underlying23 Tryz.underlying5
  have hge := grownCap_ge w s.length 0 5
  have hle := grownCap_le_maxLen w s.length 0 5 (by unfold maxLen; omega)
  rw [tx_size] at h
  refine ⟨_, _, h, ?_, (Below.refl _ _).drew.alloc (Nat.le_refl _) _, _, rfl⟩
  refine ⟨by simp, bv_one _, some ⟨w.heap.size, 0, none⟩, _, rfl, hge, hle, (fun h => by cases h), Or.inr ⟨w.heap.size, 0, rfl, fun j u hj => ?_⟩⟩
  have hjl : j < s.length := by
    have := (List.getElem?_eq_some_iff.1 hj).1
    simpa using this
  rw [bv_get s j hjl] at hj
  cases hj
  rw [Nat.zero_add, cell_of_row _ w.heap.size j _ 5 _ (heap_alloc_new w.drew _)]
  exact bytesRow_at (tx s) _ j (by simpa [tx] using hjl)

section
variable {w : World} {ops : Array Oper} {rest : List Oper} {o : Oper} {a : Act} {Q : Exit → Act → World → Prop}
theorem wl_bytes (hgd : o.guard = none) (x : Operand) (ho : o.op = .convert 9 23 x) (s : List UInt8) (hx : a.eval x = .string (tx s)) (hs : s.length ≤ 140737488351232)
    (h : ∀ g cap w', Bt w' (.slice (some g) s.length cap) s → Below w.heap.size w w' → wpList Tryz.prog ops Q rest (a.put o.dst (.slice (some g) s.length cap)) w') : wpList Tryz.prog ops Q (o :: rest) a w := by
  obtain ⟨v, w', h1, h2, h3, cap, rfl⟩ := conv_bytes w s hs
  refine wpList_plain hgd fun K hK => ?_
  unfold Oper.wp
  simp only [execOp, ho, hx, h1, Sem.run_bind, Result.andThen_ok, Sem.run_pure]
  exact hK _ _ (h _ _ _ h2 h3)
end

/-- 'string(b)' -/
theorem conv_str (w : World) (v : Value) (l : List UInt8) (h : Bt w v l) : (convert 23 9 v).run Tryz.prog w = .ok (.string (tx l)) w := by
  obtain ⟨y1, y2, ao, cap, rfl, y3, y4, y7, y5⟩ := h
  rcases y5 with y5 | ⟨g, off, rfl, hc⟩
  · have hl : l = [] := List.eq_nil_of_length_eq_zero y5
    subst hl
    cases ao with
    | none => exact run_convert_bytes_nil (P := Tryz.prog) (w := w) 23 5 Tryz.underlying23 Tryz.underlying5 0 cap 9 Tryz.underlying9
    | some ad => exact run_convert_bytes_back w 23 9 5 ad cap [] Tryz.underlying23 Tryz.underlying5 Tryz.underlying9 (fun j hj => by simp at hj)
  · refine run_convert_bytes_back w 23 9 5 ⟨g, off, none⟩ cap l Tryz.underlying23 Tryz.underlying5 Tryz.underlying9 (fun j hj => ?_)
    have := hc j _ (bv_get l j hj)
    unfold Addr.add
    split
    · rename_i e0; subst e0; simpa using this
    · exact this
end Go.Proofs.YtpcipfnahknngaaGreatDoor

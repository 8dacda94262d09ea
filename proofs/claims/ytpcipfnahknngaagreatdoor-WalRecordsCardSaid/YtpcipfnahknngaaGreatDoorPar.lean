/- Contracts of wal.Record where it refuses, wal.Parse, wal.Same. No statement of the seat. -/
import Derived.Test.YtpcipfnahknngaaGreatDoorRec
namespace Go.Proofs.YtpcipfnahknngaaGreatDoor
open Go.RowKit

/-- v reads as the entry x -/
def En (w : World) (v : Value) (x : Ent) : Prop := ∃ u, v = .agg #[.int .u64 x.i, .int .u64 x.t, u] ∧ Bt w u x.b
theorem En.below {w w' : World} {v : Value} {x : Ent} (h : En w v x) {B : Nat} (hB : Below B w w') (hs : w.heap.size ≤ B) : En w' v x := by
  obtain ⟨u, h1, h2⟩ := h
  exact ⟨u, h1, h2.below hB hs⟩
def noEnt : Value := .agg #[.int .u64 0, .int .u64 0, .slice none 0 0]

set_option maxRecDepth 100000 in
set_option maxHeartbeats 800000 in
theorem record7_arg (t : Nat) (u : Value) (w : World) :
    Calls Tryz.prog 7 #[.agg #[.int .u64 0, .int .u64 t, u]] w fun e w' => e = .returned (.tuple #[.slice none 0 0, .int .i64 2]) ∧ Below w.heap.size w w' := by
  go_enter Tryz.func7, Tryz.ntmps7
  go_wp2
  go_ret2
  exact ⟨rfl, (Below.refl _ _).alloc (Nat.le_refl _) _⟩

set_option maxRecDepth 100000 in
set_option maxHeartbeats 800000 in
theorem record7_long (x : Ent) (u : Value) (w : World) (hu : Bt w u x.b) (h0 : x.i ≠ 0) (hl : 2000 < x.b.length) :
    Calls Tryz.prog 7 #[.agg #[.int .u64 x.i, .int .u64 x.t, u]] w fun e w' => e = .returned (.tuple #[.slice none 0 0, .int .i64 3]) ∧ Below w.heap.size w w' := by
  have hd0 : ((x.i : Int) == 0) = false := by simp; omega
  obtain ⟨y1, y2, ao, cap, rfl, y3, y4, y7, y5⟩ := hu
  clear y1 y2 y3 y4 y7 y5
  go_enter Tryz.func7, Tryz.ntmps7
  go_wp2
  go_ret2
  exact ⟨rfl, (Below.refl _ _).alloc (Nat.le_refl _) _⟩

/-- the entry of a record -/
def parseT (b : List UInt8) : Option Ent :=
  match takeT b 0 with
  | (i, a1, e1) => match takeT b a1 with
    | (t, a2, e2) => match takeTextT b a2 with
      | (s, a3, e3) => if e1 = 0 ∧ e2 = 0 ∧ e3 = 0 ∧ a3 = b.length ∧ i ≠ 0 ∧ s.length ≤ 2000 then some ⟨i, t, s⟩ else none

theorem takeT_le (b : List UInt8) (at_ : Nat) : (takeT b at_).2.1 ≤ b.length := by
  cases h : takeT b at_ with
  | mk n p =>
    obtain ⟨nx, e⟩ := p
    by_cases he : e = 0
    · subst he; exact (takeT_ok h).2
    · have := takeT_bad h he
      show nx ≤ _
      omega

theorem take39i (v : Value) (b : List UInt8) (a : Int) (at_ : Nat) (ha : a = at_) (w : World) (hv : Bt w v b) (hb : b.length ≤ 140737488351232) (hat : at_ ≤ 140737488351232) :
    Calls Tryz.prog 39 #[v, .int .i64 a] w fun e w' => e = .returned (.tuple #[.int .u64 (takeT b at_).1, .int .i64 (takeT b at_).2.1, .int .i64 (takeT b at_).2.2]) ∧ w' = w := by
  subst ha; exact take39 v b at_ w hv hb hat

set_option maxRecDepth 100000 in
set_option maxHeartbeats 1600000 in
theorem parse9_no (v : Value) (b : List UInt8) (w : World) (hv : Bt w v b) (hb : b.length ≤ 140737488351232) (hp : parseT b = none) :
    Calls Tryz.prog 9 #[v] w fun e w' => e = .returned (.tuple #[noEnt, .int .i64 4]) ∧ Below w.heap.size w w' := by
  obtain ⟨i, a1, e1, h1⟩ : ∃ i a1 e1, takeT b 0 = (i, a1, e1) := ⟨_, _, _, rfl⟩
  obtain ⟨t, a2, e2, h2⟩ : ∃ i a1' e1, takeT b a1 = (i, a1', e1) := ⟨_, _, _, rfl⟩
  obtain ⟨s, a3, e3, h3⟩ : ∃ i a1 e1, takeTextT b a2 = (i, a1, e1) := ⟨_, _, _, rfl⟩
  have ha1 : a1 ≤ b.length := by have := takeT_le b 0; rw [h1] at this; exact this
  have ha2 : a2 ≤ b.length := by have := takeT_le b a1; rw [h2] at this; exact this
  unfold parseT at hp
  rw [h1] at hp
  simp only [h2, h3] at hp
  have hb0 : Below w.heap.size w (w.alloc (.cells #[.int .u64 0, .int .u64 0, .slice none 0 0] 25)) := (Below.refl _ _).alloc (Nat.le_refl _) _
  have hv1 := hv.below hb0 (Nat.le_refl _)
  have c1 := take39i v b 0 0 rfl _ hv1 hb (by omega)
  have c2 := take39 v b a1 _ hv1 hb (by omega)
  have c3 := taketext40 v b a2 _ hv1 hb (by omega)
  rw [h1] at c1
  rw [h2] at c2
  rw [h3] at c3
  have C1 := Lib.hid c1
  have C2 := Lib.hid c2
  have C3 := Lib.hid c3
  have HP := Lib.hid hp
  have hsz : (tx s).size = s.length := tx_size s
  clear c1 c2 c3 h1 h2 h3 hp hb0
  obtain ⟨y1, y2, ao, cap, rfl, y3, y4, y7, y5⟩ := hv
  clear y1 y2 y3 y4 y7 y5 hv1
  go_enter Tryz.func9, Tryz.ntmps9
  go_wp2_with (first
    | (go_at_call 39; (with_reducible refine C1.out.mono ?_); rintro e w1 ⟨rfl, rfl⟩)
    | (go_at_call 39; (with_reducible refine C2.out.mono ?_); rintro e w1 ⟨rfl, rfl⟩)
    | (go_at_call 40; (with_reducible refine C3.out.mono ?_); rintro e w1 ⟨rfl, rfl⟩))
  all_goals first
    | (exfalso
       have hh : ((i : Int) == 0) = false ∧ (s.length : Int) ≤ 2000 := (by assumption)
       have ha : (a3 : Int) = b.length := (by assumption)
       have q := HP.out
       rw [if_pos ⟨(by assumption), (by assumption), (by assumption), by omega, (by assumption), by omega⟩] at q
       cases q)
    | exact bodyPost_ret (v := .tuple #[noEnt, .int .i64 4]) (by simp [noEnt, results, Tryz.results9, go_sem]) rfl ⟨rfl, by first | exact (Below.refl _ _).alloc (Nat.le_refl _) _ | exact ((Below.refl _ _).alloc (Nat.le_refl _) _).setCell (Nat.le_refl _) _⟩

theorem parseT_some {b : List UInt8} {x : Ent} (h : parseT b = some x) : ∃ a1 a2, takeT b 0 = (x.i, a1, 0) ∧ takeT b a1 = (x.t, a2, 0) ∧ takeTextT b a2 = (x.b, b.length, 0) ∧ x.i ≠ 0 ∧ x.b.length ≤ 2000 := by
  obtain ⟨i, a1, e1, h1⟩ : ∃ i a1 e1, takeT b 0 = (i, a1, e1) := ⟨_, _, _, rfl⟩
  obtain ⟨t, a2, e2, h2⟩ : ∃ i a1' e1, takeT b a1 = (i, a1', e1) := ⟨_, _, _, rfl⟩
  obtain ⟨s, a3, e3, h3⟩ : ∃ i a1 e1, takeTextT b a2 = (i, a1, e1) := ⟨_, _, _, rfl⟩
  unfold parseT at h
  rw [h1] at h
  simp only [h2, h3] at h
  split at h
  · rename_i hc
    obtain ⟨rfl, rfl, rfl, rfl, c5, c6⟩ := hc
    cases h
    exact ⟨a1, a2, h1, h2, h3, c5, c6⟩
  · cases h

theorem Sl.kept {w w' : World} {sz : Nat} {v : Value} {n : Nat} {xs : List Value} (h : Sl w sz v n xs) (hk : ∀ g, v.ownBlock = some g → w'.heap[g]? = w.heap[g]?) : Sl w' sz v n xs := by
  obtain ⟨h1, h2, ao, cap, rfl, h3, h4, h6, h5⟩ := h
  refine ⟨h1, h2, ao, cap, rfl, h3, h4, h6, ?_⟩
  rcases h5 with h5 | ⟨g, off, rfl, h5⟩
  · exact Or.inl h5
  · refine Or.inr ⟨g, off, rfl, fun j u hj => ?_⟩
    rw [World.cell?_of_block (w := w) (hk g rfl)]
    exact h5 j u hj
theorem Bt.kept {w w' : World} {v : Value} {l : List UInt8} (h : Bt w v l) (hk : ∀ g, v.ownBlock = some g → w'.heap[g]? = w.heap[g]?) : Bt w' v l := Sl.kept h hk
theorem Bt.setCell {w : World} {v : Value} {l : List UInt8} (h : Bt w v l) (a : Addr) (u : Value) (hne : v.ownBlock ≠ some a.block) : Bt (w.setCell a u) v l :=
  h.kept fun g hg => Below.heap_setCell _ _ _ _ (fun e => hne (by rw [hg, e]))

section
variable {w : World} {ops : Array Oper} {rest : List Oper} {o : Oper} {a : Act} {Q : Exit → Act → World → Prop}
/-- '[]byte(s)', its place told -/
theorem wl_bytes2 (hgd : o.guard = none) (x : Operand) (ho : o.op = .convert 9 23 x) (s : List UInt8) (hx : a.eval x = .string (tx s)) (hs : s.length ≤ 140737488351232)
    (h : ∀ cap w', Bt w' (.slice (some ⟨w.heap.size, 0, none⟩) s.length cap) s → Below w.heap.size w w' → wpList Tryz.prog ops Q rest (a.put o.dst (.slice (some ⟨w.heap.size, 0, none⟩) s.length cap)) w') : wpList Tryz.prog ops Q (o :: rest) a w := by
  obtain ⟨v, w', h1, h2, h3, cap, rfl⟩ := conv_bytes w s hs
  refine wpList_plain hgd fun K hK => ?_
  unfold Oper.wp
  simp only [execOp, ho, hx, h1, Sem.run_bind, Result.andThen_ok, Sem.run_pure]
  exact hK _ _ (h _ _ h2 h3)
end

/-- a block of three cells, later -/
theorem box3 {w w2 : World} {a b c : Value} {t : TypeId} (h : Below (w.alloc (.cells #[a, b, c] t)).heap.size (w.alloc (.cells #[a, b, c] t)) w2) :
    w2.cell? ⟨w.heap.size, 0, none⟩ = some a ∧ w2.cell? ⟨w.heap.size, 1, none⟩ = some b ∧ w2.cell? ⟨w.heap.size, 2, none⟩ = some c ∧ (∀ j, w2.frozen? ⟨w.heap.size, j, none⟩ = false) := by
  refine ⟨?_, ?_, ?_, fun j => ?_⟩
  · rw [h.cell (p := ⟨w.heap.size, 0, none⟩) (by simp), World.cell?_alloc_at _ _ _ _ rfl]; rfl
  · rw [h.cell (p := ⟨w.heap.size, 1, none⟩) (by simp), World.cell?_alloc_at _ _ _ _ rfl]; rfl
  · rw [h.cell (p := ⟨w.heap.size, 2, none⟩) (by simp), World.cell?_alloc_at _ _ _ _ rfl]; rfl
  · rw [h.frozen (p := ⟨w.heap.size, j, none⟩) (by simp)]; exact World.frozen?_alloc_at _ _ _ _ rfl

set_option maxRecDepth 100000 in
set_option maxHeartbeats 1600000 in
theorem parse9_yes (v : Value) (b : List UInt8) (x : Ent) (w : World) (hv : Bt w v b) (hb : b.length ≤ 140737488351232) (hp : parseT b = some x) :
    Calls Tryz.prog 9 #[v] w fun e w' => ∃ en, e = .returned (.tuple #[en, .int .i64 0]) ∧ En w' en x ∧ Below w.heap.size w w' := by
  obtain ⟨a1, a2, h1, h2, h3, h4, h5⟩ := parseT_some hp
  have ha1 : a1 ≤ b.length := by have := takeT_le b 0; rw [h1] at this; exact this
  have ha2 : a2 ≤ b.length := by have := takeT_le b a1; rw [h2] at this; exact this
  have hb0 : Below w.heap.size w (w.alloc (.cells #[.int .u64 0, .int .u64 0, .slice none 0 0] 25)) := (Below.refl _ _).alloc (Nat.le_refl _) _
  have hv1 := hv.below hb0 (Nat.le_refl _)
  have c1 := take39i v b 0 0 rfl _ hv1 hb (by omega)
  have c2 := take39 v b a1 _ hv1 hb (by omega)
  have c3 := taketext40 v b a2 _ hv1 hb (by omega)
  rw [h1] at c1
  rw [h2] at c2
  rw [h3] at c3
  have C1 := Lib.hid c1
  have C2 := Lib.hid c2
  have C3 := Lib.hid c3
  have hsz : (tx x.b).size = x.b.length := tx_size x.b
  have hi0 : ((x.i : Int) == 0) = false := by simp; omega
  clear c1 c2 c3 h1 h2 h3 hp
  obtain ⟨y1, y2, ao, cap, rfl, y3, y4, y7, y5⟩ := hv
  clear y1 y2 y3 y4 y7 y5 hv1
  go_enter Tryz.func9, Tryz.ntmps9
  go_wp2_with (first
    | (go_at_call 39; (with_reducible refine C1.out.mono ?_); rintro e w1 ⟨rfl, rfl⟩)
    | (go_at_call 39; (with_reducible refine C2.out.mono ?_); rintro e w1 ⟨rfl, rfl⟩)
    | (go_at_call 40; (with_reducible refine C3.out.mono ?_); rintro e w1 ⟨rfl, rfl⟩)
    | (with_reducible refine wl_bytes2 rfl _ rfl x.b rfl (by omega) ?_; intro cap2 w2 hb2 hbel2; obtain ⟨k0, k1, k2, f0⟩ := box3 hbel2))
  have hb3 : Bt w2 (.slice (some ⟨w.heap.size + 1, 0, none⟩) x.b.length cap2) x.b := by simpa using hb2
  refine bodyPost_ret (v := .tuple #[.agg #[.int .u64 x.i, .int .u64 x.t, .slice (some ⟨w.heap.size + 1, 0, none⟩) x.b.length cap2], .int .i64 0]) (by simp [results, Tryz.results9, go_sem, k0, k1, k2]) rfl ⟨_, rfl, ⟨_, rfl, ?_⟩, ?_⟩
  · refine Bt.setCell (Bt.setCell (Bt.setCell hb3 _ _ ?_) _ _ ?_) _ _ ?_ <;> simp [Value.ownBlock]
  · refine (((below_tr ((Below.refl _ _).alloc (Nat.le_refl _) _) hbel2).setCell ?_ _).setCell ?_ _).setCell ?_ _ <;> exact Nat.le_refl _
end Go.Proofs.YtpcipfnahknngaaGreatDoor

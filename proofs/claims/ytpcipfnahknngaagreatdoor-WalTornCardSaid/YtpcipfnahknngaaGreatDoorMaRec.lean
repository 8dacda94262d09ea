/- Texts of seat wal in one: RefPack Rec Par Dk ParT RefTake. No statement of the seat. -/
import Derived.Test.YtpcipfnahknngaaGreatDoorMaSlc
import Derived.Deep.RegionWith
import Derived.Deep.DeepMust
import Derived.Deep.DeepFit
import Derived.Maps.OwnSet
import Derived.Maps.OwnOps
/- Contracts of the reference's Put, PutText, Take, TakeText. No statement of the seat. -/
namespace Go.Proofs.YtpcipfnahknngaaGreatDoor
open Go.RowKit

theorem below_tr {w w1 w2 : World} (h1 : Below w.heap.size w w1) (h2 : Below w1.heap.size w1 w2) : Below w.heap.size w w2 := h1.trans (h2.mono h1.size)
theorem below_al {w w1 : World} (h1 : Below w.heap.size w w1) (o : Obj) : Below w.heap.size w (w1.alloc o) := h1.alloc h1.size o
/-- .. behind an append to what is the call's own -/
theorem below_own {w w1 w2 : World} {e : TypeId} {sz n : Nat} {v : Value} {xs : List Value} (h1 : Below w.heap.size w w1) (ho : w1.ownsRow w.heap.size e sz v n xs) (hg : w1.grownBy w2 v.ownBlock) : Below w.heap.size w w2 :=
  h1.grown hg h1.size (fun k hk => (ho.lt k hk).1)

/-- 'b[l:h]' inside the capacity, as an equation for a region -/
theorem cut_run (w : World) (t e : TypeId) (ht : Tryz.prog.underlying t = some (.slice e)) (hsz : ∀ w, (sizeOf e).run Tryz.prog w = .ok 1 w) (g off n cap : Nat) (kl kh : IntKind) (lo hi : Int) (l h : Nat)
    (el : lo = l) (eh : hi = h) (h1 : l ≤ h) (h2 : h ≤ cap) (h3 : l < cap) :
    (Instr.slice t (.slice (some ⟨g, off, none⟩) n cap) (some (.int kl lo)) (some (.int kh hi)) none).run Tryz.prog w = .ok (.slice (some ⟨g, off + l, none⟩) (h - l) (cap - l)) w := by
  subst el eh
  have a1 : (l : Int) ≤ (h : Int) := by omega
  have a2 : (h : Int) ≤ (cap : Int) := by omega
  have a3 : ¬ cap = l := by omega
  simp [Instr.slice, run_underlying ht, Instr.sliceBounds, run_sliceBound, a1, a2, a3, hsz, Addr.add]

set_option maxRecDepth 100000 in
set_option maxHeartbeats 800000 in
theorem rput38 : ∀ (k n : Nat) (a : Int) (w : World), a = n → n < 128 ^ (k + 1) → k ≤ 9 → n < 18446744073709551616 →
    Calls Tryz.prog 38 #[.int .u64 a] w fun e w' => ∃ v, e = .returned v ∧ w'.ownsRow w.heap.size 5 1 v (putL n).length (bv (putL n)) ∧ Below w.heap.size w w' := by
  intro k
  induction k with
  | zero =>
    rintro n _ w rfl hn hk h64
    have h1 : n < 128 := by simpa using hn
    clear hn h64
    go_enter Tryz.func38, Tryz.ntmps38
    go_wp2_with fail
    go_ret
    refine ⟨_, rfl, ?_, (Below.refl _ _).alloc (Nat.le_refl _) _⟩
    rw [putL_small h1]
    have := World.ownsRow_lit (base := w.heap.size) (e := 5) (size := 1) w #[.int .u8 (n : Int)] 1 (Nat.le_refl _) (by decide) rfl
    have e1 : n % 256 = n := by omega
    simpa [bv, e1] using this
  | succ k ih =>
    rintro n _ w rfl hn hk h64
    by_cases h1 : n < 128
    · exact ih n _ w rfl (Nat.lt_of_lt_of_le (show n < 128 ^ 1 by simpa using h1) (Nat.pow_le_pow_right (by decide) (by omega))) (by omega) h64
    · have hc := ih (n / 128)
      have hd : n / 128 < 128 ^ (k + 1) := by rw [Nat.pow_succ] at hn; omega
      have HC := Lib.hid hc
      have hd2 : n / 128 < 18446744073709551616 := by omega
      have hlen := putL_len (n / 128) hd2
      have HD := Lib.hid hd
      have HD2 := Lib.hid hd2
      clear hc hd hd2 hn h64 ih
      have hm : (n : Int) % 128 + 128 < 256 := by omega
      go_enter Tryz.func38, Tryz.ntmps38
      go_wp2_with fail
      refine (HC.out _ _ (by rw [show ((n : Int) / 128) = ((n / 128 : Nat) : Int) from by omega]; exact wrap_u64_nat _ HD2.out) HD.out (by omega) HD2.out).mono ?_
      rintro e w1 ⟨v1, rfl, hown1, hbel1⟩
      obtain ⟨ao1, cap1, rfl⟩ := own_shape hown1
      have hb0 : Below w.heap.size w (w.alloc (.cells #[.int .u8 ((n : Int) % 128 + 128)] 5)) := (Below.refl _ _).alloc (Nat.le_refl _) _
      have hown0 := (World.ownsRow_lit (base := w.heap.size) (e := 5) (size := 1) w #[.int .u8 ((n : Int) % 128 + 128)] 1 (Nat.le_refl _) (by decide) rfl)
      have e0 : (bv [UInt8.ofNat (n % 128 + 128)]) = (#[Value.int .u8 ((n : Int) % 128 + 128)] : Array Value).toList := by
        have : (n % 128 + 128) % 256 = n % 128 + 128 := by omega
        simp [bv, this]
      rw [← e0] at hown0
      have hown2 := hown0.kept (row := none) (w' := w1) ⟨hbel1.os, hbel1.tape, hbel1.output, hbel1.size, fun b hb _ => hbel1.block b hb⟩ (by simp [Value.ownBlock])
      have E0 := Lib.hid e0
      clear e0 hown0
      go_wp2_with (at_builtin; refine wl_appB rfl _ _ rfl w.heap.size _ [UInt8.ofNat (n % 128 + 128)] rfl hown2 _ _ rfl (Bt.of_own hown1) ?_ ?_ ?_; rotate_right; intro v' w2 hown3 hgrow3)
      · go_ret
        refine ⟨_, rfl, ?_, ?_⟩
        · rw [putL_big h1]
          exact hown3
        · exact below_own (below_tr hb0 hbel1) hown2 hgrow3
      · simp; omega
      · have := hbel1.size; simp at this; omega
end Go.Proofs.YtpcipfnahknngaaGreatDoor

/- Entries; contracts of wal.Record, wal.Parse, wal.Same. No statement of the seat. -/
namespace Go.Proofs.YtpcipfnahknngaaGreatDoor
open Go.RowKit

/-- an entry -/
structure Ent where
  i : Nat
  t : Nat
  b : List UInt8
/-- .. of numbers of 64 bits, not too long -/
def Ent.ok (x : Ent) : Prop := x.i < 18446744073709551616 ∧ x.t < 18446744073709551616 ∧ x.b.length ≤ 140737488351232

/-- three slices of bytes, laid one behind the other in a new block -/
theorem Bts.three (w : World) (u v x : Value) (l m n : List UInt8) (hu : Bt w u l) (hv : Bt w v m) (hx : Bt w x n) :
    Bts (w.alloc (.cells #[u, v, x] 23)) (.slice (some ⟨w.heap.size, 0, none⟩) 3 3) [l, m, n] := by
  have hb : Below w.heap.size w (w.alloc (.cells #[u, v, x] 23)) := (Below.refl _ _).alloc (Nat.le_refl _) _
  have one : ∀ {x : Value} {k : List UInt8}, Bt w x k → x.oneCell' = true := by
    intro x k h
    obtain ⟨_, _, ao, cap, rfl, _⟩ := h
    rfl
  refine ⟨[u, v, x], ⟨rfl, ?_, some ⟨w.heap.size, 0, none⟩, 3, rfl, Nat.le_refl _, by decide, (fun h => by cases h), Or.inr ⟨w.heap.size, 0, rfl, fun j y hj => ?_⟩⟩, ?_⟩
  · intro y hy
    simp at hy
    rcases hy with rfl | rfl | rfl
    · exact one hu
    · exact one hv
    · exact one hx
  · rw [World.cell?_alloc_at _ _ _ _ rfl, Nat.zero_add]
    simpa using hj
  · intro k hk
    match k, hk with
    | 0, _ => exact ⟨u, rfl, hu.below hb (Nat.le_refl _)⟩
    | 1, _ => exact ⟨v, rfl, hv.below hb (Nat.le_refl _)⟩
    | 2, _ => exact ⟨x, rfl, hx.below hb (Nat.le_refl _)⟩

/-- what Record answers -/
def recL (x : Ent) : List UInt8 := putL x.i ++ (putL x.t ++ putText x.b)

set_option maxRecDepth 100000 in
set_option maxHeartbeats 3200000 in
theorem record7 (x : Ent) (u : Value) (w : World) (hx : x.ok) (hu : Bt w u x.b) (h0 : x.i ≠ 0) (hl : x.b.length ≤ 2000) :
    Calls Tryz.prog 7 #[.agg #[.int .u64 x.i, .int .u64 x.t, u]] w fun e w' => ∃ v, e = .returned (.tuple #[v, .int .i64 0]) ∧ w'.ownsRow w.heap.size 5 1 v (recL x).length (bv (recL x)) ∧ Below w.heap.size w w' := by
  obtain ⟨hx1, hx2, hx3⟩ := hx
  have HX1 := Lib.hid hx1
  have HX2 := Lib.hid hx2
  clear hx1 hx2 hx3
  have hd0 : ((x.i : Int) == 0) = false := by simp; omega
  have hb0 : Below w.heap.size w (w.alloc (.cells #[.int .u64 x.i, .int .u64 x.t, u] 25)) := (Below.refl _ _).alloc (Nat.le_refl _) _
  have hu1 := hu.below hb0 (Nat.le_refl _)
  have hcs := conv_str _ _ _ hu1
  obtain ⟨y1, y2, ao, cap, rfl, y3, y4, y7, y5⟩ := hu
  clear y1 y2 y3 y4 y7 y5
  go_enter Tryz.func7, Tryz.ntmps7
  go_wp2_with (go_at_call 34; refine (puttext34 x.b _ (by omega)).mono ?_; rintro e w1 ⟨v1, rfl, hown1, hbel1⟩; obtain ⟨ao1, cap1, rfl⟩ := own_shape hown1)
  have b1 := below_tr hb0 hbel1
  have c0 : ∀ W, Below (w.heap.size + 1) w1 W → W.cell? ⟨w.heap.size, 0, none⟩ = some (.int .u64 x.i) := fun W hW => by
    rw [hW.cell (p := ⟨w.heap.size, 0, none⟩) (by simp), hbel1.cell (p := ⟨w.heap.size, 0, none⟩) (by simp), World.cell?_alloc_at _ _ _ _ rfl]; rfl
  have c1 : ∀ W, Below (w.heap.size + 1) w1 W → W.cell? ⟨w.heap.size, 1, none⟩ = some (.int .u64 x.t) := fun W hW => by
    rw [hW.cell (p := ⟨w.heap.size, 1, none⟩) (by simp), hbel1.cell (p := ⟨w.heap.size, 1, none⟩) (by simp), World.cell?_alloc_at _ _ _ _ rfl]; rfl
  have hz1 : w.heap.size + 1 ≤ w1.heap.size := by have := hbel1.size; simpa using this
  have d0 := c0 _ ((Below.refl _ _).drew)
  have d1 := c1 _ ((Below.refl _ _).drew)
  have C0 := Lib.hid c0
  have C1 := Lib.hid c1
  clear c0 c1
  have HLEN : Hid ([putL x.i, putL x.t, putText x.b].flatten.length ≤ 140737488351232) := Lib.hid (by
    have a1 := putL_len x.i HX1.out
    have a2 := putL_len x.t HX2.out
    have a3 := putL_len x.b.length (by omega)
    simp [putText]
    omega)
  have E4 : Hid ([putL x.i, putL x.t, putText x.b].flatten = recL x) := Lib.hid (by simp [recL])
  go_region_with (first
    | (go_at_call 36; (with_reducible refine (put_any x.i HX1.out _).mono ?_); rintro e w2 ⟨v2, rfl, hown2, hbel2⟩; obtain ⟨ao2, cap2, rfl⟩ := own_shape hown2; have hw2 : Below w1.heap.size w1 w2 := (by first | exact ((Below.refl _ _).drew).trans (hbel2.mono (Nat.le_refl _)) | exact hw3.trans (hbel2.mono hw3.size)); have k2 := C1.out _ (hw2.mono hz1))
    | (go_at_call 36; (with_reducible refine (put_any x.t HX2.out _).mono ?_); rintro e w3 ⟨v3, rfl, hown3, hbel3⟩; obtain ⟨ao3, cap3, rfl⟩ := own_shape hown3; have hw3 : Below w1.heap.size w1 w3 := (by first | exact ((Below.refl _ _).drew).trans (hbel3.mono (Nat.le_refl _)) | exact hw2.trans (hbel3.mono hw2.size)); have k3 := C0.out _ (hw3.mono hz1))
    | (go_at_call 35; go_must (refine (join35 _ [putL x.i, putL x.t, putText x.b] _ (Bts.three _ _ _ _ _ _ _ (by first | exact Bt.of_own hown2 | exact (Bt.of_own hown2).below hbel3 (Nat.le_refl _)) (by first | exact Bt.of_own hown3 | exact (Bt.of_own hown3).below hbel2 (Nat.le_refl _)) (by first | exact (Bt.of_own hown1).below hw3 (Nat.le_refl _) | exact (Bt.of_own hown1).below hw2 (Nat.le_refl _))) HLEN.out).mono ?_; rintro e w4 ⟨v4, rfl, hown4, hbel4⟩; rw [E4.out] at hown4; obtain ⟨ao4, cap4, rfl⟩ := own_shape hown4)))
  all_goals
    go_wp2
    go_ret2
    refine ⟨_, rfl, ?_, ?_⟩
    · first
        | exact hown4.base (below_al (below_tr b1 hw3) _).size
        | exact hown4.base (below_al (below_tr b1 hw2) _).size
    · first
        | exact below_tr (below_al (below_tr b1 hw3) _) hbel4
        | exact below_tr (below_al (below_tr b1 hw2) _) hbel4
end Go.Proofs.YtpcipfnahknngaaGreatDoor

/- Contracts of wal.Record where it refuses, wal.Parse, wal.Same. No statement of the seat. -/
namespace Go.Proofs.YtpcipfnahknngaaGreatDoor
open Go.RowKit

/-- v reads as the entry x -/
def En (w : World) (v : Value) (x : Ent) : Prop := ∃ u, v = .agg #[.int .u64 x.i, .int .u64 x.t, u] ∧ Bt w u x.b
theorem En.below {w w' : World} {v : Value} {x : Ent} (h : En w v x) {B : Nat} (hB : Below B w w') (hs : w.heap.size ≤ B) : En w' v x := by
  obtain ⟨u, h1, h2⟩ := h
  exact ⟨u, h1, h2.below hB hs⟩
def noEnt : Value := .agg #[.int .u64 0, .int .u64 0, .slice none 0 0]

set_option maxRecDepth 100000 in
set_option maxHeartbeats 800000 in
theorem record7_arg (t : Nat) (u : Value) (w : World) :
    Calls Tryz.prog 7 #[.agg #[.int .u64 0, .int .u64 t, u]] w fun e w' => e = .returned (.tuple #[.slice none 0 0, .int .i64 2]) ∧ Below w.heap.size w w' := by
  go_enter Tryz.func7, Tryz.ntmps7
  go_wp2
  go_ret2
  exact ⟨rfl, (Below.refl _ _).alloc (Nat.le_refl _) _⟩

set_option maxRecDepth 100000 in
set_option maxHeartbeats 800000 in
theorem record7_long (x : Ent) (u : Value) (w : World) (hu : Bt w u x.b) (h0 : x.i ≠ 0) (hl : 2000 < x.b.length) :
    Calls Tryz.prog 7 #[.agg #[.int .u64 x.i, .int .u64 x.t, u]] w fun e w' => e = .returned (.tuple #[.slice none 0 0, .int .i64 3]) ∧ Below w.heap.size w w' := by
  have hd0 : ((x.i : Int) == 0) = false := by simp; omega
  obtain ⟨y1, y2, ao, cap, rfl, y3, y4, y7, y5⟩ := hu
  clear y1 y2 y3 y4 y7 y5
  go_enter Tryz.func7, Tryz.ntmps7
  go_wp2
  go_ret2
  exact ⟨rfl, (Below.refl _ _).alloc (Nat.le_refl _) _⟩

/-- the entry of a record -/
def parseT (b : List UInt8) : Option Ent :=
  match takeT b 0 with
  | (i, a1, e1) => match takeT b a1 with
    | (t, a2, e2) => match takeTextT b a2 with
      | (s, a3, e3) => if e1 = 0 ∧ e2 = 0 ∧ e3 = 0 ∧ a3 = b.length ∧ i ≠ 0 ∧ s.length ≤ 2000 then some ⟨i, t, s⟩ else none

theorem takeT_le (b : List UInt8) (at_ : Nat) : (takeT b at_).2.1 ≤ b.length := by
  cases h : takeT b at_ with
  | mk n p =>
    obtain ⟨nx, e⟩ := p
    by_cases he : e = 0
    · subst he; exact (takeT_ok h).2
    · have := takeT_bad h he
      show nx ≤ _
      omega

theorem take39i (v : Value) (b : List UInt8) (a : Int) (at_ : Nat) (ha : a = at_) (w : World) (hv : Bt w v b) (hb : b.length ≤ 140737488351232) (hat : at_ ≤ 140737488351232) :
    Calls Tryz.prog 39 #[v, .int .i64 a] w fun e w' => e = .returned (.tuple #[.int .u64 (takeT b at_).1, .int .i64 (takeT b at_).2.1, .int .i64 (takeT b at_).2.2]) ∧ w' = w := by
  subst ha; exact take39 v b at_ w hv hb hat

set_option maxRecDepth 100000 in
set_option maxHeartbeats 1600000 in
theorem parse9_no (v : Value) (b : List UInt8) (w : World) (hv : Bt w v b) (hb : b.length ≤ 140737488351232) (hp : parseT b = none) :
    Calls Tryz.prog 9 #[v] w fun e w' => e = .returned (.tuple #[noEnt, .int .i64 4]) ∧ Below w.heap.size w w' := by
  obtain ⟨i, a1, e1, h1⟩ : ∃ i a1 e1, takeT b 0 = (i, a1, e1) := ⟨_, _, _, rfl⟩
  obtain ⟨t, a2, e2, h2⟩ : ∃ i a1' e1, takeT b a1 = (i, a1', e1) := ⟨_, _, _, rfl⟩
  obtain ⟨s, a3, e3, h3⟩ : ∃ i a1 e1, takeTextT b a2 = (i, a1, e1) := ⟨_, _, _, rfl⟩
  have ha1 : a1 ≤ b.length := by have := takeT_le b 0; rw [h1] at this; exact this
  have ha2 : a2 ≤ b.length := by have := takeT_le b a1; rw [h2] at this; exact this
  unfold parseT at hp
  rw [h1] at hp
  simp only [h2, h3] at hp
  have hb0 : Below w.heap.size w (w.alloc (.cells #[.int .u64 0, .int .u64 0, .slice none 0 0] 25)) := (Below.refl _ _).alloc (Nat.le_refl _) _
  have hv1 := hv.below hb0 (Nat.le_refl _)
  have c1 := take39i v b 0 0 rfl _ hv1 hb (by omega)
  have c2 := take39 v b a1 _ hv1 hb (by omega)
  have c3 := taketext40 v b a2 _ hv1 hb (by omega)
  rw [h1] at c1
  rw [h2] at c2
  rw [h3] at c3
  have C1 := Lib.hid c1
  have C2 := Lib.hid c2
  have C3 := Lib.hid c3
  have HP := Lib.hid hp
  have hsz : (tx s).size = s.length := tx_size s
  clear c1 c2 c3 h1 h2 h3 hp hb0
  obtain ⟨y1, y2, ao, cap, rfl, y3, y4, y7, y5⟩ := hv
  clear y1 y2 y3 y4 y7 y5 hv1
  go_enter Tryz.func9, Tryz.ntmps9
  go_wp2_with (first
    | (go_at_call 39; (with_reducible refine C1.out.mono ?_); rintro e w1 ⟨rfl, rfl⟩)
    | (go_at_call 39; (with_reducible refine C2.out.mono ?_); rintro e w1 ⟨rfl, rfl⟩)
    | (go_at_call 40; (with_reducible refine C3.out.mono ?_); rintro e w1 ⟨rfl, rfl⟩))
  all_goals first
    | (exfalso
       have hh : ((i : Int) == 0) = false ∧ (s.length : Int) ≤ 2000 := (by assumption)
       have ha : (a3 : Int) = b.length := (by assumption)
       have q := HP.out
       rw [if_pos ⟨(by assumption), (by assumption), (by assumption), by omega, (by assumption), by omega⟩] at q
       cases q)
    | exact bodyPost_ret (v := .tuple #[noEnt, .int .i64 4]) (by simp [noEnt, results, Tryz.results9, go_sem]) rfl ⟨rfl, by first | exact (Below.refl _ _).alloc (Nat.le_refl _) _ | exact ((Below.refl _ _).alloc (Nat.le_refl _) _).setCell (Nat.le_refl _) _⟩

theorem parseT_some {b : List UInt8} {x : Ent} (h : parseT b = some x) : ∃ a1 a2, takeT b 0 = (x.i, a1, 0) ∧ takeT b a1 = (x.t, a2, 0) ∧ takeTextT b a2 = (x.b, b.length, 0) ∧ x.i ≠ 0 ∧ x.b.length ≤ 2000 := by
  obtain ⟨i, a1, e1, h1⟩ : ∃ i a1 e1, takeT b 0 = (i, a1, e1) := ⟨_, _, _, rfl⟩
  obtain ⟨t, a2, e2, h2⟩ : ∃ i a1' e1, takeT b a1 = (i, a1', e1) := ⟨_, _, _, rfl⟩
  obtain ⟨s, a3, e3, h3⟩ : ∃ i a1 e1, takeTextT b a2 = (i, a1, e1) := ⟨_, _, _, rfl⟩
  unfold parseT at h
  rw [h1] at h
  simp only [h2, h3] at h
  split at h
  · rename_i hc
    obtain ⟨rfl, rfl, rfl, rfl, c5, c6⟩ := hc
    cases h
    exact ⟨a1, a2, h1, h2, h3, c5, c6⟩
  · cases h

theorem Sl.kept {w w' : World} {sz : Nat} {v : Value} {n : Nat} {xs : List Value} (h : Sl w sz v n xs) (hk : ∀ g, v.ownBlock = some g → w'.heap[g]? = w.heap[g]?) : Sl w' sz v n xs := by
  obtain ⟨h1, h2, ao, cap, rfl, h3, h4, h6, h5⟩ := h
  refine ⟨h1, h2, ao, cap, rfl, h3, h4, h6, ?_⟩
  rcases h5 with h5 | ⟨g, off, rfl, h5⟩
  · exact Or.inl h5
  · refine Or.inr ⟨g, off, rfl, fun j u hj => ?_⟩
    rw [World.cell?_of_block (w := w) (hk g rfl)]
    exact h5 j u hj
theorem Bt.kept {w w' : World} {v : Value} {l : List UInt8} (h : Bt w v l) (hk : ∀ g, v.ownBlock = some g → w'.heap[g]? = w.heap[g]?) : Bt w' v l := Sl.kept h hk
theorem Bt.setCell {w : World} {v : Value} {l : List UInt8} (h : Bt w v l) (a : Addr) (u : Value) (hne : v.ownBlock ≠ some a.block) : Bt (w.setCell a u) v l :=
  h.kept fun g hg => Below.heap_setCell _ _ _ _ (fun e => hne (by rw [hg, e]))

section
variable {w : World} {ops : Array Oper} {rest : List Oper} {o : Oper} {a : Act} {Q : Exit → Act → World → Prop}
/-- '[]byte(s)', its place told -/
theorem wl_bytes2 (hgd : o.guard = none) (x : Operand) (ho : o.op = .convert 9 23 x) (s : List UInt8) (hx : a.eval x = .string (tx s)) (hs : s.length ≤ 140737488351232)
    (h : ∀ cap w', Bt w' (.slice (some ⟨w.heap.size, 0, none⟩) s.length cap) s → Below w.heap.size w w' → wpList Tryz.prog ops Q rest (a.put o.dst (.slice (some ⟨w.heap.size, 0, none⟩) s.length cap)) w') : wpList Tryz.prog ops Q (o :: rest) a w := by
  obtain ⟨v, w', h1, h2, h3, cap, rfl⟩ := conv_bytes w s hs
  refine wpList_plain hgd fun K hK => ?_
  unfold Oper.wp
  simp only [execOp, ho, hx, h1, Sem.run_bind, Result.andThen_ok, Sem.run_pure]
  exact hK _ _ (h _ _ h2 h3)
end

/-- a block of three cells, later -/
theorem box3 {w w2 : World} {a b c : Value} {t : TypeId} (h : Below (w.alloc (.cells #[a, b, c] t)).heap.size (w.alloc (.cells #[a, b, c] t)) w2) :
    w2.cell? ⟨w.heap.size, 0, none⟩ = some a ∧ w2.cell? ⟨w.heap.size, 1, none⟩ = some b ∧ w2.cell? ⟨w.heap.size, 2, none⟩ = some c ∧ (∀ j, w2.frozen? ⟨w.heap.size, j, none⟩ = false) := by
  refine ⟨?_, ?_, ?_, fun j => ?_⟩
  · rw [h.cell (p := ⟨w.heap.size, 0, none⟩) (by simp), World.cell?_alloc_at _ _ _ _ rfl]; rfl
  · rw [h.cell (p := ⟨w.heap.size, 1, none⟩) (by simp), World.cell?_alloc_at _ _ _ _ rfl]; rfl
  · rw [h.cell (p := ⟨w.heap.size, 2, none⟩) (by simp), World.cell?_alloc_at _ _ _ _ rfl]; rfl
  · rw [h.frozen (p := ⟨w.heap.size, j, none⟩) (by simp)]; exact World.frozen?_alloc_at _ _ _ _ rfl

set_option maxRecDepth 100000 in
set_option maxHeartbeats 1600000 in
theorem parse9_yes (v : Value) (b : List UInt8) (x : Ent) (w : World) (hv : Bt w v b) (hb : b.length ≤ 140737488351232) (hp : parseT b = some x) :
    Calls Tryz.prog 9 #[v] w fun e w' => ∃ en, e = .returned (.tuple #[en, .int .i64 0]) ∧ En w' en x ∧ Below w.heap.size w w' := by
  obtain ⟨a1, a2, h1, h2, h3, h4, h5⟩ := parseT_some hp
  have ha1 : a1 ≤ b.length := by have := takeT_le b 0; rw [h1] at this; exact this
  have ha2 : a2 ≤ b.length := by have := takeT_le b a1; rw [h2] at this; exact this
  have hb0 : Below w.heap.size w (w.alloc (.cells #[.int .u64 0, .int .u64 0, .slice none 0 0] 25)) := (Below.refl _ _).alloc (Nat.le_refl _) _
  have hv1 := hv.below hb0 (Nat.le_refl _)
  have c1 := take39i v b 0 0 rfl _ hv1 hb (by omega)
  have c2 := take39 v b a1 _ hv1 hb (by omega)
  have c3 := taketext40 v b a2 _ hv1 hb (by omega)
  rw [h1] at c1
  rw [h2] at c2
  rw [h3] at c3
  have C1 := Lib.hid c1
  have C2 := Lib.hid c2
  have C3 := Lib.hid c3
  have hsz : (tx x.b).size = x.b.length := tx_size x.b
  have hi0 : ((x.i : Int) == 0) = false := by simp; omega
  clear c1 c2 c3 h1 h2 h3 hp
  obtain ⟨y1, y2, ao, cap, rfl, y3, y4, y7, y5⟩ := hv
  clear y1 y2 y3 y4 y7 y5 hv1
  go_enter Tryz.func9, Tryz.ntmps9
  go_wp2_with (first
    | (go_at_call 39; (with_reducible refine C1.out.mono ?_); rintro e w1 ⟨rfl, rfl⟩)
    | (go_at_call 39; (with_reducible refine C2.out.mono ?_); rintro e w1 ⟨rfl, rfl⟩)
    | (go_at_call 40; (with_reducible refine C3.out.mono ?_); rintro e w1 ⟨rfl, rfl⟩)
    | (with_reducible refine wl_bytes2 rfl _ rfl x.b rfl (by omega) ?_; intro cap2 w2 hb2 hbel2; obtain ⟨k0, k1, k2, f0⟩ := box3 hbel2))
  have hb3 : Bt w2 (.slice (some ⟨w.heap.size + 1, 0, none⟩) x.b.length cap2) x.b := by simpa using hb2
  refine bodyPost_ret (v := .tuple #[.agg #[.int .u64 x.i, .int .u64 x.t, .slice (some ⟨w.heap.size + 1, 0, none⟩) x.b.length cap2], .int .i64 0]) (by simp [results, Tryz.results9, go_sem, k0, k1, k2]) rfl ⟨_, rfl, ⟨_, rfl, ?_⟩, ?_⟩
  · refine Bt.setCell (Bt.setCell (Bt.setCell hb3 _ _ ?_) _ _ ?_) _ _ ?_ <;> simp [Value.ownBlock]
  · refine (((below_tr ((Below.refl _ _).alloc (Nat.le_refl _) _) hbel2).setCell ?_ _).setCell ?_ _).setCell ?_ _ <;> exact Nat.le_refl _
end Go.Proofs.YtpcipfnahknngaaGreatDoor

/- A disk in memory: what its map's block reads as; lookup, update, delete. No statement of the seat. -/
namespace Go.Proofs.YtpcipfnahknngaaGreatDoor
open Go.RowKit Go.Maps

/-- a loose change of a file; a file -/
structure Chg where
  whole : Bool
  gone : Bool
  b : List UInt8
structure Fil where
  sure : List UInt8
  now : List UInt8
  isSure : Bool
  isNow : Bool
  loose : List Chg
def noFil : Fil := ⟨[], [], false, false, []⟩

/-- the block of v is a row of elements of type e -/
def Ty (e : TypeId) (w : World) (v : Value) : Prop := ∀ g, v.ownBlock = some g → ∃ cur fz, w.heap[g]? = some (Obj.cells cur e fz)
/-- but for maps, and rows of the types M, all that was there is as it was -/
structure Fr (M : TypeId → Prop) (w w' : World) : Prop where
  os : w'.os = w.os
  tape : w'.tape = w.tape
  output : w'.output = w.output
  size : w.heap.size ≤ w'.heap.size
  kept : ∀ (g : Nat) (cur : Array Value) (e : TypeId) (fz : Nat × Nat), w.heap[g]? = some (Obj.cells cur e fz) → ¬ M e → w'.heap[g]? = w.heap[g]?
def noTypes : TypeId → Prop := fun _ => False
theorem Fr.refl (M : TypeId → Prop) (w : World) : Fr M w w := ⟨rfl, rfl, rfl, Nat.le_refl _, fun _ _ _ _ _ _ => rfl⟩
theorem Fr.trans {M : TypeId → Prop} {a b c : World} (h : Fr M a b) (k : Fr M b c) : Fr M a c :=
  ⟨k.os.trans h.os, k.tape.trans h.tape, k.output.trans h.output, Nat.le_trans h.size k.size, fun g cur e fz hg he => by
    have h1 := h.kept g cur e fz hg he
    rw [k.kept g cur e fz (h1.trans hg) he, h1]⟩
theorem Fr.mono {M N : TypeId → Prop} {a b : World} (h : Fr M a b) (hm : ∀ e, M e → N e) : Fr N a b :=
  ⟨h.os, h.tape, h.output, h.size, fun g cur e fz hg he => h.kept g cur e fz hg fun h2 => he (hm e h2)⟩
theorem lt_of_get {α : Type} {a : Array α} {i : Nat} {x : α} (h : a[i]? = some x) : i < a.size := (Array.getElem?_eq_some_iff.1 h).1
theorem Fr.of_below {M : TypeId → Prop} {w w' : World} {B : Nat} (h : Below B w w') (hB : w.heap.size ≤ B) : Fr M w w' :=
  ⟨h.os, h.tape, h.output, h.size, fun g _ _ _ hg _ => h.block g (Nat.lt_of_lt_of_le (lt_of_get hg) hB)⟩
theorem Fr.of_map {M : TypeId → Prop} {w w' : World} {b : Nat} (h : w.mapTurned w' b) : Fr M w w' := by
  have hg := h.grown
  obtain ⟨es, clock, es', clock', hb, _⟩ := h
  refine ⟨hg.os, hg.tape, hg.output, hg.size, fun g cur e fz hc _ => hg.block g (lt_of_get hc) fun e2 => ?_⟩
  cases e2
  rw [hb] at hc
  cases hc
theorem Fr.setCell {M : TypeId → Prop} {w w' : World} (h : Fr M w w') {a : Addr} (u : Value) (hn : ∀ (cur : Array Value) (e : TypeId) (fz : Nat × Nat), w.heap[a.block]? = some (Obj.cells cur e fz) → M e) : Fr M w (w'.setCell a u) :=
  ⟨h.os, h.tape, h.output, by simpa [World.setCell] using h.size, fun g cur e fz hg he => by
    rw [Below.heap_setCell _ _ _ _ (fun e2 => he (by subst e2; exact hn _ _ _ hg))]
    exact h.kept g cur e fz hg he⟩

def BtT (w : World) (v : Value) (l : List UInt8) : Prop := Bt w v l ∧ Ty 5 w v
def chCells : List Chg → List Value → List Value
  | c :: cs, u :: us => .bool c.whole :: .bool c.gone :: u :: chCells cs us
  | _, _ => []
def ChT (w : World) (v : Value) (cs : List Chg) : Prop :=
  ∃ us : List Value, us.length = cs.length ∧ Sl w 3 v cs.length (chCells cs us) ∧ Ty 108 w v ∧ ∀ k (h : k < cs.length), ∃ u, us[k]? = some u ∧ BtT w u (cs[k]).b
def FilT (w : World) (v : Value) (f : Fil) : Prop :=
  ∃ sa sc na nc la lc, v = .agg #[.slice sa f.sure.length sc, .slice na f.now.length nc, .bool f.isSure, .bool f.isNow, .slice la f.loose.length lc] ∧
    BtT w (.slice sa f.sure.length sc) f.sure ∧ BtT w (.slice na f.now.length nc) f.now ∧ ChT w (.slice la f.loose.length lc) f.loose

theorem Ty.fr {M : TypeId → Prop} {w w' : World} {e : TypeId} {v : Value} (h : Ty e w v) (hf : Fr M w w') (he : ¬ M e) : Ty e w' v := fun g hg => by
  obtain ⟨cur, fz, h1⟩ := h g hg
  exact ⟨cur, fz, (hf.kept g cur e fz h1 he).trans h1⟩
theorem Sl.fr {M : TypeId → Prop} {w w' : World} {e : TypeId} {sz : Nat} {v : Value} {n : Nat} {xs : List Value} (h : Sl w sz v n xs) (ht : Ty e w v) (hf : Fr M w w') (he : ¬ M e) : Sl w' sz v n xs :=
  h.kept fun g hg => by
    obtain ⟨cur, fz, h1⟩ := ht g hg
    exact hf.kept g cur e fz h1 he
theorem BtT.fr {M : TypeId → Prop} {w w' : World} {v : Value} {l : List UInt8} (h : BtT w v l) (hf : Fr M w w') (he : ¬ M 5) : BtT w' v l := ⟨Sl.fr h.1 h.2 hf he, h.2.fr hf he⟩
theorem ChT.fr {M : TypeId → Prop} {w w' : World} {v : Value} {cs : List Chg} (h : ChT w v cs) (hf : Fr M w w') (h5 : ¬ M 5) (h8 : ¬ M 108) : ChT w' v cs := by
  obtain ⟨us, h1, h2, h3, h4⟩ := h
  refine ⟨us, h1, Sl.fr h2 h3 hf h8, h3.fr hf h8, fun k hk => ?_⟩
  obtain ⟨u, a, b⟩ := h4 k hk
  exact ⟨u, a, b.fr hf h5⟩
theorem FilT.fr {M : TypeId → Prop} {w w' : World} {v : Value} {f : Fil} (h : FilT w v f) (hf : Fr M w w') (h5 : ¬ M 5) (h8 : ¬ M 108) : FilT w' v f := by
  obtain ⟨sa, sc, na, nc, la, lc, rfl, h1, h2, h3⟩ := h
  exact ⟨sa, sc, na, nc, la, lc, rfl, h1.fr hf h5, h2.fr hf h5, h3.fr hf h5 h8⟩
theorem BtT.nil (w : World) : BtT w (.slice none 0 0) [] := ⟨Bt.nil w, fun g hg => by cases hg⟩
theorem ChT.nil (w : World) : ChT w (.slice none 0 0) [] := ⟨[], rfl, Sl.nil w 3, fun g hg => (by cases hg), fun k hk => by simp at hk⟩
def noFilV : Value := .agg #[.slice none 0 0, .slice none 0 0, .bool false, .bool false, .slice none 0 0]
theorem FilT.no (w : World) : FilT w noFilV noFil := ⟨none, 0, none, 0, none, 0, rfl, BtT.nil w, BtT.nil w, ChT.nil w⟩
theorem BtT.of_own {w : World} {B : Nat} {v : Value} {l : List UInt8} (h : w.ownsRow B 5 1 v l.length (bv l)) : BtT w v l := by
  refine ⟨Bt.of_own h, fun g hg => ?_⟩
  rcases h.2 with ⟨rfl, _⟩ | ⟨g', cap, cur, rfl, _, hh, _⟩
  · cases hg
  · cases hg
    exact ⟨cur, _, hh⟩

/-! ### lists by names -/
def insK {α : Type} (x : List UInt8 × α) : List (List UInt8 × α) → List (List UInt8 × α)
  | [] => [x]
  | y :: r => if bytesBefore x.1 y.1 then x :: y :: r else y :: insK x r
def delK {α : Type} (k : List UInt8) (l : List (List UInt8 × α)) : List (List UInt8 × α) := l.filter fun p => !(p.1 == k)
def putK {α : Type} (k : List UInt8) (x : α) (l : List (List UInt8 × α)) : List (List UInt8 × α) := insK (k, x) (delK k l)
def getK {α : Type} (k : List UInt8) (l : List (List UInt8 × α)) : Option α := (l.find? fun p => p.1 == k).map (·.2)

/-- two lists by names, alike -/
inductive Both {α β : Type} (R : α → β → Prop) : List (List UInt8 × α) → List (List UInt8 × β) → Prop
  | nil : Both R [] []
  | cons {k x y l m} : R x y → Both R l m → Both R ((k, x) :: l) ((k, y) :: m)
section
variable {α β : Type} {R : α → β → Prop}
theorem Both.length {l : List (List UInt8 × α)} {m : List (List UInt8 × β)} (h : Both R l m) : l.length = m.length := by
  induction h with
  | nil => rfl
  | cons _ _ ih => simp [ih]
theorem Both.mono {S : α → β → Prop} (hs : ∀ x y, R x y → S x y) {l : List (List UInt8 × α)} {m : List (List UInt8 × β)} (h : Both R l m) : Both S l m := by
  induction h with
  | nil => exact .nil
  | cons h _ ih => exact .cons (hs _ _ h) ih
theorem Both.ins {k : List UInt8} {x : α} {y : β} (hx : R x y) {l : List (List UInt8 × α)} {m : List (List UInt8 × β)} (h : Both R l m) : Both R (insK (k, x) l) (insK (k, y) m) := by
  induction h with
  | nil => exact .cons hx .nil
  | @cons k' x' y' l m h1 h2 ih =>
    unfold insK
    simp only
    split
    · exact .cons hx (.cons h1 h2)
    · exact .cons h1 ih
theorem Both.del {k : List UInt8} {l : List (List UInt8 × α)} {m : List (List UInt8 × β)} (h : Both R l m) : Both R (delK k l) (delK k m) := by
  induction h with
  | nil => exact .nil
  | @cons k' x' y' l m h1 h2 ih =>
    unfold delK at ih ⊢
    simp only [List.filter_cons]
    split
    · exact .cons h1 ih
    · exact ih
theorem Both.put {k : List UInt8} {x : α} {y : β} (hx : R x y) {l : List (List UInt8 × α)} {m : List (List UInt8 × β)} (h : Both R l m) : Both R (putK k x l) (putK k y m) := (h.del).ins hx
theorem Both.get {k : List UInt8} {l : List (List UInt8 × α)} {m : List (List UInt8 × β)} (h : Both R l m) :
    (getK k l = none ∧ getK k m = none) ∨ ∃ x y, getK k l = some x ∧ getK k m = some y ∧ R x y := by
  induction h with
  | nil => exact Or.inl ⟨rfl, rfl⟩
  | @cons k' x' y' l m h1 h2 ih =>
    unfold getK at ih ⊢
    simp only [List.find?_cons]
    split
    · exact Or.inr ⟨x', y', rfl, rfl, h1⟩
    · exact ih
theorem Both.keys {l : List (List UInt8 × α)} {m : List (List UInt8 × β)} (h : Both R l m) : l.map (·.1) = m.map (·.1) := by
  induction h with
  | nil => rfl
  | cons _ _ ih => simp [ih]
end

/-! ### the map's block -/
def RV : Value → Option (DataW Value × List MemPlace) := fun v => some (.held v, [])
def mpD (l : List (List UInt8 × Value)) : DataW Value := .map (l.map fun p => (.string p.1, .held p.2))

theorem mpD_put (l : List (List UInt8 × Value)) (k : List UInt8) (v : Value) : (mpD l).put (.string k) (.held v) = mpD (putK k v l) := by
  have h1 : ∀ l : List (List UInt8 × Value), DataW.insert (Lit.string k, DataW.held v) (l.map fun p => (Lit.string p.1, DataW.held p.2)) = (insK (k, v) l).map fun p => (Lit.string p.1, DataW.held p.2) := by
    intro l
    induction l with
    | nil => rfl
    | cons y r ih =>
      rw [List.map_cons]
      unfold DataW.insert insK
      by_cases hb : bytesBefore k y.fst = true
      · rw [if_pos (show (Lit.string k).before (Lit.string y.1) = true from hb), if_pos hb]; rfl
      · rw [if_neg (show ¬ (Lit.string k).before (Lit.string y.1) = true from hb), if_neg hb, ih]; rfl
  have h2 : (l.map fun p => (Lit.string p.1, (DataW.held p.2 : DataW Value))).filter (fun p => !p.1.sameKey (.string k)) = (delK k l).map fun p => (Lit.string p.1, DataW.held p.2) := by
    unfold delK
    rw [List.filter_map]
    rfl
  unfold mpD putK
  simp only [DataW.put]
  rw [h2, h1]
theorem mpD_del (l : List (List UInt8 × Value)) (k : List UInt8) : (mpD l).del (.string k) = mpD (delK k l) := by
  unfold mpD delK
  simp only [DataW.del]
  rw [List.filter_map]
  rfl
theorem mpD_at (l : List (List UInt8 × Value)) (k : List UInt8) (z : Value) : (mpD l).atKey (.string k) (.held z) = .held ((getK k l).getD z) := by
  unfold mpD getK
  simp only [DataW.atKey]
  rw [List.find?_map]
  have : ((fun p : Lit × DataW Value => p.1.sameKey (.string k)) ∘ fun p : List UInt8 × Value => (Lit.string p.1, DataW.held p.2)) = fun p => p.1 == k := rfl
  rw [this]
  cases l.find? fun p => p.1 == k <;> rfl
theorem mpD_has (l : List (List UInt8 × Value)) (k : List UInt8) : Maps.has (mpD l) (.string k) = (getK k l).isSome := by
  unfold mpD getK
  rw [Maps.has_eq]
  rw [List.any_map]
  have : ((fun p : Lit × DataW Value => p.1.sameKey (.string k)) ∘ fun p : List UInt8 × Value => (Lit.string p.1, DataW.held p.2)) = fun p => p.1 == k := rfl
  rw [this, Option.isSome_map, Bool.eq_iff_iff, List.find?_isSome, List.any_eq_true]

/-- block mb of w is a disk's map -/
def Dk (w : World) (mb : Nat) (D : List (List UInt8 × Fil)) : Prop :=
  ∃ l, w.ownsMap Tryz.prog 9 RV mb l.length (mpD l) ∧ Both (FilT w) l D

theorem own_len {w : World} {mb n : Nat} {l : List (List UInt8 × Value)} (h : w.ownsMap Tryz.prog 9 RV mb n (mpD l)) : w.ownsMap Tryz.prog 9 RV mb l.length (mpD l) := by
  obtain ⟨es, clock, hb, F, hs, hD⟩ := h
  refine ⟨es, clock, hb, F, ?_, hD⟩
  have h1 := congrArg Maps.size hD
  unfold mpD at h1
  rw [Maps.size_eq, Maps.size_eq, List.length_map, length_sorted, List.length_map, Array.length_toList] at h1
  exact Nat.le_of_eq h1.symm

theorem Dk.fr {M : TypeId → Prop} {w w' : World} {mb : Nat} {D : List (List UInt8 × Fil)} (h : Dk w mb D) (hf : Fr M w w') (h5 : ¬ M 5) (h8 : ¬ M 108) (hm : w'.heap[mb]? = w.heap[mb]?) : Dk w' mb D := by
  obtain ⟨l, ⟨es, clock, hb, r⟩, h2⟩ := h
  exact ⟨l, ⟨es, clock, hm.trans hb, r⟩, h2.mono fun _ _ h => h.fr hf h5 h8⟩
theorem Dk.lt {w : World} {mb : Nat} {D : List (List UInt8 × Fil)} (h : Dk w mb D) : mb < w.heap.size := by
  obtain ⟨l, h1, _⟩ := h
  exact h1.lt
theorem Dk.below {w w' : World} {mb : Nat} {D : List (List UInt8 × Fil)} (h : Dk w mb D) {B : Nat} (hb : Below B w w') (hB : w.heap.size ≤ B) : Dk w' mb D :=
  h.fr (M := noTypes) (Fr.of_below hb hB) id id (hb.block mb (Nat.lt_of_lt_of_le h.lt hB))
theorem Dk.new (w : World) : Dk (w.alloc (Obj.map #[] 0)) w.heap.size [] := ⟨[], World.ownsMap_made w Tryz.prog 9 RV, .nil⟩

theorem zero106 (w : World) : (zeroValue 106).run Tryz.prog w = .ok noFilV w := by kernel_rfl
theorem keyed9 : Keyed Tryz.prog 9 := string_keyed Tryz.underlying9
theorem key_tx (k : List UInt8) (hk : k.length ≤ maxLen) : keyOf Tryz.prog 9 (.string (tx k)) = some (.string k) := by
  have := WideMaps.keyOf_string_mk (P := Tryz.prog) (k := 9) Tryz.underlying9 (s := tx k) (by simpa using hk)
  simpa using this

/-- 'd.l[name] = f', 'delete(d.l, name)', as equations -/
theorem set_run (W : World) (mb : Nat) (D : List (List UInt8 × Fil)) (hD : Dk W mb D) (k : List UInt8) (hk : k.length ≤ maxLen) (v : Value) (f : Fil) (hv : FilT W v f) (hn : D.length < maxLen) :
    ∃ w', (Instr.mapUpdate 89 (.map (some mb)) (.string (tx k)) v).run Tryz.prog W = .ok () w' ∧ Dk w' mb (putK k f D) ∧ W.mapTurned w' mb := by
  obtain ⟨l, h1, h2⟩ := hD
  obtain ⟨w', hrun, ho, ht⟩ := h1.store (t := 89) (e := 106) keyed9 Tryz.underlying89 (by rw [h2.length]; exact hn) (val := v) (d := .held v) (ps := []) (key_tx k hk) rfl
  rw [mpD_put] at ho
  have hf : Fr noTypes W w' := Fr.of_map ht
  exact ⟨w', hrun, ⟨_, own_len ho, (h2.mono fun _ _ h => h.fr hf id id).put (hv.fr hf id id)⟩, ht⟩
theorem del_run (W : World) (mb : Nat) (D : List (List UInt8 × Fil)) (hD : Dk W mb D) (k : List UInt8) (hk : k.length ≤ maxLen) (ty : TypeId) :
    ∃ w', (Builtin.delete_ #[89, 9] ty #[.map (some mb), .string (tx k)]).run Tryz.prog W = .ok (.tuple #[]) w' ∧ Dk w' mb (delK k D) ∧ W.mapTurned w' mb := by
  obtain ⟨l, h1, h2⟩ := hD
  obtain ⟨w', hrun, ho, ht⟩ := h1.drop (t := 89) (e := 106) keyed9 Tryz.underlying89 (key_tx k hk) ty
  rw [mpD_del] at ho
  have hf : Fr noTypes W w' := Fr.of_map ht
  exact ⟨w', hrun, ⟨_, own_len ho, (h2.mono fun _ _ h => h.fr hf id id).del⟩, ht⟩
theorem look_run (W : World) (mb : Nat) (D : List (List UInt8 × Fil)) (hD : Dk W mb D) (k : List UInt8) (hk : k.length ≤ maxLen) :
    ∃ sa sc na nc la lc, (Instr.lookup 89 (.map (some mb)) (.string (tx k)) false).run Tryz.prog W =
        .ok (.agg #[.slice sa ((getK k D).getD noFil).sure.length sc, .slice na ((getK k D).getD noFil).now.length nc, .bool ((getK k D).getD noFil).isSure, .bool ((getK k D).getD noFil).isNow, .slice la ((getK k D).getD noFil).loose.length lc]) W ∧
      (Instr.lookup 89 (.map (some mb)) (.string (tx k)) true).run Tryz.prog W =
        .ok (.tuple #[.agg #[.slice sa ((getK k D).getD noFil).sure.length sc, .slice na ((getK k D).getD noFil).now.length nc, .bool ((getK k D).getD noFil).isSure, .bool ((getK k D).getD noFil).isNow, .slice la ((getK k D).getD noFil).loose.length lc], .bool (getK k D).isSome]) W ∧
      FilT W (.agg #[.slice sa ((getK k D).getD noFil).sure.length sc, .slice na ((getK k D).getD noFil).now.length nc, .bool ((getK k D).getD noFil).isSure, .bool ((getK k D).getD noFil).isNow, .slice la ((getK k D).getD noFil).loose.length lc]) ((getK k D).getD noFil) := by
  obtain ⟨l, h1, h2⟩ := hD
  obtain ⟨v, ps, hrun, hv⟩ := h1.lookup (t := 89) (e := 106) keyed9 Tryz.underlying89 (zero106 W) (zd := .held noFilV) (zp := []) rfl (key_tx k hk)
  obtain ⟨v2, ps2, hrun2, hv2⟩ := h1.look_ok (t := 89) (e := 106) keyed9 Tryz.underlying89 (zero106 W) (zd := .held noFilV) (zp := []) rfl (key_tx k hk)
  rw [mpD_at] at hv hv2
  rw [mpD_has] at hrun2
  have e1 : v = (getK k l).getD noFilV := by
    simp only [RV, Option.some.injEq, Prod.mk.injEq, DataW.held.injEq] at hv
    exact hv.1
  have e2 : v2 = (getK k l).getD noFilV := by
    simp only [RV, Option.some.injEq, Prod.mk.injEq, DataW.held.injEq] at hv2
    exact hv2.1
  have hT : FilT W ((getK k l).getD noFilV) ((getK k D).getD noFil) ∧ (getK k l).isSome = (getK k D).isSome := by
    rcases h2.get (k := k) with ⟨e1, e2⟩ | ⟨x, y, e1, e2, hxy⟩
    · rw [e1, e2]; exact ⟨FilT.no W, rfl⟩
    · rw [e1, e2]; exact ⟨hxy, rfl⟩
  rw [e1] at hrun
  rw [e2, hT.2] at hrun2
  obtain ⟨hT, _⟩ := hT
  have hT2 := hT
  obtain ⟨sa, sc, na, nc, la, lc, e3, _⟩ := hT2
  rw [e3] at hrun hrun2 hT
  exact ⟨sa, sc, na, nc, la, lc, hrun, hrun2, hT⟩

section
variable {w : World} {ops : Array Oper} {rest : List Oper} {o : Oper} {a : Act} {Q : Exit → Act → World → Prop}
/-- 'd.l[name]' -/
theorem wl_look (hg : o.guard = none) (m x : Operand) (hop : o.op = Op.lookup 89 m x false) (mb : Nat) (D : List (List UInt8 × Fil)) (hm : a.eval m = .map (some mb)) (hD : Dk w mb D)
    (k : List UInt8) (hx : a.eval x = .string (tx k)) (hk : k.length ≤ maxLen) (f : Fil) (hf : f = (getK k D).getD noFil)
    (h : ∀ sa sc na nc la lc, FilT w (.agg #[.slice sa f.sure.length sc, .slice na f.now.length nc, .bool f.isSure, .bool f.isNow, .slice la f.loose.length lc]) f →
      wpList Tryz.prog ops Q rest (a.put o.dst (.agg #[.slice sa f.sure.length sc, .slice na f.now.length nc, .bool f.isSure, .bool f.isNow, .slice la f.loose.length lc])) w) : wpList Tryz.prog ops Q (o :: rest) a w := by
  obtain ⟨l, h1, h2⟩ := hD
  obtain ⟨v, ps, hrun, hv⟩ := h1.lookup (t := 89) (e := 106) keyed9 Tryz.underlying89 (zero106 w) (zd := .held noFilV) (zp := []) rfl (key_tx k hk)
  rw [mpD_at] at hv
  have hv2 : v = (getK k l).getD noFilV := by
    simp only [RV, Option.some.injEq, Prod.mk.injEq, DataW.held.injEq] at hv
    exact hv.1
  have hT : FilT w v f := by
    rw [hv2, hf]
    rcases h2.get (k := k) with ⟨e1, e2⟩ | ⟨x, y, e1, e2, hxy⟩
    · rw [e1, e2]; exact FilT.no w
    · rw [e1, e2]; exact hxy
  refine wpList_plain hg fun K' hK' => ?_
  unfold Oper.wp
  simp only [execOp, hop, hm, hx, hrun, Result.andThen_ok, Sem.run_bind, Sem.run_pure]
  have hT2 := hT
  obtain ⟨sa, sc, na, nc, la, lc, rfl, _⟩ := hT2
  exact hK' _ _ (h sa sc na nc la lc hT)
end
end Go.Proofs.YtpcipfnahknngaaGreatDoor

/- Contract of wal.Parse of a record: the body's block is of bytes. No statement of the seat. -/
namespace Go.Proofs.YtpcipfnahknngaaGreatDoor
open Go.RowKit

section
variable {w : World} {ops : Array Oper} {rest : List Oper} {o : Oper} {a : Act} {Q : Exit → Act → World → Prop}
theorem wl_bytes2T (hgd : o.guard = none) (x : Operand) (ho : o.op = .convert 9 23 x) (s : List UInt8) (hx : a.eval x = .string (tx s)) (hs : s.length ≤ 140737488351232)
    (h : ∀ cap w', Bt w' (.slice (some ⟨w.heap.size, 0, none⟩) s.length cap) s → (∃ cur fz, w'.heap[w.heap.size]? = some (Obj.cells cur 5 fz)) → Below w.heap.size w w' → wpList Tryz.prog ops Q rest (a.put o.dst (.slice (some ⟨w.heap.size, 0, none⟩) s.length cap)) w') : wpList Tryz.prog ops Q (o :: rest) a w := by
  obtain ⟨v, w', h1, h2, h3, cap, rfl⟩ := conv_bytes w s hs
  have hr := run_bytes_of_string (P := Tryz.prog) w 9 23 5 (tx s) Tryz.underlying9 Tryz.underlying23 Tryz.underlying5
  rw [h1] at hr
  have hty : ∃ cur fz, w'.heap[w.heap.size]? = some (Obj.cells cur 5 fz) := by
    injection hr with _ e
    rw [e]
    exact ⟨_, _, heap_alloc_new w.drew _⟩
  refine wpList_plain hgd fun K hK => ?_
  unfold Oper.wp
  simp only [execOp, ho, hx, h1, Sem.run_bind, Result.andThen_ok, Sem.run_pure]
  exact hK _ _ (h _ _ h2 hty h3)
end

set_option maxRecDepth 100000 in
set_option maxHeartbeats 1600000 in
theorem parse9_yesT (v : Value) (b : List UInt8) (x : Ent) (w : World) (hv : Bt w v b) (hb : b.length ≤ 140737488351232) (hp : parseT b = some x) :
    Calls Tryz.prog 9 #[v] w fun e w' => ∃ uo uc, e = .returned (.tuple #[.agg #[.int .u64 x.i, .int .u64 x.t, .slice uo x.b.length uc], .int .i64 0]) ∧ BtT w' (.slice uo x.b.length uc) x.b ∧ Below w.heap.size w w' := by
  obtain ⟨a1, a2, h1, h2, h3, h4, h5⟩ := parseT_some hp
  have ha1 : a1 ≤ b.length := by have := takeT_le b 0; rw [h1] at this; exact this
  have ha2 : a2 ≤ b.length := by have := takeT_le b a1; rw [h2] at this; exact this
  have hb0 : Below w.heap.size w (w.alloc (.cells #[.int .u64 0, .int .u64 0, .slice none 0 0] 25)) := (Below.refl _ _).alloc (Nat.le_refl _) _
  have hv1 := hv.below hb0 (Nat.le_refl _)
  have c1 := take39i v b 0 0 rfl _ hv1 hb (by omega)
  have c2 := take39 v b a1 _ hv1 hb (by omega)
  have c3 := taketext40 v b a2 _ hv1 hb (by omega)
  rw [h1] at c1
  rw [h2] at c2
  rw [h3] at c3
  have C1 := Lib.hid c1
  have C2 := Lib.hid c2
  have C3 := Lib.hid c3
  have hsz : (tx x.b).size = x.b.length := tx_size x.b
  have hi0 : ((x.i : Int) == 0) = false := by simp; omega
  clear c1 c2 c3 h1 h2 h3 hp
  obtain ⟨y1, y2, ao, cap, rfl, y3, y4, y7, y5⟩ := hv
  clear y1 y2 y3 y4 y7 y5 hv1
  go_enter Tryz.func9, Tryz.ntmps9
  go_wp2_with (first
    | (go_at_call 39; (with_reducible refine C1.out.mono ?_); rintro e w1 ⟨rfl, rfl⟩)
    | (go_at_call 39; (with_reducible refine C2.out.mono ?_); rintro e w1 ⟨rfl, rfl⟩)
    | (go_at_call 40; (with_reducible refine C3.out.mono ?_); rintro e w1 ⟨rfl, rfl⟩)
    | (with_reducible refine wl_bytes2T rfl _ rfl x.b rfl (by omega) ?_; intro cap2 w2 hb2 hty hbel2; obtain ⟨k0, k1, k2, f0⟩ := box3 hbel2; have HT := Lib.hid hty; clear hty))
  have hb3 : Bt w2 (.slice (some ⟨w.heap.size + 1, 0, none⟩) x.b.length cap2) x.b := by simpa using hb2
  refine bodyPost_ret (v := .tuple #[.agg #[.int .u64 x.i, .int .u64 x.t, .slice (some ⟨w.heap.size + 1, 0, none⟩) x.b.length cap2], .int .i64 0]) (by simp [results, Tryz.results9, go_sem, k0, k1, k2]) rfl ⟨_, _, rfl, ⟨?_, fun g hg => ?_⟩, ?_⟩
  · refine Bt.setCell (Bt.setCell (Bt.setCell hb3 _ _ ?_) _ _ ?_) _ _ ?_ <;> simp [Value.ownBlock]
  · obtain ⟨cur, fz, h⟩ := HT.out
    have hg2 : g = w.heap.size + 1 := by cases hg; rfl
    subst hg2
    refine ⟨cur, fz, ?_⟩
    rw [Below.heap_setCell _ _ _ _ (show w.heap.size + 1 ≠ w.heap.size by omega), Below.heap_setCell _ _ _ _ (show w.heap.size + 1 ≠ w.heap.size by omega), Below.heap_setCell _ _ _ _ (show w.heap.size + 1 ≠ w.heap.size by omega)]
    simpa using h
  · refine (((below_tr ((Below.refl _ _).alloc (Nat.le_refl _) _) hbel2).setCell ?_ _).setCell ?_ _).setCell ?_ _ <;> exact Nat.le_refl _
end Go.Proofs.YtpcipfnahknngaaGreatDoor

/- Contract of the reference's Take. No statement of the seat. -/
namespace Go.Proofs.YtpcipfnahknngaaGreatDoor
open Go.RowKit

/-- modulo 2^64 -/
def m64 (n : Nat) : Nat := n % 18446744073709551616
theorem wrap_m64 (n : Nat) : IntKind.u64.wrap (n : Int) = (m64 n : Int) := by
  unfold m64
  simp only [IntKind.wrap_u64]
  omega
theorem m64_add (a b : Nat) : m64 (m64 a + m64 b) = m64 (a + b) := by unfold m64; omega
theorem m64_mul (a b : Nat) : m64 (a * m64 b) = m64 (a * b) := by unfold m64; rw [Nat.mul_mod_mod]
theorem m64_mul' (a b : Nat) : m64 (m64 a * b) = m64 (a * b) := by unfold m64; rw [Nat.mod_mul_mod]
theorem m64_step (r : List UInt8) (k x : Nat) (hx : x = (r.getD k 0).toNat) :
    IntKind.u64.wrap ((m64 (pv r k) : Int) + IntKind.u64.wrap ((x : Int) % 128 * (m64 (128 ^ k) : Int))) = (m64 (pv r (k + 1)) : Int) := by
  have e : pv r (k + 1) = pv r k + x % 128 * 128 ^ k := by rw [hx]; rfl
  have e1 : (x : Int) % 128 * (m64 (128 ^ k) : Int) = ((x % 128 * m64 (128 ^ k) : Nat) : Int) := by simp
  rw [e1, wrap_m64, m64_mul, ← Int.natCast_add, wrap_m64, m64_add, e]
theorem m64_weight (k : Nat) : IntKind.u64.wrap ((m64 (128 ^ k) : Int) * 128) = (m64 (128 ^ (k + 1)) : Int) := by
  have e1 : (m64 (128 ^ k) : Int) * 128 = ((m64 (128 ^ k) * 128 : Nat) : Int) := by simp
  rw [e1, wrap_m64, m64_mul', Nat.pow_succ]

/-- behind bytes of 128 or more -/
theorem take_run (r : List UInt8) : ∀ k, k ≤ 9 → k ≤ r.length → (∀ j (h : j < r.length), j < k → 128 ≤ (r[j]).toNat) → takeR r 0 0 = takeR (r.drop k) k (pv r k)
  | 0, _, _, _ => rfl
  | k + 1, h9, hk, hb => by
    rw [take_run r k (by omega) (by omega) (fun j h hj => hb j h (by omega)), takeR_step r k _ (by omega)]
    have hx := hb k (by omega) (by omega)
    rw [if_neg (by omega), if_neg (by omega)]
    have e : pv r (k + 1) = pv r k + (r[k]).toNat % 128 * 128 ^ k := by simp [pv, List.getD, show k < r.length by omega]
    rw [e]
theorem take_ten (r : List UInt8) (hk : 10 ≤ r.length) (hb : ∀ j (h : j < r.length), j < 10 → 128 ≤ (r[j]).toNat) : takeR r 0 0 = none := by
  rw [take_run r 9 (by omega) (by omega) (fun j h hj => hb j h (by omega)), takeR_step r 9 _ (by omega), if_pos]
  have := hb 9 (by omega) (by omega)
  omega
/-- .. a byte below 128, and what Put says is the same: taken -/
theorem take_yes (r : List UInt8) (k : Nat) (hk : k < r.length) (hk9 : k ≤ 9) (hb : ∀ j (h : j < r.length), j < k → 128 ≤ (r[j]).toNat) (hx : (r[k]).toNat < 128)
    (he : putL (m64 (pv r (k + 1))) = r.take (k + 1)) : takeR r 0 0 = some (m64 (pv r (k + 1)), k + 1) := by
  rw [take_run r k hk9 (by omega) hb, takeR_step r k _ hk]
  by_cases hbad : (k = 9 ∧ 1 < (r[k]).toNat) ∨ (0 < k ∧ (r[k]).toNat = 0)
  · exact absurd he (take_bad r k hk hk9 hbad hx)
  · have hg := take_good r k hk hk9 hb hx hbad
    rw [if_neg hbad, if_pos hx]
    have e : pv r (k + 1) = pv r k + (r[k]).toNat % 128 * 128 ^ k := by simp [pv, List.getD, hk]
    have e2 : m64 (pv r (k + 1)) = pv r (k + 1) := Nat.mod_eq_of_lt hg.1
    rw [e2, e]
theorem take_no (r : List UInt8) (k : Nat) (hk : k < r.length) (hk9 : k ≤ 9) (hb : ∀ j (h : j < r.length), j < k → 128 ≤ (r[j]).toNat) (hx : (r[k]).toNat < 128)
    (he : putL (m64 (pv r (k + 1))) ≠ r.take (k + 1)) : takeR r 0 0 = none := by
  rw [take_run r k hk9 (by omega) hb, takeR_step r k _ hk]
  by_cases hbad : (k = 9 ∧ 1 < (r[k]).toNat) ∨ (0 < k ∧ (r[k]).toNat = 0)
  · rw [if_pos hbad]
  · have hg := take_good r k hk hk9 hb hx hbad
    have e2 : m64 (pv r (k + 1)) = pv r (k + 1) := Nat.mod_eq_of_lt hg.1
    rw [e2] at he
    exact absurd hg.2 he

theorem tx_toList (l : List UInt8) : (tx l).toList = l := by
  have : ∀ s : ByteArray, s.toList = s.data.toList := by
    intro s
    exact ByteArray.toList_eq s
  rw [this, tx_list]

set_option maxRecDepth 100000 in
set_option maxHeartbeats 1600000 in
theorem rtake41 (v : Value) (b : List UInt8) (at_ : Nat) (w : World) (hv : Bt w v b) (hb : b.length ≤ 140737488351232) (hat : at_ ≤ 140737488351232) :
    Calls Tryz.prog 41 #[v, .int .i64 at_] w fun e w' => e = .returned (.tuple #[.int .u64 (takeT b at_).1, .int .i64 (takeT b at_).2.1, .int .i64 (takeT b at_).2.2]) ∧ Below w.heap.size w w' := by
  have hv0 := hv
  obtain ⟨y1, y2, ao, cap, rfl, y3, y4, y7, y5⟩ := hv0
  unfold maxLen at y4
  clear y1 y2 y7
  by_cases hgt : b.length < at_
  · have ht : takeT b at_ = (0, 0, 2) := by unfold takeT; rw [if_pos hgt]
    rw [ht]
    clear hv
    go_enter Tryz.func41, Tryz.ntmps41
    go_wp2
    go_ret3
    exact ⟨rfl, Below.refl _ _⟩
  by_cases heq : b.length = at_
  · have ht : takeT b at_ = (0, 0, 4) := by
      unfold takeT
      rw [if_neg (by omega), List.drop_of_length_le (by omega)]
      rfl
    rw [ht]
    have hle : b.length ≤ at_ := by omega
    have hge : at_ ≤ b.length := by omega
    clear y5 heq hv
    go_enter Tryz.func41, Tryz.ntmps41
    go_wp2
    refine wp_loop_rounds 1 ?_
    rw [rounds_succ]
    go_wp2
    go_ret3
    exact ⟨rfl, Below.refl _ _⟩
  · obtain ⟨g, off, rfl, hc⟩ := y5.resolve_left (by omega)
    have hlt : at_ < b.length := by omega
    obtain ⟨r, hr⟩ : ∃ r, r = b.drop at_ := ⟨_, rfl⟩
    have hrl : r.length = b.length - at_ := by rw [hr]; simp
    have hcell : ∀ k, (h : k < r.length) → w.cell? ⟨g, off + (at_ + k), none⟩ = some (.int .u8 (r[k]).toNat) := by
      intro k h
      rw [hc (at_ + k) _ (bv_get b (at_ + k) (by omega))]
      simp [hr]
    have HC := Lib.hid hcell
    have ht : takeT b at_ = (match takeR r 0 0 with | none => (0, 0, 4) | some (n, k) => (n, at_ + k, 0)) := by
      unfold takeT
      rw [if_neg hgt, ← hr]
      cases takeR r 0 0 <;> rfl
    have HT := Lib.hid ht
    have HRL := Lib.hid hrl
    have HRR := Lib.hid hr
    have HV := Lib.hid hv
    have hd : decide (b.length < at_) = false := by simp; omega
    have hrl2 : r.length ≤ b.length - at_ := by omega
    have hrl3 : b.length - at_ ≤ r.length := by omega
    clear hc hcell ht hr hrl heq hgt hv
    go_enter Tryz.func41, Tryz.ntmps41
    go_wp2
    go_loopg [4, 5, 6, 7, 8, 9] r.length (fun gk _ _ _ n m i wr => w = wr ∧ ∃ k : Nat, gk = r.length - k ∧ k ≤ r.length ∧ k ≤ 10 ∧ i = .int .i64 ((at_ + k : Nat)) ∧ n = .int .u64 (m64 (pv r k)) ∧ m = .int .u64 (m64 (128 ^ k)) ∧ ∀ j (h : j < r.length), j < k → 128 ≤ (r[j]).toNat)
    case atStart => exact ⟨rfl, 0, rfl, Nat.zero_le _, by omega, rfl, rfl, rfl, fun j h hj => by omega⟩
    case round =>
      obtain ⟨rfl, k, rfl, hk, hk9, rfl, rfl, rfl, hbig⟩ := hrel
      have HBG := Lib.hid hbig
      clear hbig
      by_cases hlt2 : k < r.length
      · by_cases hk10 : k < 10
        · have hcl := HC.out k hlt2
          obtain ⟨x, hx⟩ : ∃ x : Nat, x = (r[k]).toNat := ⟨_, rfl⟩
          have hx256 : x < 256 := by rw [hx]; exact (r[k]).toNat_lt
          have HX := Lib.hid hx
          rw [← hx] at hcl
          clear hx
          by_cases hx128 : x < 128
          · have hB : Bt w (.slice (some ⟨g, off + at_, none⟩) (k + 1) (cap - at_)) (r.take (k + 1)) := by
              have hlen : (r.take (k + 1)).length = k + 1 := by rw [List.length_take]; omega
              refine ⟨by simp, bv_one _, some ⟨g, off + at_, none⟩, cap - at_, by rw [hlen], by omega, by unfold maxLen; omega, (fun h => by cases h), Or.inr ⟨g, off + at_, rfl, fun j u hj => ?_⟩⟩
              have hjn : j < k + 1 := by
                have := (List.getElem?_eq_some_iff.1 hj).1
                rw [bv_length, hlen] at this
                exact this
              rw [bv_get _ j (by omega)] at hj
              cases hj
              have := HC.out j (by omega)
              rw [Nat.add_assoc, this]
              simp
            have HB := Lib.hid hB
            have hc0 := conv_str w.drew _ _ (hB.below ((Below.refl _ _).drew) (Nat.le_refl _))
            have HM : Hid (IntKind.u64.wrap ((m64 (pv r k) : Int) + IntKind.u64.wrap ((x : Int) % 128 * (m64 (128 ^ k) : Int))) = (m64 (pv r (k + 1)) : Int)) :=
              Lib.hid (m64_step r k x (by rw [HX.out]; simp [List.getD, hlt2]))
            clear hB
            have hsl := fun W => cut_run W 23 5 Tryz.underlying23 Tryz.sizeOf5 g off b.length cap .i64 .i64 (at_ : Int) ((at_ : Int) + (k : Int) + 1) at_ (at_ + (k + 1)) rfl (by omega) (by omega) (by omega) (by omega)
            simp only [Nat.add_sub_cancel_left] at hsl
            have hwr : IntKind.i64.wrap ((at_ : Int) + (k : Int) + 1) = (at_ : Int) + (k : Int) + 1 := IntWalk.i64_in _ (by omega)
            go_wp2
            go_region_with (go_at_call 38; go_must (refine (rput38 9 (m64 (pv r (k + 1))) _ _ HM.out (Nat.lt_of_lt_of_le (Nat.mod_lt _ (by decide)) (by decide)) (by omega) (Nat.mod_lt _ (by decide))).mono ?_; rintro e w1 ⟨v1, rfl, hown1, hbel1⟩; obtain ⟨ao1, cap1, rfl⟩ := own_shape hown1; have hcs := conv_str w1 _ _ (Bt.of_own hown1); have hcs2 := conv_str w1 _ _ (HB.out.below (((Below.refl w.heap.size w).drew).trans (hbel1.mono (Nat.le_refl _))) (Nat.le_refl _))))
            all_goals go_wp2
            all_goals first
              | (have he : ((tx (putL (m64 (pv r (k + 1))))).toList == (tx (List.take (k + 1) r)).toList) = true := (by assumption)
                 rw [tx_toList, tx_toList, beq_iff_eq] at he
                 have ht : takeT b at_ = (m64 (pv r (k + 1)), at_ + (k + 1), 0) := by rw [HT.out, take_yes r k hlt2 (by omega) HBG.out (by rw [← HX.out]; exact hx128) he]
                 rw [ht, ← HM.out]
                 go_ret3
                 exact ⟨by go_num, by first | exact ((Below.refl w.heap.size w).drew).trans (hbel1.mono (Nat.le_refl _)) | exact (Below.refl w.heap.size w).drew⟩)
              | (have he : ((tx (putL (m64 (pv r (k + 1))))).toList == (tx (List.take (k + 1) r)).toList) = false := (by assumption)
                 rw [tx_toList, tx_toList, beq_eq_false_iff_ne] at he
                 have ht : takeT b at_ = (0, 0, 4) := by rw [HT.out, take_no r k hlt2 (by omega) HBG.out (by rw [← HX.out]; exact hx128) he]
                 rw [ht]
                 go_ret3
                 exact ⟨rfl, ((Below.refl w.heap.size w).drew).trans (hbel1.mono (Nat.le_refl _))⟩)
          · go_wp2
            go_roundg (r.length - (k + 1))
            case measure => omega
            case rel =>
              refine ⟨rfl, k + 1, rfl, by omega, by omega, by go_num, ?_, ?_, ?_⟩
              · rw [m64_step r k x (by rw [HX.out]; simp [List.getD, hlt2])]
              · rw [m64_weight]
              · intro j hj hjk
                rcases Nat.lt_or_ge j k with h | h
                · exact HBG.out j hj h
                · have e : j = k := by omega
                  subst e
                  rw [← HX.out]; omega
        · have ht : takeT b at_ = (0, 0, 4) := by rw [HT.out, take_ten r (by omega) (fun j h hj => HBG.out j h (by omega))]
          have HTT := Lib.hid ht
          clear ht
          go_wp2
          rw [HTT.out]
          go_ret3
          exact ⟨rfl, Below.refl _ _⟩
      · have ht : takeT b at_ = (0, 0, 4) := by
          rw [HT.out]
          rcases Nat.lt_or_ge k 10 with h | h
          · rw [take_run r k (by omega) hk HBG.out, List.drop_of_length_le (by omega)]
            rfl
          · rw [take_ten r (by omega) (fun j h2 hj => HBG.out j h2 (by omega))]
        have HTT := Lib.hid ht
        clear ht
        go_wp2
        rw [HTT.out]
        go_ret3
        exact ⟨rfl, Below.refl _ _⟩
end Go.Proofs.YtpcipfnahknngaaGreatDoor

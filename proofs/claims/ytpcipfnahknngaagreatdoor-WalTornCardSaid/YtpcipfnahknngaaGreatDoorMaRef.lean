/- Texts of seat wal in one: RefRec RefPar Same. No statement of the seat. -/
import Derived.Test.YtpcipfnahknngaaGreatDoorMaRec
import Derived.BigQuiet
import Derived.Deep.QuietTactic
import Derived.Deep.RegionWith
import Derived.Deep.RegionLawGrows
import Derived.Deep.DeepMust
import Derived.Test.YtpcipfnahknngaaGreatDoorMaDsk
/- Contracts of the reference's PutText, TakeText, Record, Parse, Same. No statement of the seat. -/
namespace Go.Proofs.YtpcipfnahknngaaGreatDoor
open Go.RowKit

theorem own_below' {w w' : World} {B B' : Nat} {e : TypeId} {sz : Nat} {v : Value} {n : Nat} {xs : List Value} (h : w.ownsRow B e sz v n xs) (hb : Below B' w w') (hB : w.heap.size ≤ B') : w'.ownsRow B e sz v n xs := by
  refine ⟨h.1, ?_⟩
  rcases h.2 with h2 | ⟨g, cap, cur, h3, h4, h5, r⟩
  · exact Or.inl h2
  · exact Or.inr ⟨g, cap, cur, h3, h4, (hb.block g (Nat.lt_of_lt_of_le (Array.getElem?_eq_some_iff.1 h5).1 hB)).trans h5, r⟩

theorem rput_any (n : Nat) (a : Int) (w : World) (ha : a = n) (hn : n < 18446744073709551616) :
    Calls Tryz.prog 38 #[.int .u64 a] w fun e w' => ∃ v, e = .returned v ∧ w'.ownsRow w.heap.size 5 1 v (putL n).length (bv (putL n)) ∧ Below w.heap.size w w' :=
  rput38 9 n a w ha (Nat.lt_trans hn (by decide)) (Nat.le_refl _) hn

set_option maxRecDepth 100000 in
set_option maxHeartbeats 1600000 in
theorem rputtext37 (s : List UInt8) (w : World) (hs : s.length ≤ 4096) :
    Calls Tryz.prog 37 #[.string (tx s)] w fun e w' => ∃ v', e = .returned (.tuple #[v', .int .i64 0]) ∧ w'.ownsRow w.heap.size 5 1 v' (putText s).length (bv (putText s)) ∧ Below w.heap.size w w' := by
  have hsz : (tx s).size = s.length := tx_size s
  have hlen := putL_len s.length (by omega)
  have HLN := Lib.hid hlen
  clear hlen
  go_enter Tryz.func37, Tryz.ntmps37
  go_wp2_with (first
    | (go_at_call 38; refine (rput_any s.length _ _ rfl (by omega)).mono ?_; rintro e w1 ⟨v1, rfl, hown1, hbel1⟩; obtain ⟨ao1, cap1, rfl⟩ := own_shape hown1)
    | (with_reducible refine wl_bytes rfl _ rfl s rfl (by omega) ?_; intro g cap w2 hb2 hbel2)
    | (at_builtin; refine wl_appB rfl _ _ rfl w.heap.size _ (putL s.length) rfl (own_below' hown1 hbel2 (Nat.le_refl _)) _ s rfl hb2 (by have := HLN.out; omega) (Nat.le_trans hbel1.size hbel2.size) ?_; intro v3 w3 hown3 hgrow3; obtain ⟨ao3, cap3, rfl⟩ := own_shape hown3))
  go_ret2
  refine ⟨_, rfl, ?_, below_own (below_tr hbel1 hbel2) (own_below' hown1 hbel2 (Nat.le_refl _)) hgrow3⟩
  simpa [putText] using hown3
set_option maxRecDepth 100000 in
set_option maxHeartbeats 1600000 in
theorem rtaketext42 (v : Value) (b : List UInt8) (at_ : Nat) (w : World) (hv : Bt w v b) (hb : b.length ≤ 140737488351232) (hat : at_ ≤ 140737488351232) :
    Calls Tryz.prog 42 #[v, .int .i64 at_] w fun e w' => e = .returned (.tuple #[.string (tx (takeTextT b at_).1), .int .i64 (takeTextT b at_).2.1, .int .i64 (takeTextT b at_).2.2]) ∧ Below w.heap.size w w' := by
  have hc := rtake41 v b at_ w hv hb hat
  have hv0 := hv
  obtain ⟨y1, y2, ao, cap, rfl, y3, y4, y7, y5⟩ := hv0
  unfold maxLen at y4
  clear y1 y2
  obtain ⟨n, nx, e, ht⟩ : ∃ n nx e, takeT b at_ = (n, nx, e) := ⟨_, _, _, rfl⟩
  rw [ht] at hc
  cases e with
  | succ e =>
    have hx : takeTextT b at_ = ([], 0, e + 1) := by unfold takeTextT; rw [ht]
    have hb2 := takeT_bad ht (by omega)
    rw [hx]
    have hne : ((((e + 1 : Nat) : Int)) != 0) = true := by simp; omega
    have HC := Lib.hid hc
    clear hc hv ht y5 y7
    go_enter Tryz.func42, Tryz.ntmps42
    go_wp2_with (go_at_call 41; refine HC.out.mono ?_; rintro e w' ⟨rfl, hbw⟩)
    go_ret3
    exact ⟨rfl, hbw⟩
  | zero =>
    obtain ⟨hlt, hnx⟩ := takeT_ok ht
    have hx : takeTextT b at_ = if 4096 < n ∨ b.length - nx < n then ([], 0, 4) else ((b.drop nx).take n, nx + n, 0) := by unfold takeTextT; rw [ht]
    have HX := Lib.hid hx
    have HC := Lib.hid hc
    clear hc ht hx
    obtain ⟨g, off, rfl, hcell⟩ := y5.resolve_left (by omega)
    by_cases h1 : 4096 < n
    · have HX2 := HX.out
      rw [if_pos (Or.inl h1)] at HX2
      rw [HX2]
      clear HX2 hcell hv
      go_enter Tryz.func42, Tryz.ntmps42
      go_wp2_with (go_at_call 41; refine HC.out.mono ?_; rintro e w' ⟨rfl, hbw⟩)
      go_ret3
      exact ⟨rfl, hbw⟩
    by_cases h2 : b.length - nx < n
    · have HX2 := HX.out
      rw [if_pos (Or.inr h2)] at HX2
      rw [HX2]
      clear HX2 hcell hv
      go_enter Tryz.func42, Tryz.ntmps42
      go_wp2_with (go_at_call 41; refine HC.out.mono ?_; rintro e w' ⟨rfl, hbw⟩)
      go_ret3
      exact ⟨rfl, hbw⟩
    · have HX2 := HX.out
      rw [if_neg (by omega)] at HX2
      rw [HX2]
      have h3 : (n : Int) ≤ 4096 := by omega
      have h4 : (n : Int) ≤ (b.length : Int) - (nx : Int) := by omega
      rcases Nat.lt_or_ge nx cap with hcap | hcap
      · have hne : ¬ cap = nx := by omega
        have hB : Bt w (.slice (some ⟨g, off + nx, none⟩) n (cap - nx)) ((b.drop nx).take n) := by
          have hlen : ((b.drop nx).take n).length = n := by simp; omega
          refine ⟨by simp, bv_one _, some ⟨g, off + nx, none⟩, cap - nx, by rw [hlen], by omega, by unfold maxLen; omega, (fun h => by cases h), Or.inr ⟨g, off + nx, rfl, fun j u hj => ?_⟩⟩
          have hjn : j < n := by
            have := (List.getElem?_eq_some_iff.1 hj).1
            rw [bv_length, hlen] at this
            exact this
          rw [bv_get _ j (by omega)] at hj
          cases hj
          have := hcell (nx + j) _ (bv_get b (nx + j) (by omega))
          rw [Nat.add_assoc, this]
          simp
        have HB := Lib.hid hB
        clear HX2 hcell hv hB
        go_enter Tryz.func42, Tryz.ntmps42
        go_wp2_with (go_at_call 41; refine HC.out.mono ?_; rintro e w' ⟨rfl, hbw⟩; have hcs := conv_str w' _ _ (HB.out.below hbw (Nat.le_refl _)))
        go_ret3
        exact ⟨rfl, hbw⟩
      · have hn0 : n = 0 := by omega
        have hcn : cap = nx := by omega
        subst hn0 hcn
        have HB : Hid (Bt w (.slice (some ⟨g, off, none⟩) 0 0) []) := Lib.hid ⟨rfl, bv_one _, some ⟨g, off, none⟩, 0, rfl, Nat.le_refl _, Nat.zero_le _, (fun h => by cases h), Or.inl rfl⟩
        have hb2 : ((b.drop cap).take 0) = [] := rfl
        rw [hb2]
        clear HX2 hcell hv
        go_enter Tryz.func42, Tryz.ntmps42
        go_wp2_with (go_at_call 41; refine HC.out.mono ?_; rintro e w' ⟨rfl, hbw⟩; have hcs := conv_str w' _ _ (HB.out.below hbw (Nat.le_refl _)))
        go_ret3
        exact ⟨rfl, hbw⟩

/-- 'append(own, xs...)' as one step of a region -/
theorem step_app {ops : Array Oper} {o : Oper} {a : Act} {w : World} {K : Act → World → Prop} {Q : Exit → Act → World → Prop} {E : Prop}
    (hgd : o.guard = none) (s x : Operand) (t : TypeId) (ho : o.op = .call { callee := .builtin .append, args := #[s, x], argTypes := #[t, t] })
    (B : Nat) (e : TypeId) (z : Value) (sz bytes : Nat) (ht : Tryz.prog.underlying t = some (.slice e)) (hi : (Tryz.prog.info? e).map (fun i => (i.zero, i.size, i.bytes)) = some (some z, sz, bytes))
    (hzs : z.cells.size = sz) (hsz : 0 < sz)
    (v : Value) (n : Nat) (xs : List Value) (hs : a.eval s = v) (hown : w.ownsRow B e sz v n xs)
    (y : Value) (m : Nat) (ys : List Value) (hx : a.eval x = y) (hy : Sl w sz y m ys)
    (h63 : n + m ≤ maxLen) (hbytes : (n + m) * bytes ≤ 140737488355328) (hbase : B ≤ w.heap.size)
    (hK : ∀ ao cap w', w'.ownsRow B e sz (.slice ao (n + m) cap) (n + m) (xs ++ ys) → w.grownBy w' v.ownBlock → K (a.put o.dst (.slice ao (n + m) cap)) w') :
    if Region.wanted o (yielded ops a.tmps) = true then Oper.wp Tryz.prog o a w K Q else E := by
  have hw : Region.wanted o (yielded ops a.tmps) = true := by simp [Region.wanted, hgd]
  rw [if_pos hw]
  obtain ⟨i0, hi, hz0, hz1, hz2⟩ := info_parts hi
  obtain ⟨y1, y2, ao, cap, rfl, y3, y4, y7, y5⟩ := hy
  have fin : ∀ v' w', w'.ownsRow B e sz v' (n + m) (xs ++ ys) → w.grownBy w' v.ownBlock → K (a.put o.dst v') w' := by
    intro v' w' h1 h2
    have h1' := h1
    rcases h1'.2 with ⟨rfl, h0⟩ | ⟨g, cap', cur, rfl, _⟩
    · have := hK none 0 w' (by rw [h0] at h1 ⊢; exact h1) h2
      rw [h0] at this
      exact this
    · exact hK _ _ w' h1 h2
  cases ao with
  | none =>
    have hm : m = 0 := by
      rcases y5 with y5 | ⟨g, off, y5, _⟩
      · exact y5
      · cases y5
    subst hm
    have hys : ys = [] := List.eq_nil_of_length_eq_zero (by simpa using y1)
    subst hys
    obtain rfl := y7 rfl
    have hrun := run_append_owned_none (P := Tryz.prog) (w := w) B t o.type e i0 sz ht hi v n xs hown
    unfold Oper.wp
    simp [execOp, ho, resolve, invoke, builtin, hs, hx, hrun, Result.andThen]
    exact fin v w (by simpa using hown) ⟨rfl, rfl, rfl, Nat.le_refl _, fun _ _ _ => rfl⟩
  | some ad =>
    obtain ⟨v', w', hrun, r1, r2, _⟩ := run_append_own (P := Tryz.prog) w B t o.type e i0 z sz bytes ht hi hz0 hz1 hz2 hzs hsz v n xs hown ad m cap ys y1 (by
      intro j u hj
      rcases y5 with rfl | ⟨g, off, y5, y6⟩
      · have e0 : ys = [] := List.eq_nil_of_length_eq_zero (by simpa using y1)
        subst e0
        simp at hj
      · cases y5
        have := y6 j u hj
        unfold Addr.add
        split
        · rename_i e0; subst e0; simpa using this
        · exact this) y2 h63 hbytes hbase
    unfold Oper.wp
    simp [execOp, ho, resolve, invoke, builtin, hs, hx, hrun, Result.andThen]
    exact fin v' w' r1 r2
theorem step_appB {ops : Array Oper} {o : Oper} {a : Act} {w : World} {K : Act → World → Prop} {Q : Exit → Act → World → Prop} {E : Prop}
    (hgd : o.guard = none) (s x : Operand) (ho : o.op = .call { callee := .builtin .append, args := #[s, x], argTypes := #[23, 23] })
    (B : Nat) (v : Value) (l : List UInt8) (hs : a.eval s = v) (hown : w.ownsRow B 5 1 v l.length (bv l))
    (y : Value) (m : List UInt8) (hx : a.eval x = y) (hy : Bt w y m) (hlen : l.length + m.length ≤ 140737488351232) (hbase : B ≤ w.heap.size) (r : List UInt8) (hr : l ++ m = r)
    (hK : ∀ ao cap w', w'.ownsRow B 5 1 (.slice ao r.length cap) r.length (bv r) → w.grownBy w' v.ownBlock → K (a.put o.dst (.slice ao r.length cap)) w') :
    if Region.wanted o (yielded ops a.tmps) = true then Oper.wp Tryz.prog o a w K Q else E := by
  subst hr
  exact step_app hgd s x 23 ho B 5 (.int .u8 0) 1 1 Tryz.underlying23 info5 rfl (by decide) v l.length (bv l) hs hown y m.length (bv m) hx hy (by unfold maxLen; omega) (by omega) hbase
    fun ao cap w' h1 h2 => by
      have := hK ao cap w'
      simp only [List.length_append, bv_append] at this
      exact this h1 h2

set_option maxRecDepth 100000 in
set_option maxHeartbeats 800000 in
theorem rrecord8_arg (t : Nat) (u : Value) (w : World) :
    Calls Tryz.prog 8 #[.agg #[.int .u64 0, .int .u64 t, u]] w fun e w' => e = .returned (.tuple #[.slice none 0 0, .int .i64 2]) ∧ Below w.heap.size w w' := by
  go_enter Tryz.func8, Tryz.ntmps8
  go_wp2
  go_ret2
  exact ⟨rfl, (Below.refl _ _).alloc (Nat.le_refl _) _⟩
set_option maxRecDepth 100000 in
set_option maxHeartbeats 800000 in
theorem rrecord8_long (x : Ent) (u : Value) (w : World) (hu : Bt w u x.b) (h0 : x.i ≠ 0) (hl : 2000 < x.b.length) :
    Calls Tryz.prog 8 #[.agg #[.int .u64 x.i, .int .u64 x.t, u]] w fun e w' => e = .returned (.tuple #[.slice none 0 0, .int .i64 3]) ∧ Below w.heap.size w w' := by
  have hd0 : ((x.i : Int) == 0) = false := by simp; omega
  obtain ⟨y1, y2, ao, cap, rfl, y3, y4, y7, y5⟩ := hu
  clear y1 y2 y3 y4 y7 y5
  go_enter Tryz.func8, Tryz.ntmps8
  go_wp2
  go_ret2
  exact ⟨rfl, (Below.refl _ _).alloc (Nat.le_refl _) _⟩
set_option maxRecDepth 100000 in
set_option maxHeartbeats 3200000 in
theorem rrecord8 (x : Ent) (u : Value) (w : World) (hx : x.ok) (hu : Bt w u x.b) (h0 : x.i ≠ 0) (hl : x.b.length ≤ 2000) :
    Calls Tryz.prog 8 #[.agg #[.int .u64 x.i, .int .u64 x.t, u]] w fun e w' => ∃ v, e = .returned (.tuple #[v, .int .i64 0]) ∧ w'.ownsRow w.heap.size 5 1 v (recL x).length (bv (recL x)) ∧ Below w.heap.size w w' := by
  obtain ⟨hx1, hx2, hx3⟩ := hx
  have HX1 := Lib.hid hx1
  have HX2 := Lib.hid hx2
  clear hx1 hx2 hx3
  have hd0 : ((x.i : Int) == 0) = false := by simp; omega
  have hb0 : Below w.heap.size w (w.alloc (.cells #[.int .u64 x.i, .int .u64 x.t, u] 25)) := (Below.refl _ _).alloc (Nat.le_refl _) _
  have hu1 := hu.below hb0 (Nat.le_refl _)
  have hcs := conv_str _ _ _ hu1
  obtain ⟨y1, y2, ao, cap, rfl, y3, y4, y7, y5⟩ := hu
  clear y1 y2 y3 y4 y7 y5
  obtain ⟨R1, hR1⟩ : ∃ R1, putL x.i ++ putL x.t = R1 := ⟨_, rfl⟩
  obtain ⟨R2, hR2⟩ : ∃ R2, R1 ++ putText x.b = R2 := ⟨_, rfl⟩
  have hR3 : recL x = R2 := by rw [← hR2, ← hR1]; simp [recL]
  rw [hR3]
  have HR1 := Lib.hid hR1
  have HR2 := Lib.hid hR2
  clear hR1 hR2 hR3
  go_enter Tryz.func8, Tryz.ntmps8
  go_wp2_with (go_at_call 37; refine (rputtext37 x.b _ (by omega)).mono ?_; rintro e w1 ⟨v1, rfl, hown1, hbel1⟩; obtain ⟨ao1, cap1, rfl⟩ := own_shape hown1)
  have b1 := below_tr hb0 hbel1
  have c0 : ∀ W, Below (w.heap.size + 1) w1 W → W.cell? ⟨w.heap.size, 0, none⟩ = some (.int .u64 x.i) := fun W hW => by
    rw [hW.cell (p := ⟨w.heap.size, 0, none⟩) (by simp), hbel1.cell (p := ⟨w.heap.size, 0, none⟩) (by simp), World.cell?_alloc_at _ _ _ _ rfl]; rfl
  have c1 : ∀ W, Below (w.heap.size + 1) w1 W → W.cell? ⟨w.heap.size, 1, none⟩ = some (.int .u64 x.t) := fun W hW => by
    rw [hW.cell (p := ⟨w.heap.size, 1, none⟩) (by simp), hbel1.cell (p := ⟨w.heap.size, 1, none⟩) (by simp), World.cell?_alloc_at _ _ _ _ rfl]; rfl
  have hz1 : w.heap.size + 1 ≤ w1.heap.size := by have := hbel1.size; simpa using this
  have d0 := c0 _ ((Below.refl _ _).drew)
  have d1 := c1 _ ((Below.refl _ _).drew)
  have C0 := Lib.hid c0
  have C1 := Lib.hid c1
  clear c0 c1
  have HLEN : Hid ((putL x.i).length ≤ 10 ∧ (putL x.t).length ≤ 10 ∧ (putText x.b).length ≤ 2010) := Lib.hid (by
    have a1 := putL_len x.i HX1.out
    have a2 := putL_len x.t HX2.out
    have a3 := putL_len x.b.length (by omega)
    simp [putText]
    omega)
  go_must (go_region_law (first
    | (go_simp; go_at_call 38; (with_reducible refine (rput_any x.i _ _ rfl HX1.out).mono ?_); rintro e w2 ⟨v2, rfl, hown2, hbel2⟩; obtain ⟨ao2, cap2, rfl⟩ := own_shape hown2; have hw2 : Below w1.heap.size w1 w2 := (by first | exact ((Below.refl _ _).drew).trans (hbel2.mono (Nat.le_refl _)) | exact hw3.trans (hbel2.mono hw3.size)); have k2 := C1.out _ (hw2.mono hz1))
    | (go_simp; go_at_call 38; (with_reducible refine (rput_any x.t _ _ rfl HX2.out).mono ?_); rintro e w3 ⟨v3, rfl, hown3, hbel3⟩; obtain ⟨ao3, cap3, rfl⟩ := own_shape hown3; have hw3 : Below w1.heap.size w1 w3 := (by first | exact ((Below.refl _ _).drew).trans (hbel3.mono (Nat.le_refl _)) | exact hw2.trans (hbel3.mono hw2.size)); have k3 := C0.out _ (hw3.mono hz1))
    | (refine step_appB rfl (.tmp 22) (.tmp 25) rfl w1.heap.size _ (putL x.i) rfl (by first | exact hown2.base hw3.size | exact own_below' (hown2.base (by first | exact Nat.le_refl _ | exact hw3.size)) hbel3 (Nat.le_refl _)) _ (putL x.t) rfl (by first | exact (Bt.of_own hown3) | exact (Bt.of_own hown3).below hbel2 (Nat.le_refl _)) (by have := HLEN.out; omega) (by first | exact hw3.size | exact hw2.size) R1 HR1.out ?_; intro ao4 cap4 w4 hown4 hgrow4; have hw4 : Below w1.heap.size w1 w4 := (by first | exact below_own hw3 (own_below' (hown2.base (Nat.le_refl _)) hbel3 (Nat.le_refl _)) hgrow4 | exact below_own hw2 (hown2.base hw3.size) hgrow4))
    | (refine step_appB rfl (.tmp 26) (.tmp 27) rfl w1.heap.size _ R1 rfl hown4 _ (putText x.b) rfl ((Bt.of_own hown1).below hw4 (Nat.le_refl _)) (by have := HLEN.out; have e1 := congrArg List.length HR1.out; rw [List.length_append] at e1; omega) hw4.size R2 HR2.out ?_; intro ao5 cap5 w5 hown5 hgrow5)))
  all_goals
    go_wp2
    go_ret2
    exact ⟨_, rfl, hown5.base b1.size, below_tr b1 (below_own hw4 hown4 hgrow5)⟩
end Go.Proofs.YtpcipfnahknngaaGreatDoor

/- Contracts of the reference's Parse, Same. No statement of the seat. -/
namespace Go.Proofs.YtpcipfnahknngaaGreatDoor
open Go.RowKit

/-- what the reference makes of a record -/
def parseR (b : List UInt8) : Option Ent :=
  match takeT b 0 with
  | (i, a1, e1) => match takeT b a1 with
    | (t, a2, e2) => match takeTextT b a2 with
      | (s, _, e3) => if e1 = 0 ∧ e2 = 0 ∧ e3 = 0 ∧ i ≠ 0 ∧ s.length ≤ 2000 ∧ recL ⟨i, t, s⟩ = b then some ⟨i, t, s⟩ else none

theorem rtake41i (v : Value) (b : List UInt8) (a : Int) (at_ : Nat) (ha : a = at_) (w : World) (hv : Bt w v b) (hb : b.length ≤ 140737488351232) (hat : at_ ≤ 140737488351232) :
    Calls Tryz.prog 41 #[v, .int .i64 a] w fun e w' => e = .returned (.tuple #[.int .u64 (takeT b at_).1, .int .i64 (takeT b at_).2.1, .int .i64 (takeT b at_).2.2]) ∧ Below w.heap.size w w' := by
  subst ha; exact rtake41 v b at_ w hv hb hat

theorem first_low (r : List UInt8) : ∀ j, (∃ k, k < j ∧ ∃ h : k < r.length, (r[k]).toNat < 128 ∧ ∀ i (h : i < r.length), i < k → 128 ≤ (r[i]).toNat) ∨ (∀ i (h : i < r.length), i < j → 128 ≤ (r[i]).toNat)
  | 0 => Or.inr fun i _ hi => by omega
  | j + 1 => by
    rcases first_low r j with ⟨k, hk, h⟩ | h
    · exact Or.inl ⟨k, by omega, h⟩
    · by_cases hj : j < r.length
      · by_cases hx : (r[j]).toNat < 128
        · exact Or.inl ⟨j, by omega, hj, hx, h⟩
        · refine Or.inr fun i hi hij => ?_
          by_cases e : i = j
          · subst e; omega
          · exact h i hi (by omega)
      · exact Or.inr fun i hi hij => h i hi (by omega)
theorem takeR_good {r : List UInt8} {n m : Nat} (h : takeR r 0 0 = some (n, m)) : n < 18446744073709551616 ∧ 1 ≤ m ∧ m ≤ r.length ∧ putL n = r.take m := by
  rcases first_low r 10 with ⟨k, hk, hkl, hx, hb⟩ | hb
  · rw [take_run r k (by omega) (by omega) hb, takeR_step r k _ hkl] at h
    by_cases hbad : (k = 9 ∧ 1 < (r[k]).toNat) ∨ (0 < k ∧ (r[k]).toNat = 0)
    · rw [if_pos hbad] at h; cases h
    · rw [if_neg hbad, if_pos hx] at h
      have hg := take_good r k hkl (by omega) hb hx hbad
      have e : pv r (k + 1) = pv r k + (r[k]).toNat % 128 * 128 ^ k := by simp [pv, List.getD, hkl]
      rw [← e] at h
      cases h
      exact ⟨hg.1, by omega, by omega, hg.2⟩
  · by_cases hl : 10 ≤ r.length
    · rw [take_ten r hl hb] at h; cases h
    · rw [take_run r r.length (by omega) (Nat.le_refl _) (fun j hj hjr => hb j hj (by omega)), List.drop_length] at h
      simp [takeR] at h
theorem takeT_put {b : List UInt8} {at_ n nx : Nat} (h : takeT b at_ = (n, nx, 0)) : n < 18446744073709551616 ∧ at_ < nx ∧ nx ≤ b.length ∧ putL n = (b.drop at_).take (nx - at_) := by
  unfold takeT at h
  split at h
  · cases h
  · cases hr : takeR (b.drop at_) 0 0 with
    | none => rw [hr] at h; cases h
    | some p =>
      obtain ⟨n', k⟩ := p
      rw [hr] at h
      cases h
      obtain ⟨g1, g2, g3, g4⟩ := takeR_good hr
      rw [List.length_drop] at g3
      exact ⟨g1, by omega, by omega, by rw [g4]; congr 1; omega⟩
theorem takeT_lt (b : List UInt8) (at_ : Nat) : (takeT b at_).1 < 18446744073709551616 := by
  cases h : takeT b at_ with
  | mk n p =>
    obtain ⟨nx, e⟩ := p
    by_cases he : e = 0
    · subst he; exact (takeT_put h).1
    · have := takeT_bad h he
      show n < _
      omega
theorem takeTextT_len (b : List UInt8) (at_ : Nat) : (takeTextT b at_).1.length ≤ 4096 := by
  obtain ⟨n, nx, e, ht⟩ : ∃ n nx e, takeT b at_ = (n, nx, e) := ⟨_, _, _, rfl⟩
  unfold takeTextT
  rw [ht]
  cases e with
  | zero =>
    show List.length (if 4096 < n ∨ b.length - nx < n then (([] : List UInt8), 0, 4) else ((b.drop nx).take n, nx + n, 0)).1 ≤ 4096
    split
    · simp
    · simp; omega
  | succ e => simp

/-- two empty entries, laid one behind the other -/
def noE : Array Value := #[Value.int .u64 0, Value.int .u64 0, Value.slice none 0 0]
theorem boxes2 (w W : World) (h : Below (w.heap.size + 2) ((w.alloc (.cells #[Value.int .u64 0, Value.int .u64 0, Value.slice none 0 0] 25)).alloc (.cells #[Value.int .u64 0, Value.int .u64 0, Value.slice none 0 0] 25)) W) : Box W w.heap.size 25 #[Value.int .u64 0, Value.int .u64 0, Value.slice none 0 0] ∧ Box W (w.heap.size + 1) 25 #[Value.int .u64 0, Value.int .u64 0, Value.slice none 0 0] :=
  ⟨(Box.new w _ 25 _ rfl).below (B := w.heap.size + 1) (((Below.refl _ _).alloc (by simp) _).trans (h.mono (by omega))) (by omega), (Box.new (w.alloc (.cells #[Value.int .u64 0, Value.int .u64 0, Value.slice none 0 0] 25)) _ 25 _ (by simp)).below h (by omega)⟩

/-- what Record answers to any entry -/
def recE (x : Ent) : Nat × List UInt8 := if x.i = 0 then (2, []) else if 2000 < x.b.length then (3, []) else (0, recL x)
theorem rrecord8_any (x : Ent) (u : Value) (w : World) (hx : x.ok) (hu : Bt w u x.b) :
    Calls Tryz.prog 8 #[.agg #[.int .u64 x.i, .int .u64 x.t, u]] w fun e w' => ∃ v, e = .returned (.tuple #[v, .int .i64 (recE x).1]) ∧ w'.ownsRow w.heap.size 5 1 v (recE x).2.length (bv (recE x).2) ∧ Below w.heap.size w w' := by
  by_cases h0 : x.i = 0
  · have e0 : recE x = (2, []) := by unfold recE; rw [if_pos h0]
    rw [e0, h0]
    exact (rrecord8_arg x.t u w).mono fun e w' ⟨h1, h2⟩ => ⟨_, h1, World.ownsRow_nil _ _ _ _, h2⟩
  · by_cases hl : 2000 < x.b.length
    · have e0 : recE x = (3, []) := by unfold recE; rw [if_neg h0, if_pos hl]
      rw [e0]
      exact (rrecord8_long x u w hu h0 hl).mono fun e w' ⟨h1, h2⟩ => ⟨_, h1, World.ownsRow_nil _ _ _ _, h2⟩
    · have e0 : recE x = (0, recL x) := by unfold recE; rw [if_neg h0, if_neg hl]
      rw [e0]
      exact rrecord8 x u w hx hu h0 (by omega)

/-- how Parse ends -/
def ParO (o : Option Ent) (e : Ending) (w' : World) : Prop :=
  match o with
  | none => e = .returned (.tuple #[noEnt, .int .i64 4])
  | some x => ∃ u, e = .returned (.tuple #[.agg #[.int .u64 x.i, .int .u64 x.t, u], .int .i64 0]) ∧ Bt w' u x.b

theorem set3 {W : World} {g : Nat} {t : TypeId} {x y z : Value} (h : Box W g t #[x, y, z]) (a b c : Value) : Box (((W.setCell ⟨g, 0, none⟩ a).setCell ⟨g, 1, none⟩ b).setCell ⟨g, 2, none⟩ c) g t #[a, b, c] := ((h.set 0 a).set 1 b).set 2 c

set_option maxRecDepth 100000 in
set_option maxHeartbeats 3200000 in
theorem rparse10 (v : Value) (b : List UInt8) (w : World) (hv : Bt w v b) (hb : b.length ≤ 140737488351232) :
    Calls Tryz.prog 10 #[v] w fun e w' => ParO (parseR b) e w' ∧ Below w.heap.size w w' := by
  obtain ⟨i, a1, e1, h1⟩ : ∃ i a1 e1, takeT b 0 = (i, a1, e1) := ⟨_, _, _, rfl⟩
  obtain ⟨t, a2, e2, h2⟩ : ∃ i a1' e1, takeT b a1 = (i, a1', e1) := ⟨_, _, _, rfl⟩
  obtain ⟨s, a3, e3, h3⟩ : ∃ i a1 e1, takeTextT b a2 = (i, a1, e1) := ⟨_, _, _, rfl⟩
  have ha1 : a1 ≤ b.length := by have := takeT_le b 0; rw [h1] at this; exact this
  have ha2 : a2 ≤ b.length := by have := takeT_le b a1; rw [h2] at this; exact this
  obtain ⟨O, hO⟩ : ∃ O, O = parseR b := ⟨_, rfl⟩
  rw [← hO]
  unfold parseR at hO
  rw [h1] at hO
  simp only [h2, h3] at hO
  have hii : i < 18446744073709551616 := by have := takeT_lt b 0; rw [h1] at this; exact this
  have htt : t < 18446744073709551616 := by have := takeT_lt b a1; rw [h2] at this; exact this
  have hss : s.length ≤ 4096 := by have := takeTextT_len b a2; rw [h3] at this; exact this
  have hrec := fun W u hu => rrecord8_any ⟨i, t, s⟩ u W ⟨hii, htt, by show s.length ≤ _; omega⟩ hu
  obtain ⟨er, r, hre⟩ : ∃ er r, recE ⟨i, t, s⟩ = (er, r) := ⟨_, _, rfl⟩
  rw [hre] at hrec
  have HR := Lib.hid hrec
  have HRE := Lib.hid hre
  have HII := Lib.hid hii
  have HTT := Lib.hid htt
  clear hrec hre hii htt
  obtain ⟨W2, hW2⟩ : ∃ W2, W2 = (w.alloc (.cells #[Value.int .u64 0, Value.int .u64 0, Value.slice none 0 0] 25)).alloc (.cells #[Value.int .u64 0, Value.int .u64 0, Value.slice none 0 0] 25) := ⟨_, rfl⟩
  have hb2 : Below w.heap.size w W2 := by rw [hW2]; exact ((Below.refl _ _).alloc (by simp) _).alloc (by simp) _
  have hs2 : W2.heap.size = w.heap.size + 2 := by rw [hW2]; simp
  have hbx : ∀ W, Below W2.heap.size W2 W → Box W w.heap.size 25 #[Value.int .u64 0, Value.int .u64 0, Value.slice none 0 0] ∧ Box W (w.heap.size + 1) 25 #[Value.int .u64 0, Value.int .u64 0, Value.slice none 0 0] := fun W hW => boxes2 w W (by rw [hs2, hW2] at hW; exact hW)
  have c1 : ∀ W, Below W2.heap.size W2 W → _ := fun W hW => rtake41i v b 0 0 rfl W ((hv.below hb2 (Nat.le_refl _)).below hW (Nat.le_refl _)) hb (by omega)
  have c2 : ∀ W, Below W2.heap.size W2 W → _ := fun W hW => rtake41 v b a1 W ((hv.below hb2 (Nat.le_refl _)).below hW (Nat.le_refl _)) hb (by omega)
  have c3 : ∀ W, Below W2.heap.size W2 W → _ := fun W hW => rtaketext42 v b a2 W ((hv.below hb2 (Nat.le_refl _)).below hW (Nat.le_refl _)) hb (by omega)
  rw [h1] at c1
  rw [h2] at c2
  rw [h3] at c3
  have C1 := Lib.hid c1
  have C2 := Lib.hid c2
  have C3 := Lib.hid c3
  have HP := Lib.hid hO
  have BX := Lib.hid hbx
  have B2 := Lib.hid hb2
  have HW2 := Lib.hid hW2
  have HV := Lib.hid hv
  have hsz : (tx s).size = s.length := tx_size s
  have hr0 : Below W2.heap.size W2 W2 := Below.refl _ _
  have HS2 := Lib.hid hs2
  obtain ⟨y1, y2, ao, cap, rfl, y3, y4, y7, y5⟩ := hv
  clear c1 c2 c3 h1 h2 h3 hO hbx hb2 y1 y2 y3 y4 y7 y5 hs2
  go_enter Tryz.func10, Tryz.ntmps10
  clear hW2
  go_wp2_with (first
    | (go_at_call 41; rw [← HW2.out]; (with_reducible refine (C1.out _ (Below.refl _ _)).mono ?_); rintro e w3 ⟨rfl, hb3⟩; obtain ⟨p3, q3⟩ := BX.out _ hb3; have q30 := q3.cell 0 rfl; have q31 := q3.cell 1 rfl; have q32 := q3.cell 2 rfl; have p30 := p3.cell 0 rfl; have p31 := p3.cell 1 rfl; have p32 := p3.cell 2 rfl; have p33 := p3.froz)
    | (go_at_call 41; (with_reducible refine (C2.out _ hb3).mono ?_); rintro e w4 ⟨rfl, hb4⟩; have hb5 := hb3.trans (hb4.mono hb3.size); obtain ⟨p4, q4⟩ := BX.out _ hb5; have q40 := q4.cell 0 rfl; have q41 := q4.cell 1 rfl; have q42 := q4.cell 2 rfl; have p40 := p4.cell 0 rfl; have p41 := p4.cell 1 rfl; have p42 := p4.cell 2 rfl; have p43 := p4.froz)
    | (go_at_call 42; (with_reducible refine (C3.out _ hb5).mono ?_); rintro e w6 ⟨rfl, hb6⟩; have hb7 := hb5.trans (hb6.mono hb5.size); obtain ⟨p6, q6⟩ := BX.out _ hb7; have q60 := q6.cell 0 rfl; have q61 := q6.cell 1 rfl; have q62 := q6.cell 2 rfl; have p60 := p6.cell 0 rfl; have p61 := p6.cell 1 rfl; have p62 := p6.cell 2 rfl; have p63 := p6.froz)
    | (with_reducible refine wl_bytes2 rfl _ rfl s rfl (by omega) ?_; intro cap7 w7 hu7 hb8; have hb9 := hb7.trans (hb8.mono hb7.size))
    | (go_at_call 8; (with_reducible refine (HR.out _ _ (hu7.below ((Below.refl _ _).alloc (Nat.le_refl _) _) (Nat.le_refl _))).mono ?_); rintro e w10 ⟨v10, rfl, hown10, hb10⟩; obtain ⟨ao10, cap10, rfl⟩ := own_shape hown10
       have hb11 := (hb9.alloc hb9.size (Obj.cells #[Value.int .u64 i, Value.int .u64 t, Value.slice (some ⟨w6.heap.size, 0, none⟩) s.length cap7] 25)).trans (hb10.mono (by have := hb9.size; simp; omega))
       have hcr := conv_str w10 _ r (Bt.of_own hown10)
       have hcb := conv_str w10 _ b ((HV.out.below B2.out (Nat.le_refl _)).below hb11 (Nat.le_refl _))
       have hu10 := hu7.below ((Below.refl w7.heap.size _).alloc (Nat.le_refl _) (Obj.cells #[Value.int .u64 i, Value.int .u64 t, Value.slice (some ⟨w6.heap.size, 0, none⟩) s.length cap7] 25) |>.trans (hb10.mono (by simp))) (Nat.le_refl _)
       have z10 := (Box.new w7 w7.heap.size 25 #[Value.int .u64 i, Value.int .u64 t, Value.slice (some ⟨w6.heap.size, 0, none⟩) s.length cap7] rfl).below hb10 (by simp)
       have z0 := z10.cell 0 rfl
       have z1 := z10.cell 1 rfl
       have z2 := z10.cell 2 rfl
       obtain ⟨p10, q10⟩ := BX.out _ hb11; have q100 := q10.cell 0 rfl; have q101 := q10.cell 1 rfl; have q102 := q10.cell 2 rfl; have p100 := p10.cell 0 rfl; have p101 := p10.cell 1 rfl; have p102 := p10.cell 2 rfl; have p103 := p10.froz))
  · have HN : O = none := by
      have q := HP.out
      rw [if_neg (by rintro ⟨k1, k2, k3, k4, k5, k6⟩; have hh : ((e1 : Int) != 0) = true := (by assumption); simp [k1] at hh)] at q
      exact q
    have S := set3 p3 (.int .u64 0) (.int .u64 0) (.slice none 0 0)
    have r0 := S.cell 0 rfl
    have r1 := S.cell 1 rfl
    have r2 := S.cell 2 rfl
    exact bodyPost_ret (v := .tuple #[noEnt, .int .i64 4]) (by simp [noEnt, results, Tryz.results10, go_sem, r0, r1, r2]) rfl ⟨by rw [HN]; rfl, (((B2.out.trans (hb3.mono B2.out.size)).setCell (Nat.le_refl _) _).setCell (Nat.le_refl _) _).setCell (Nat.le_refl _) _⟩
  · have HN : O = none := by
      have q := HP.out
      rw [if_neg (by rintro ⟨k1, k2, k3, k4, k5, k6⟩; have hh : ((e2 : Int) != 0) = true := (by assumption); simp [k2] at hh)] at q
      exact q
    have S := set3 p4 (.int .u64 0) (.int .u64 0) (.slice none 0 0)
    have r0 := S.cell 0 rfl
    have r1 := S.cell 1 rfl
    have r2 := S.cell 2 rfl
    exact bodyPost_ret (v := .tuple #[noEnt, .int .i64 4]) (by simp [noEnt, results, Tryz.results10, go_sem, r0, r1, r2]) rfl ⟨by rw [HN]; rfl, (((B2.out.trans (hb5.mono B2.out.size)).setCell (Nat.le_refl _) _).setCell (Nat.le_refl _) _).setCell (Nat.le_refl _) _⟩
  · have HN : O = none := by
      have q := HP.out
      rw [if_neg (by rintro ⟨k1, k2, k3, k4, k5, k6⟩; have hh : ((e3 : Int) != 0) = true := (by assumption); simp [k3] at hh)] at q
      exact q
    have S := set3 p6 (.int .u64 0) (.int .u64 0) (.slice none 0 0)
    have r0 := S.cell 0 rfl
    have r1 := S.cell 1 rfl
    have r2 := S.cell 2 rfl
    exact bodyPost_ret (v := .tuple #[noEnt, .int .i64 4]) (by simp [noEnt, results, Tryz.results10, go_sem, r0, r1, r2]) rfl ⟨by rw [HN]; rfl, (((B2.out.trans (hb7.mono B2.out.size)).setCell (Nat.le_refl _) _).setCell (Nat.le_refl _) _).setCell (Nat.le_refl _) _⟩
  · have HN : O = none := by
      have q := HP.out
      rw [if_neg (by rintro ⟨k1, k2, k3, k4, k5, k6⟩; have hh : (!(tx r).toList == (tx b).toList) = true := (by assumption); rw [tx_toList, tx_toList] at hh; have e2 := HRE.out; unfold recE at e2; rw [if_neg k4, if_neg (by show ¬ 2000 < s.length; omega)] at e2; rw [k6] at e2; simp only [Prod.mk.injEq] at e2; rw [e2.2] at hh; simp at hh)] at q
      exact q
    have S := set3 p10 (.int .u64 0) (.int .u64 0) (.slice none 0 0)
    have r0 := S.cell 0 rfl
    have r1 := S.cell 1 rfl
    have r2 := S.cell 2 rfl
    exact bodyPost_ret (v := .tuple #[noEnt, .int .i64 4]) (by simp [noEnt, results, Tryz.results10, go_sem, r0, r1, r2]) rfl ⟨by rw [HN]; rfl, (((B2.out.trans (hb11.mono B2.out.size)).setCell (Nat.le_refl _) _).setCell (Nat.le_refl _) _).setCell (Nat.le_refl _) _⟩
  · have HN : O = some ⟨i, t, s⟩ := by
      have q := HP.out
      have g1 : ((e1 : Int) != 0) = false := (by assumption)
      have g2 : ((e2 : Int) != 0) = false := (by assumption)
      have g3 : ((e3 : Int) != 0) = false := (by assumption)
      have g4 : er = 0 := (by assumption)
      have g5 : (!(tx r).toList == (tx b).toList) = false := (by assumption)
      rw [tx_toList, tx_toList] at g5
      have g6 : r = b := by simpa using g5
      have e4 := HRE.out
      rw [g4, g6] at e4
      unfold recE at e4
      have hc : i ≠ 0 ∧ s.length ≤ 2000 ∧ recL ⟨i, t, s⟩ = b := by
        by_cases hi0 : i = 0
        · rw [if_pos hi0] at e4; simp at e4
        · by_cases hs0 : 2000 < s.length
          · rw [if_neg hi0, if_pos hs0] at e4; simp at e4
          · rw [if_neg hi0, if_neg hs0] at e4
            simp only [Prod.mk.injEq, true_and] at e4
            exact ⟨hi0, by omega, e4⟩
      rw [if_pos ⟨by simpa using g1, by simpa using g2, by simpa using g3, hc⟩] at q
      exact q
    have S := set3 p10 (.int .u64 i) (.int .u64 t) (.slice (some ⟨w6.heap.size, 0, none⟩) s.length cap7)
    have r0 := S.cell 0 rfl
    have r1 := S.cell 1 rfl
    have r2 := S.cell 2 rfl
    have hne : w.heap.size ≠ w6.heap.size := by have := hb7.size; have := HS2.out; omega
    refine bodyPost_ret (v := .tuple #[.agg #[.int .u64 i, .int .u64 t, .slice (some ⟨w6.heap.size, 0, none⟩) s.length cap7], .int .i64 0]) (by simp [results, Tryz.results10, go_sem, r0, r1, r2]) rfl ⟨?_, (((B2.out.trans (hb11.mono B2.out.size)).setCell (Nat.le_refl _) _).setCell (Nat.le_refl _) _).setCell (Nat.le_refl _) _⟩
    rw [HN]
    refine ⟨_, rfl, ?_⟩
    refine Bt.setCell (Bt.setCell (Bt.setCell hu10 _ _ ?_) _ _ ?_) _ _ ?_ <;> simp [Value.ownBlock] <;> omega
  · have HN : O = none := by
      have q := HP.out
      rw [if_neg (by rintro ⟨k1, k2, k3, k4, k5, k6⟩; have hh : ¬ er = 0 := (by assumption); have e2 := HRE.out; unfold recE at e2; rw [if_neg k4, if_neg (by show ¬ 2000 < s.length; omega)] at e2; simp only [Prod.mk.injEq] at e2; exact hh e2.1.symm)] at q
      exact q
    have S := set3 p10 (.int .u64 0) (.int .u64 0) (.slice none 0 0)
    have r0 := S.cell 0 rfl
    have r1 := S.cell 1 rfl
    have r2 := S.cell 2 rfl
    exact bodyPost_ret (v := .tuple #[noEnt, .int .i64 4]) (by simp [noEnt, results, Tryz.results10, go_sem, r0, r1, r2]) rfl ⟨by rw [HN]; rfl, (((B2.out.trans (hb11.mono B2.out.size)).setCell (Nat.le_refl _) _).setCell (Nat.le_refl _) _).setCell (Nat.le_refl _) _⟩
end Go.Proofs.YtpcipfnahknngaaGreatDoor

/- Contracts of the two Sames; what the two Parses answer is the same. No statement of the seat. -/
namespace Go.Proofs.YtpcipfnahknngaaGreatDoor
open Go.RowKit

theorem takeTextT_put {b s : List UInt8} {a2 a3 : Nat} (h : takeTextT b a2 = (s, a3, 0)) : a2 ≤ a3 ∧ a3 ≤ b.length ∧ putText s = (b.drop a2).take (a3 - a2) := by
  obtain ⟨n, nx, e, ht⟩ : ∃ n nx e, takeT b a2 = (n, nx, e) := ⟨_, _, _, rfl⟩
  unfold takeTextT at h
  rw [ht] at h
  cases e with
  | succ e => simp at h
  | zero =>
    obtain ⟨g1, g2, g3, g4⟩ := takeT_put ht
    have h : (if 4096 < n ∨ b.length - nx < n then (([] : List UInt8), 0, 4) else ((b.drop nx).take n, nx + n, 0)) = (s, a3, 0) := h
    split at h
    · simp at h
    · rename_i hc
      cases h
      have hl : ((b.drop nx).take n).length = n := by simp; omega
      refine ⟨by omega, by omega, ?_⟩
      unfold putText
      rw [hl, g4]
      have e1 : nx + n - a2 = (nx - a2) + n := by omega
      rw [e1, List.take_add, List.drop_drop]
      congr 3
      omega
theorem recL_eq {b : List UInt8} {i t a1 a2 a3 : Nat} {s : List UInt8} (h1 : takeT b 0 = (i, a1, 0)) (h2 : takeT b a1 = (t, a2, 0)) (h3 : takeTextT b a2 = (s, a3, 0)) : recL ⟨i, t, s⟩ = b.take a3 ∧ a3 ≤ b.length := by
  obtain ⟨_, p2, p3, p4⟩ := takeT_put h1
  obtain ⟨_, q2, q3, q4⟩ := takeT_put h2
  obtain ⟨r2, r3, r4⟩ := takeTextT_put h3
  refine ⟨?_, r3⟩
  unfold recL
  show putL i ++ (putL t ++ putText s) = _
  rw [p4, q4, r4]
  have e1 : a3 = a1 + ((a2 - a1) + (a3 - a2)) := by omega
  rw [e1, List.take_add, List.take_add, List.drop_drop]
  simp only [List.drop_zero, Nat.sub_zero]
  congr 2
  · congr 2 <;> omega
theorem parse_same (b : List UInt8) : parseR b = parseT b := by
  obtain ⟨i, a1, e1, h1⟩ : ∃ i a1 e1, takeT b 0 = (i, a1, e1) := ⟨_, _, _, rfl⟩
  obtain ⟨t, a2, e2, h2⟩ : ∃ i a1' e1, takeT b a1 = (i, a1', e1) := ⟨_, _, _, rfl⟩
  obtain ⟨s, a3, e3, h3⟩ : ∃ i a1 e1, takeTextT b a2 = (i, a1, e1) := ⟨_, _, _, rfl⟩
  unfold parseR parseT
  rw [h1]
  simp only [h2, h3]
  by_cases hc : e1 = 0 ∧ e2 = 0 ∧ e3 = 0
  · obtain ⟨rfl, rfl, rfl⟩ := hc
    obtain ⟨g1, g2⟩ := recL_eq h1 h2 h3
    have : (recL ⟨i, t, s⟩ = b) ↔ a3 = b.length := by
      rw [g1]
      constructor
      · intro h
        have := congrArg List.length h
        rw [List.length_take] at this
        omega
      · rintro rfl
        exact List.take_length
    simp only [true_and, this]
    by_cases c1 : a3 = b.length
    · by_cases c2 : i ≠ 0 ∧ s.length ≤ 2000
      · rw [if_pos ⟨c2.1, c2.2, c1⟩, if_pos ⟨c1, c2⟩]
      · rw [if_neg (fun h => c2 ⟨h.1, h.2.1⟩), if_neg (fun h => c2 h.2)]
    · rw [if_neg (fun h => c1 h.2.2), if_neg (fun h => c1 h.1)]
  · rw [if_neg (fun h => hc ⟨h.1, h.2.1, h.2.2.1⟩), if_neg (fun h => hc ⟨h.1, h.2.1, h.2.2.1⟩)]

def sameE (x y : Ent) : Bool := decide (x.i = y.i) && (decide (x.t = y.t) && decide (x.b = y.b))

set_option maxRecDepth 100000 in
set_option maxHeartbeats 1600000 in
theorem rsame16 (x y : Ent) (u v : Value) (w : World) (hu : Bt w u x.b) (hv : Bt w v y.b) :
    Calls Tryz.prog 16 #[.agg #[.int .u64 x.i, .int .u64 x.t, u], .agg #[.int .u64 y.i, .int .u64 y.t, v]] w fun e w' => e = .returned (.bool (sameE x y)) ∧ Below w.heap.size w w' := by
  obtain ⟨xi, xt, xb⟩ := x
  obtain ⟨yi, yt, yb⟩ := y
  have hb : Below w.heap.size w ((w.alloc (.cells #[.int .u64 xi, .int .u64 xt, u] 25)).alloc (.cells #[.int .u64 yi, .int .u64 yt, v] 25)) := ((Below.refl _ _).alloc (by simp) _).alloc (by simp) _
  have h1 := conv_str _ _ _ (hu.below hb (Nat.le_refl _))
  have h2 := conv_str _ _ _ (hv.below hb (Nat.le_refl _))
  obtain ⟨_, _, ao, cap, rfl, _⟩ := hu
  obtain ⟨_, _, bo, dap, rfl, _⟩ := hv
  unfold sameE
  simp only
  simp only at h1 h2
  by_cases hi : xi = yi
  · subst hi
    by_cases ht : xt = yt
    · subst ht
      have hbs : decide (xb = yb) = ((tx xb).toList == (tx yb).toList) := by rw [tx_toList, tx_toList, Bool.eq_iff_iff]; simp
      rw [hbs, decide_eq_true rfl, decide_eq_true rfl]
      have HB := Lib.hid hb
      clear hb hbs
      go_enter Tryz.func16, Tryz.ntmps16
      go_wp2
      go_ret
      exact ⟨rfl, HB.out⟩
    · rw [decide_eq_true rfl, decide_eq_false ht]
      have hn : ¬ ((xt : Int) = yt) := by omega
      have HB := Lib.hid hb
      clear hb h1 h2 ht
      go_enter Tryz.func16, Tryz.ntmps16
      go_wp2
      go_ret
      exact ⟨rfl, HB.out⟩
  · rw [decide_eq_false hi]
    have hn : ¬ ((xi : Int) = yi) := by omega
    have HB := Lib.hid hb
    clear hb h1 h2 hi
    go_enter Tryz.func16, Tryz.ntmps16
    go_wp2
    go_ret
    exact ⟨rfl, HB.out⟩

set_option maxRecDepth 100000 in
set_option maxHeartbeats 1600000 in
theorem same17 (x y : Ent) (u v : Value) (w : World) (hu : Bt w u x.b) (hv : Bt w v y.b) :
    Calls Tryz.prog 17 #[.agg #[.int .u64 x.i, .int .u64 x.t, u], .agg #[.int .u64 y.i, .int .u64 y.t, v]] w fun e w' => e = .returned (.bool (sameE x y)) ∧ Below w.heap.size w w' := by
  obtain ⟨xi, xt, xb⟩ := x
  obtain ⟨yi, yt, yb⟩ := y
  have hb : Below w.heap.size w ((w.alloc (.cells #[.int .u64 xi, .int .u64 xt, u] 25)).alloc (.cells #[.int .u64 yi, .int .u64 yt, v] 25)) := ((Below.refl _ _).alloc (by simp) _).alloc (by simp) _
  have he := equal57 _ _ _ _ _ (hu.below hb (Nat.le_refl _)) (hv.below hb (Nat.le_refl _))
  obtain ⟨_, _, ao, cap, rfl, _⟩ := hu
  obtain ⟨_, _, bo, dap, rfl, _⟩ := hv
  unfold sameE
  simp only
  simp only at he
  by_cases hi : xi = yi
  · subst hi
    by_cases ht : xt = yt
    · subst ht
      have hbs : decide (xb = yb) = sameB xb yb := by unfold sameB; rw [Bool.eq_iff_iff]; simp
      rw [hbs, decide_eq_true rfl, decide_eq_true rfl]
      have HB := Lib.hid hb
      clear hb hbs
      go_enter Tryz.func17, Tryz.ntmps17
      go_wp2_with (go_at_call 57; refine he.mono ?_; rintro e w1 ⟨rfl, q, rfl⟩)
      go_ret
      exact ⟨rfl, HB.out.trans ⟨rfl, rfl, rfl, Nat.le_refl _, fun _ _ => rfl⟩⟩
    · rw [decide_eq_true rfl, decide_eq_false ht]
      have hn : ¬ ((xt : Int) = yt) := by omega
      have HB := Lib.hid hb
      clear hb he ht
      go_enter Tryz.func17, Tryz.ntmps17
      go_wp2
      go_ret
      exact ⟨rfl, HB.out⟩
  · rw [decide_eq_false hi]
    have hn : ¬ ((xi : Int) = yi) := by omega
    have HB := Lib.hid hb
    clear hb he hi
    go_enter Tryz.func17, Tryz.ntmps17
    go_wp2
    go_ret
    exact ⟨rfl, HB.out⟩
end Go.Proofs.YtpcipfnahknngaaGreatDoor

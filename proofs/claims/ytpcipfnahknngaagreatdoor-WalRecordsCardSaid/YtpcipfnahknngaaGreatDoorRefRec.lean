/- Contracts of the reference's PutText, TakeText, Record, Parse, Same. No statement of the seat. -/
import Derived.Test.YtpcipfnahknngaaGreatDoorRefTake
import Derived.Test.YtpcipfnahknngaaGreatDoorPar
import Derived.BigQuiet
import Derived.Deep.QuietTactic
import Derived.Deep.RegionWith
import Derived.Deep.RegionLawGrows
import Derived.Deep.DeepMust
namespace Go.Proofs.YtpcipfnahknngaaGreatDoor
open Go.RowKit

theorem own_below' {w w' : World} {B B' : Nat} {e : TypeId} {sz : Nat} {v : Value} {n : Nat} {xs : List Value} (h : w.ownsRow B e sz v n xs) (hb : Below B' w w') (hB : w.heap.size ≤ B') : w'.ownsRow B e sz v n xs := by
  refine ⟨h.1, ?_⟩
  rcases h.2 with h2 | ⟨g, cap, cur, h3, h4, h5, r⟩
  · exact Or.inl h2
  · exact Or.inr ⟨g, cap, cur, h3, h4, (hb.block g (Nat.lt_of_lt_of_le (Array.getElem?_eq_some_iff.1 h5).1 hB)).trans h5, r⟩

theorem rput_any (n : Nat) (a : Int) (w : World) (ha : a = n) (hn : n < 18446744073709551616) :
    Calls Tryz.prog 38 #[.int .u64 a] w fun e w' => ∃ v, e = .returned v ∧ w'.ownsRow w.heap.size 5 1 v (putL n).length (bv (putL n)) ∧ Below w.heap.size w w' :=
  rput38 9 n a w ha (Nat.lt_trans hn (by decide)) (Nat.le_refl _) hn

set_option maxRecDepth 100000 in
set_option maxHeartbeats 1600000 in
theorem rputtext37 (s : List UInt8) (w : World) (hs : s.length ≤ 4096) :
    Calls Tryz.prog 37 #[.string (tx s)] w fun e w' => ∃ v', e = .returned (.tuple #[v', .int .i64 0]) ∧ w'.ownsRow w.heap.size 5 1 v' (putText s).length (bv (putText s)) ∧ Below w.heap.size w w' := by
  have hsz : (tx s).size = s.length := tx_size s
  have hlen := putL_len s.length (by omega)
  have HLN := Lib.hid hlen
  clear hlen
  go_enter Tryz.func37, Tryz.ntmps37
  go_wp2_with (first
    | (go_at_call 38; refine (rput_any s.length _ _ rfl (by omega)).mono ?_; rintro e w1 ⟨v1, rfl, hown1, hbel1⟩; obtain ⟨ao1, cap1, rfl⟩ := own_shape hown1)
    | (with_reducible refine wl_bytes rfl _ rfl s rfl (by omega) ?_; intro g cap w2 hb2 hbel2)
    | (at_builtin; refine wl_appB rfl _ _ rfl w.heap.size _ (putL s.length) rfl (own_below' hown1 hbel2 (Nat.le_refl _)) _ s rfl hb2 (by have := HLN.out; omega) (Nat.le_trans hbel1.size hbel2.size) ?_; intro v3 w3 hown3 hgrow3; obtain ⟨ao3, cap3, rfl⟩ := own_shape hown3))
  go_ret2
  refine ⟨_, rfl, ?_, below_own (below_tr hbel1 hbel2) (own_below' hown1 hbel2 (Nat.le_refl _)) hgrow3⟩
  simpa [putText] using hown3
set_option maxRecDepth 100000 in
set_option maxHeartbeats 1600000 in
theorem rtaketext42 (v : Value) (b : List UInt8) (at_ : Nat) (w : World) (hv : Bt w v b) (hb : b.length ≤ 140737488351232) (hat : at_ ≤ 140737488351232) :
    Calls Tryz.prog 42 #[v, .int .i64 at_] w fun e w' => e = .returned (.tuple #[.string (tx (takeTextT b at_).1), .int .i64 (takeTextT b at_).2.1, .int .i64 (takeTextT b at_).2.2]) ∧ Below w.heap.size w w' := by
  have hc := rtake41 v b at_ w hv hb hat
  have hv0 := hv
  obtain ⟨y1, y2, ao, cap, rfl, y3, y4, y7, y5⟩ := hv0
  unfold maxLen at y4
  clear y1 y2
  obtain ⟨n, nx, e, ht⟩ : ∃ n nx e, takeT b at_ = (n, nx, e) := ⟨_, _, _, rfl⟩
  rw [ht] at hc
  cases e with
  | succ e =>
    have hx : takeTextT b at_ = ([], 0, e + 1) := by unfold takeTextT; rw [ht]
    have hb2 := takeT_bad ht (by omega)
    rw [hx]
    have hne : ((((e + 1 : Nat) : Int)) != 0) = true := by simp; omega
    have HC := Lib.hid hc
    clear hc hv ht y5 y7
    go_enter Tryz.func42, Tryz.ntmps42
    go_wp2_with (go_at_call 41; refine HC.out.mono ?_; rintro e w' ⟨rfl, hbw⟩)
    go_ret3
    exact ⟨rfl, hbw⟩
  | zero =>
    obtain ⟨hlt, hnx⟩ := takeT_ok ht
    have hx : takeTextT b at_ = if 4096 < n ∨ b.length - nx < n then ([], 0, 4) else ((b.drop nx).take n, nx + n, 0) := by unfold takeTextT; rw [ht]
    have HX := Lib.hid hx
    have HC := Lib.hid hc
    clear hc ht hx
    obtain ⟨g, off, rfl, hcell⟩ := y5.resolve_left (by omega)
    by_cases h1 : 4096 < n
    · have HX2 := HX.out
      rw [if_pos (Or.inl h1)] at HX2
      rw [HX2]
      clear HX2 hcell hv
      go_enter Tryz.func42, Tryz.ntmps42
      go_wp2_with (go_at_call 41; refine HC.out.mono ?_; rintro e w' ⟨rfl, hbw⟩)
      go_ret3
      exact ⟨rfl, hbw⟩
    by_cases h2 : b.length - nx < n
    · have HX2 := HX.out
      rw [if_pos (Or.inr h2)] at HX2
      rw [HX2]
      clear HX2 hcell hv
      go_enter Tryz.func42, Tryz.ntmps42
      go_wp2_with (go_at_call 41; refine HC.out.mono ?_; rintro e w' ⟨rfl, hbw⟩)
      go_ret3
      exact ⟨rfl, hbw⟩
    · have HX2 := HX.out
      rw [if_neg (by omega)] at HX2
      rw [HX2]
      have h3 : (n : Int) ≤ 4096 := by omega
      have h4 : (n : Int) ≤ (b.length : Int) - (nx : Int) := by omega
      rcases Nat.lt_or_ge nx cap with hcap | hcap
      · have hne : ¬ cap = nx := by omega
        have hB : Bt w (.slice (some ⟨g, off + nx, none⟩) n (cap - nx)) ((b.drop nx).take n) := by
          have hlen : ((b.drop nx).take n).length = n := by simp; omega
          refine ⟨by simp, bv_one _, some ⟨g, off + nx, none⟩, cap - nx, by rw [hlen], by omega, by unfold maxLen; omega, (fun h => by cases h), Or.inr ⟨g, off + nx, rfl, fun j u hj => ?_⟩⟩
          have hjn : j < n := by
            have := (List.getElem?_eq_some_iff.1 hj).1
            rw [bv_length, hlen] at this
            exact this
          rw [bv_get _ j (by omega)] at hj
          cases hj
          have := hcell (nx + j) _ (bv_get b (nx + j) (by omega))
          rw [Nat.add_assoc, this]
          simp
        have HB := Lib.hid hB
        clear HX2 hcell hv hB
        go_enter Tryz.func42, Tryz.ntmps42
        go_wp2_with (go_at_call 41; refine HC.out.mono ?_; rintro e w' ⟨rfl, hbw⟩; have hcs := conv_str w' _ _ (HB.out.below hbw (Nat.le_refl _)))
        go_ret3
        exact ⟨rfl, hbw⟩
      · have hn0 : n = 0 := by omega
        have hcn : cap = nx := by omega
        subst hn0 hcn
        have HB : Hid (Bt w (.slice (some ⟨g, off, none⟩) 0 0) []) := Lib.hid ⟨rfl, bv_one _, some ⟨g, off, none⟩, 0, rfl, Nat.le_refl _, Nat.zero_le _, (fun h => by cases h), Or.inl rfl⟩
        have hb2 : ((b.drop cap).take 0) = [] := rfl
        rw [hb2]
        clear HX2 hcell hv
        go_enter Tryz.func42, Tryz.ntmps42
        go_wp2_with (go_at_call 41; refine HC.out.mono ?_; rintro e w' ⟨rfl, hbw⟩; have hcs := conv_str w' _ _ (HB.out.below hbw (Nat.le_refl _)))
        go_ret3
        exact ⟨rfl, hbw⟩

/-- 'append(own, xs...)' as one step of a region -/
theorem step_app {ops : Array Oper} {o : Oper} {a : Act} {w : World} {K : Act → World → Prop} {Q : Exit → Act → World → Prop} {E : Prop}
    (hgd : o.guard = none) (s x : Operand) (t : TypeId) (ho : o.op = .call { callee := .builtin .append, args := #[s, x], argTypes := #[t, t] })
    (B : Nat) (e : TypeId) (z : Value) (sz bytes : Nat) (ht : Tryz.prog.underlying t = some (.slice e)) (hi : (Tryz.prog.info? e).map (fun i => (i.zero, i.size, i.bytes)) = some (some z, sz, bytes))
    (hzs : z.cells.size = sz) (hsz : 0 < sz)
    (v : Value) (n : Nat) (xs : List Value) (hs : a.eval s = v) (hown : w.ownsRow B e sz v n xs)
    (y : Value) (m : Nat) (ys : List Value) (hx : a.eval x = y) (hy : Sl w sz y m ys)
    (h63 : n + m ≤ maxLen) (hbytes : (n + m) * bytes ≤ 140737488355328) (hbase : B ≤ w.heap.size)
    (hK : ∀ ao cap w', w'.ownsRow B e sz (.slice ao (n + m) cap) (n + m) (xs ++ ys) → w.grownBy w' v.ownBlock → K (a.put o.dst (.slice ao (n + m) cap)) w') :
    if Region.wanted o (yielded ops a.tmps) = true then Oper.wp Tryz.prog o a w K Q else E := by
  have hw : Region.wanted o (yielded ops a.tmps) = true := by simp [Region.wanted, hgd]
  rw [if_pos hw]
  obtain ⟨i0, hi, hz0, hz1, hz2⟩ := info_parts hi
  obtain ⟨y1, y2, ao, cap, rfl, y3, y4, y7, y5⟩ := hy
  have fin : ∀ v' w', w'.ownsRow B e sz v' (n + m) (xs ++ ys) → w.grownBy w' v.ownBlock → K (a.put o.dst v') w' := by
    intro v' w' h1 h2
    have h1' := h1
    rcases h1'.2 with ⟨rfl, h0⟩ | ⟨g, cap', cur, rfl, _⟩
    · have := hK none 0 w' (by rw [h0] at h1 ⊢; exact h1) h2
      rw [h0] at this
      exact this
    · exact hK _ _ w' h1 h2
  cases ao with
  | none =>
    have hm : m = 0 := by
      rcases y5 with y5 | ⟨g, off, y5, _⟩
      · exact y5
      · cases y5
    subst hm
    have hys : ys = [] := List.eq_nil_of_length_eq_zero (by simpa using y1)
    subst hys
    obtain rfl := y7 rfl
    have hrun := run_append_owned_none (P := Tryz.prog) (w := w) B t o.type e i0 sz ht hi v n xs hown
    unfold Oper.wp
    simp [execOp, ho, resolve, invoke, builtin, hs, hx, hrun, Result.andThen]
    exact fin v w (by simpa using hown) ⟨rfl, rfl, rfl, Nat.le_refl _, fun _ _ _ => rfl⟩
  | some ad =>
    obtain ⟨v', w', hrun, r1, r2, _⟩ := run_append_own (P := Tryz.prog) w B t o.type e i0 z sz bytes ht hi hz0 hz1 hz2 hzs hsz v n xs hown ad m cap ys y1 (by
      intro j u hj
      rcases y5 with rfl | ⟨g, off, y5, y6⟩
      · have e0 : ys = [] := List.eq_nil_of_length_eq_zero (by simpa using y1)
        subst e0
        simp at hj
      · cases y5
        have := y6 j u hj
        unfold Addr.add
        split
        · rename_i e0; subst e0; simpa using this
        · exact this) y2 h63 hbytes hbase
    unfold Oper.wp
    simp [execOp, ho, resolve, invoke, builtin, hs, hx, hrun, Result.andThen]
    exact fin v' w' r1 r2
theorem step_appB {ops : Array Oper} {o : Oper} {a : Act} {w : World} {K : Act → World → Prop} {Q : Exit → Act → World → Prop} {E : Prop}
    (hgd : o.guard = none) (s x : Operand) (ho : o.op = .call { callee := .builtin .append, args := #[s, x], argTypes := #[23, 23] })
    (B : Nat) (v : Value) (l : List UInt8) (hs : a.eval s = v) (hown : w.ownsRow B 5 1 v l.length (bv l))
    (y : Value) (m : List UInt8) (hx : a.eval x = y) (hy : Bt w y m) (hlen : l.length + m.length ≤ 140737488351232) (hbase : B ≤ w.heap.size) (r : List UInt8) (hr : l ++ m = r)
    (hK : ∀ ao cap w', w'.ownsRow B 5 1 (.slice ao r.length cap) r.length (bv r) → w.grownBy w' v.ownBlock → K (a.put o.dst (.slice ao r.length cap)) w') :
    if Region.wanted o (yielded ops a.tmps) = true then Oper.wp Tryz.prog o a w K Q else E := by
  subst hr
  exact step_app hgd s x 23 ho B 5 (.int .u8 0) 1 1 Tryz.underlying23 info5 rfl (by decide) v l.length (bv l) hs hown y m.length (bv m) hx hy (by unfold maxLen; omega) (by omega) hbase
    fun ao cap w' h1 h2 => by
      have := hK ao cap w'
      simp only [List.length_append, bv_append] at this
      exact this h1 h2

set_option maxRecDepth 100000 in
set_option maxHeartbeats 800000 in
theorem rrecord8_arg (t : Nat) (u : Value) (w : World) :
    Calls Tryz.prog 8 #[.agg #[.int .u64 0, .int .u64 t, u]] w fun e w' => e = .returned (.tuple #[.slice none 0 0, .int .i64 2]) ∧ Below w.heap.size w w' := by
  go_enter Tryz.func8, Tryz.ntmps8
  go_wp2
  go_ret2
  exact ⟨rfl, (Below.refl _ _).alloc (Nat.le_refl _) _⟩
set_option maxRecDepth 100000 in
set_option maxHeartbeats 800000 in
theorem rrecord8_long (x : Ent) (u : Value) (w : World) (hu : Bt w u x.b) (h0 : x.i ≠ 0) (hl : 2000 < x.b.length) :
    Calls Tryz.prog 8 #[.agg #[.int .u64 x.i, .int .u64 x.t, u]] w fun e w' => e = .returned (.tuple #[.slice none 0 0, .int .i64 3]) ∧ Below w.heap.size w w' := by
  have hd0 : ((x.i : Int) == 0) = false := by simp; omega
  obtain ⟨y1, y2, ao, cap, rfl, y3, y4, y7, y5⟩ := hu
  clear y1 y2 y3 y4 y7 y5
  go_enter Tryz.func8, Tryz.ntmps8
  go_wp2
  go_ret2
  exact ⟨rfl, (Below.refl _ _).alloc (Nat.le_refl _) _⟩
set_option maxRecDepth 100000 in
set_option maxHeartbeats 3200000 in
theorem rrecord8 (x : Ent) (u : Value) (w : World) (hx : x.ok) (hu : Bt w u x.b) (h0 : x.i ≠ 0) (hl : x.b.length ≤ 2000) :
    Calls Tryz.prog 8 #[.agg #[.int .u64 x.i, .int .u64 x.t, u]] w fun e w' => ∃ v, e = .returned (.tuple #[v, .int .i64 0]) ∧ w'.ownsRow w.heap.size 5 1 v (recL x).length (bv (recL x)) ∧ Below w.heap.size w w' := by
  obtain ⟨hx1, hx2, hx3⟩ := hx
  have HX1 := Lib.hid hx1
  have HX2 := Lib.hid hx2
  clear hx1 hx2 hx3
  have hd0 : ((x.i : Int) == 0) = false := by simp; omega
  have hb0 : Below w.heap.size w (w.alloc (.cells #[.int .u64 x.i, .int .u64 x.t, u] 25)) := (Below.refl _ _).alloc (Nat.le_refl _) _
  have hu1 := hu.below hb0 (Nat.le_refl _)
  have hcs := conv_str _ _ _ hu1
  obtain ⟨y1, y2, ao, cap, rfl, y3, y4, y7, y5⟩ := hu
  clear y1 y2 y3 y4 y7 y5
  obtain ⟨R1, hR1⟩ : ∃ R1, putL x.i ++ putL x.t = R1 := ⟨_, rfl⟩
  obtain ⟨R2, hR2⟩ : ∃ R2, R1 ++ putText x.b = R2 := ⟨_, rfl⟩
  have hR3 : recL x = R2 := by rw [← hR2, ← hR1]; simp [recL]
  rw [hR3]
  have HR1 := Lib.hid hR1
  have HR2 := Lib.hid hR2
  clear hR1 hR2 hR3
  go_enter Tryz.func8, Tryz.ntmps8
  go_wp2_with (go_at_call 37; refine (rputtext37 x.b _ (by omega)).mono ?_; rintro e w1 ⟨v1, rfl, hown1, hbel1⟩; obtain ⟨ao1, cap1, rfl⟩ := own_shape hown1)
  have b1 := below_tr hb0 hbel1
  have c0 : ∀ W, Below (w.heap.size + 1) w1 W → W.cell? ⟨w.heap.size, 0, none⟩ = some (.int .u64 x.i) := fun W hW => by
    rw [hW.cell (p := ⟨w.heap.size, 0, none⟩) (by simp), hbel1.cell (p := ⟨w.heap.size, 0, none⟩) (by simp), World.cell?_alloc_at _ _ _ _ rfl]; rfl
  have c1 : ∀ W, Below (w.heap.size + 1) w1 W → W.cell? ⟨w.heap.size, 1, none⟩ = some (.int .u64 x.t) := fun W hW => by
    rw [hW.cell (p := ⟨w.heap.size, 1, none⟩) (by simp), hbel1.cell (p := ⟨w.heap.size, 1, none⟩) (by simp), World.cell?_alloc_at _ _ _ _ rfl]; rfl
  have hz1 : w.heap.size + 1 ≤ w1.heap.size := by have := hbel1.size; simpa using this
  have d0 := c0 _ ((Below.refl _ _).drew)
  have d1 := c1 _ ((Below.refl _ _).drew)
  have C0 := Lib.hid c0
  have C1 := Lib.hid c1
  clear c0 c1
  have HLEN : Hid ((putL x.i).length ≤ 10 ∧ (putL x.t).length ≤ 10 ∧ (putText x.b).length ≤ 2010) := Lib.hid (by
    have a1 := putL_len x.i HX1.out
    have a2 := putL_len x.t HX2.out
    have a3 := putL_len x.b.length (by omega)
    simp [putText]
    omega)
  go_must (go_region_law (first
    | (go_simp; go_at_call 38; (with_reducible refine (rput_any x.i _ _ rfl HX1.out).mono ?_); rintro e w2 ⟨v2, rfl, hown2, hbel2⟩; obtain ⟨ao2, cap2, rfl⟩ := own_shape hown2; have hw2 : Below w1.heap.size w1 w2 := (by first | exact ((Below.refl _ _).drew).trans (hbel2.mono (Nat.le_refl _)) | exact hw3.trans (hbel2.mono hw3.size)); have k2 := C1.out _ (hw2.mono hz1))
    | (go_simp; go_at_call 38; (with_reducible refine (rput_any x.t _ _ rfl HX2.out).mono ?_); rintro e w3 ⟨v3, rfl, hown3, hbel3⟩; obtain ⟨ao3, cap3, rfl⟩ := own_shape hown3; have hw3 : Below w1.heap.size w1 w3 := (by first | exact ((Below.refl _ _).drew).trans (hbel3.mono (Nat.le_refl _)) | exact hw2.trans (hbel3.mono hw2.size)); have k3 := C0.out _ (hw3.mono hz1))
    | (refine step_appB rfl (.tmp 22) (.tmp 25) rfl w1.heap.size _ (putL x.i) rfl (by first | exact hown2.base hw3.size | exact own_below' (hown2.base (by first | exact Nat.le_refl _ | exact hw3.size)) hbel3 (Nat.le_refl _)) _ (putL x.t) rfl (by first | exact (Bt.of_own hown3) | exact (Bt.of_own hown3).below hbel2 (Nat.le_refl _)) (by have := HLEN.out; omega) (by first | exact hw3.size | exact hw2.size) R1 HR1.out ?_; intro ao4 cap4 w4 hown4 hgrow4; have hw4 : Below w1.heap.size w1 w4 := (by first | exact below_own hw3 (own_below' (hown2.base (Nat.le_refl _)) hbel3 (Nat.le_refl _)) hgrow4 | exact below_own hw2 (hown2.base hw3.size) hgrow4))
    | (refine step_appB rfl (.tmp 26) (.tmp 27) rfl w1.heap.size _ R1 rfl hown4 _ (putText x.b) rfl ((Bt.of_own hown1).below hw4 (Nat.le_refl _)) (by have := HLEN.out; have e1 := congrArg List.length HR1.out; rw [List.length_append] at e1; omega) hw4.size R2 HR2.out ?_; intro ao5 cap5 w5 hown5 hgrow5)))
  all_goals
    go_wp2
    go_ret2
    exact ⟨_, rfl, hown5.base b1.size, below_tr b1 (below_own hw4 hown4 hgrow5)⟩
end Go.Proofs.YtpcipfnahknngaaGreatDoor

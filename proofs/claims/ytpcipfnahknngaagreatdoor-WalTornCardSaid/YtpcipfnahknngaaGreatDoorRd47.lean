/- Contract of wal.read. No statement of the seat. -/
import Derived.Test.YtpcipfnahknngaaGreatDoorTl2
import Derived.Deep.RegionHeld3
namespace Go.Proofs.YtpcipfnahknngaaGreatDoor
open Go.RowKit Go.Maps
attribute [local go_sem] Oper.semAt_some

theorem noGoto_M {F : Fence} {n : Nat} {P : Program} {fn : Func} {R : Ending → World → Prop} : ∀ (e : Exit) (a : Act) (w : World), bodyPostM F n P fn R e a w → Exit.noGoto (bodyPostM F n P fn R) e a w := fun e a w h => by
  cases e <;> first | exact h | exact (h : False).elim
theorem scanT_le (b : List UInt8) (k : Nat) (at_ : List Nat) (l : List Ent) (hk : k ≤ b.length) : (scanT b k at_ l).1 ≤ b.length := by
  cases h : firstT (b.drop k) with
  | none => rw [scanT_none h]; exact hk
  | some p =>
    obtain ⟨r, m⟩ := p
    have hm := firstT_le h
    have hkm : k + m ≤ b.length := by have := hm.2.1; simp at this; omega
    cases hp : parseT r with
    | none => rw [scanT_bad h hp]; exact hk
    | some e =>
      cases hf : fitsT l e with
      | false => rw [scanT_no h hp hf]; exact hk
      | true => rw [scanT_yes h hp hf]; exact scanT_le b (k + m) _ _ hkm
termination_by b.length - k
decreasing_by omega

theorem bcell {W w1 : World} (hb : Below W.heap.size W w1) : (∀ b o, b < W.heap.size → w1.cell? ⟨b, o, none⟩ = W.cell? ⟨b, o, none⟩) ∧ (∀ b o, b < W.heap.size → w1.frozen? ⟨b, o, none⟩ = W.frozen? ⟨b, o, none⟩) :=
  ⟨fun b o h => hb.cell (p := ⟨b, o, none⟩) h, fun b o h => hb.frozen (p := ⟨b, o, none⟩) h⟩

set_option maxRecDepth 1000000 in
set_option maxHeartbeats 6400000 in
theorem read47 (n0 q d mb N n : Nat) (D : List (List UInt8 × Fil)) (ss : List Seg) (l : List Ent) (b : List UInt8) (R : Nat × List Nat × List Ent) (w : World) (h : WlE n0 w q d mb D ss l) (hb : b = ((getK (segName n) D).getD noFil).now) (hR : scanT b 0 [] l = R)
    (hn2 : 2 < n0) (htab : PowTab w) (hg : Dg N D) (hN : N < 1000000) (hn : n ≤ 99999999) (hss : ss.length < 1000000000) (hl : l.length < 400000000) (P : Ending → World → Prop)
    (hP : ∀ w', Fr walT w w' → Lo n0 mb w w' → WlE n0 w' q d mb (readR n b R D ss).2.1 (readR n b R D ss).2.2 R.2.2 → P (.returned (.bool (readR n b R D ss).1)) w') :
    Calls Tryz.prog 47 #[.pointer (some ⟨q, 0, none⟩), .int .i64 n] w P := by
  obtain ⟨sa, sc, la, lc, h⟩ := h
  have hnow : b.length ≤ 1048576 := by rw [hb]; exact hg.getNow _
  have H := Lib.hid h
  have HP := Lib.hid hP
  have HRR := Lib.hid hR
  have HB := Lib.hid hb
  have HG := Lib.hid hg
  have HTAB := Lib.hid htab
  have hq := h.box.lt
  obtain ⟨wA, hwA⟩ : ∃ wA, wA = w.alloc (.cells #[.pointer (some ⟨q, 0, none⟩)] 32) := ⟨_, rfl⟩
  have bA : Below w.heap.size w wA := by rw [hwA]; exact (Below.refl _ _).alloc (Nat.le_refl _) _
  have bxA : Box wA w.heap.size 32 #[.pointer (some ⟨q, 0, none⟩)] := by rw [hwA]; exact Box.new _ _ _ _ rfl
  have hzA : wA.heap.size = w.heap.size + 1 := by rw [hwA]; simp
  have HA := Lib.hid (h.below bA (Nat.le_refl _))
  have HBX := Lib.hid bxA
  have HBA := Lib.hid bA
  have HWA := Lib.hid hwA
  have HZA := Lib.hid hzA
  have hread : ∀ W', Below wA.heap.size wA W' → Calls Tryz.prog 77 #[.pointer (some ⟨d, 0, none⟩), .string (tx (segName n))] W' fun e w' => ∃ bo bc, e = .returned (.tuple #[.slice bo b.length bc, .bool ((getK (segName n) D).getD noFil).isNow]) ∧ BtT w' (.slice bo b.length bc) b ∧ Below W'.heap.size W' w' ∧ Below wA.heap.size wA w' := fun W' hW => by
    have h77 := read77 d mb D (segName n) W' (HA.out.disk.below hW (Nat.le_refl _)) (by rw [segName_len n hn]; omega) (hg.getNow _)
    rw [← HB.out] at h77
    refine h77.mono ?_
    rintro e w' ⟨v, rfl, ho, hb4⟩
    obtain ⟨bo, bc, rfl⟩ := own_shape ho
    exact ⟨bo, bc, rfl, BtT.of_own ho, hb4, hW.trans (hb4.mono hW.size)⟩
  have HREAD := Lib.hid hread
  have HTA : Hid (∀ W', Below wA.heap.size wA W' → PowTab W') := Lib.hid (fun W' hW => HTAB.out.below (HBA.out.trans (hW.mono HBA.out.size)) (Nat.le_refl _))
  have HN52 : Hid (∀ W', Below wA.heap.size wA W' → Calls Tryz.prog 52 #[.int .i64 n] W' fun e w' => e = .returned (.string (tx (segName n))) ∧ Below W'.heap.size W' w' ∧ Below wA.heap.size wA w') := Lib.hid (fun W' hW =>
    (name52i n _ rfl hn _ (HTA.out _ hW)).mono fun e w' ⟨h1, h2⟩ => ⟨h1, h2, hW.trans (h2.mono hW.size)⟩)
  have HCS : Hid (∀ W', Below wA.heap.size wA W' → W'.cell? ⟨w.heap.size, 0, none⟩ = some (.pointer (some ⟨q, 0, none⟩)) ∧ W'.cell? ⟨q, 0, none⟩ = some (.pointer (some ⟨d, 0, none⟩))) := Lib.hid (fun W' hW =>
    ⟨(HBX.out.below hW HBX.out.lt).cell 0 rfl, (HA.out.box.below hW HA.out.box.lt).cell 0 rfl⟩)
  clear h hP hR hb hg htab bA bxA hzA hread hwA
  refine (callsIn_wide (n := 4)).1 ?_
  refine callsIn_of_wp_marks Tryz.func47 rfl trivial ?_ rfl
  simp only [Tryz.ntmps47, List.size_toArray, List.length_cons, List.length_nil, Nat.reduceAdd, Nat.reduceSub, Array.replicate_succ, Array.replicate_zero, List.push_toArray, List.append_toArray, List.nil_append, List.cons_append]
  refine wpIn_wide.2 ?_
  go_wp2_with fail
  rw [← HWA.out]
  go_step3
  go_wp2_with fail
  go_cut [5] from 5 to 26 (fun s5 wx => ∃ gb bo bc, s5 = .pointer (some ⟨gb, 0, none⟩) ∧ Hid (wA.heap.size ≤ gb ∧ Box wx gb 23 #[.slice bo b.length bc] ∧ BtT wx (.slice bo b.length bc) b ∧ Below wA.heap.size wA wx))
  case first =>
   go_region_held3 (fun W => W.cell? ⟨w.heap.size, 0, none⟩ = some (.pointer (some ⟨q, 0, none⟩)) ∧ W.cell? ⟨q, 0, none⟩ = some (.pointer (some ⟨d, 0, none⟩))) (exact HCS.out _ (by repeat (first | exact Below.refl _ _ | exact hb4 | exact hb3 | refine Below.drew ?_ | refine Below.alloc ?_ (by first | exact hb4.size | exact hb3.size | (simp; done)) _ | refine Below.setCell ?_ (by first | exact hb4.size | exact hb3.size | (simp; done)) _)))
    (first
      | (go_at_call 52; (with_reducible refine (HN52.out _ (by repeat (first | exact Below.refl _ _ | exact hb4 | exact hb3 | refine Below.drew ?_ | refine Below.alloc ?_ (by first | exact hb4.size | exact hb3.size | (simp; done)) _ | refine Below.setCell ?_ (by first | exact hb4.size | exact hb3.size | (simp; done)) _))).mono ?_); rintro ee w3 ⟨rfl, b3, hb3⟩; obtain ⟨hc3, hf3⟩ := bcell b3; try (have hz5 : wA.heap.size < w3.heap.size := (by have z := b3.size; simp at z; omega)))
      | (go_at_call 77; (with_reducible refine (HREAD.out _ (by repeat (first | exact Below.refl _ _ | exact hb4 | exact hb3 | refine Below.drew ?_ | refine Below.alloc ?_ (by first | exact hb4.size | exact hb3.size | (simp; done)) _ | refine Below.setCell ?_ (by first | exact hb4.size | exact hb3.size | (simp; done)) _))).mono ?_); rintro ee w4 ⟨bo, bc, rfl, hbt4, b4, hb4⟩; obtain ⟨hc4, hf4⟩ := bcell b4))
   all_goals (
    go_wp2_with fail
    go_meet
    first
      | exact ⟨_, _, _, rfl, Lib.hid ⟨hb4.size, Box.new _ _ _ _ rfl, hbt4.fr (Fr.of_below (M := noTypes) ((Below.refl _ _).alloc (Nat.le_refl _) _) (Nat.le_refl _)) id, hb4.alloc hb4.size _⟩⟩
      | exact ⟨_, _, _, rfl, Lib.hid (by
          have x := (Box.new w3 w3.heap.size 23 #[.slice none 0 0] rfl).below b4 (by simp)
          exact ⟨hb3.size, x.set 0 _, hbt4.fr (box_fr x 0 _) (by decide), hb4.setCell hb3.size _⟩)⟩
      | exact ⟨_, _, _, rfl, Lib.hid (by
          have x := ((show Box ((wA.alloc (Obj.cells #[.slice none 0 0] 23)).drew) wA.heap.size 23 #[.slice none 0 0] from Box.new wA _ _ _ rfl).below b3 (by simp)).below b4 hz5
          exact ⟨Nat.le_refl _, x.set 0 _, hbt4.fr (box_fr x 0 _) (by decide), hb4.setCell (Nat.le_refl _) _⟩)⟩)
  case rest =>
  rename World => wc
  obtain ⟨gb, bo, bc, rfl, hx⟩ := hcut
  obtain ⟨hgb, bbx, hbt, hbw⟩ := hx.out
  have cgb := bbx.cell 0 rfl
  have lgb := bbx.lt
  have HBB := Lib.hid bbx
  have HBT := Lib.hid hbt
  have HBW := Lib.hid hbw
  have HGB := Lib.hid hgb
  clear hx bbx hbt hbw hgb
  go_wp2_with fail
  go_step3
  go_wp2_with (go_at_call 87; refine (all87 _ _ ⟨_, _, _, rfl⟩).mono ?_; rintro ee w5 ⟨rfl, hw5⟩; have HW5 := Lib.hid hw5; clear hw5)
  -- END
  have b5 : Below wc.heap.size wc w5 := by
    rw [HW5.out]
    exact (((Below.refl _ _).alloc (Nat.le_refl _) _).alloc (by simp) _).alloc (by simp; omega) _
  have bA5 : Below wA.heap.size wA w5 := HBW.out.trans (b5.mono HBW.out.size)
  have b05 : Below w.heap.size w w5 := HBA.out.trans (bA5.mono HBA.out.size)
  have hS : RdS q d w w.heap.size gb (wc.heap.size + 1 + 1) wc.heap.size (wc.heap.size + 1) n (.slice bo b.length bc) (.slice sa ss.length sc) b 0 [] l la lc none 0 w5 := by
    refine ⟨(Rx.refl q w).below b05, H.out.box.below b05 hq, HBX.out.below bA5 HBX.out.lt, HBB.out.below b5 lgb, ?_, ?_, ?_, HBT.out.fr (Fr.of_below (M := noTypes) b5 (Nat.le_refl _)) id, H.out.es.fr (Fr.of_below (M := noTypes) b05 (Nat.le_refl _)) id id, World.ownsRow_nil _ _ _ _⟩
    · rw [HW5.out]; exact Box.new _ _ _ _ (by simp)
    · rw [HW5.out]
      exact (Box.new wc _ _ _ rfl).below (((Below.refl _ _).alloc (Nat.le_refl _) _).alloc (by simp) _) (by simp)
    · rw [HW5.out]
      exact (Box.new (wc.alloc (.cells #[.int .i64 n, .slice none 0 0] 81)) _ _ _ (by simp)).below ((Below.refl _ _).alloc (Nat.le_refl _) _) (by simp)
  have hzz : w.heap.size ≤ wc.heap.size := by have := HBW.out.size; have := HZA.out; omega
  have hw5 : w.heap.size ≤ w5.heap.size := b05.size
  have hq5 : n0 ≤ w5.heap.size := Nat.le_trans (Nat.le_trans H.out.low (Nat.le_of_lt hq)) hw5
  rename_i kk hkk
  have HKK := Lib.hid hkk
  clear hkk
  have HS := Lib.hid hS
  have tail : ∀ (Dd : Nat) (W : World), w5.heap.size ≤ Dd → RdE q d w w.heap.size gb (wc.heap.size + 1 + 1) wc.heap.size (wc.heap.size + 1) n (.slice bo b.length bc) (.slice sa ss.length sc) b R.1 R.2.1 R.2.2 W → W.heap[Dd]? = some (.deferred (some [])) → ∀ (a : Act) , a = ⟨#[.pointer (some ⟨q, 0, none⟩), .int .i64 n, .pointer (some ⟨w.heap.size, 0, none⟩), undef, .bool false, .pointer (some ⟨gb, 0, none⟩), u6, .pointer (some ⟨wc.heap.size, 0, none⟩), .pointer (some ⟨wc.heap.size + 1, 0, none⟩), u9, u10, u11, u12, u13, u14, u15, u16, u17, u18, u19, u20, u21, u22, u23, u24, u25, .int .i64 n, .agg #[.int .i64 n, .slice none 0 0], (.slice bo b.length bc), .func (.func 107) #[] #[.pointer (some ⟨wc.heap.size + 1 + 1, 0, none⟩)], undef, undef, undef, undef, undef, undef, undef, undef, undef, undef, undef, undef, undef, undef, undef, undef, undef, undef, undef, undef, undef, undef, undef, undef, undef, undef, undef, undef, undef, undef, undef, undef, undef, undef, undef, undef, undef, undef, undef, undef, undef, undef, undef, undef, undef, undef, undef, undef, undef, undef, undef, undef, undef, undef, undef, undef, undef, undef, undef, undef, undef, undef, undef, undef, undef, undef, undef, undef, undef, undef, undef, undef, undef, undef, undef, undef, undef, undef, undef, undef, undef, undef, undef, undef, undef, undef, undef, undef, undef, undef, undef, undef, undef, undef, undef, undef, undef, undef, undef], [{ target := .collected Dd, args := #[] }]⟩ → kk a W := by
    rintro Dd W hDd ⟨la', lc', ua, uc, h⟩ hdf a rfl
    refine HKK.out _ _ ?_
    refine Code.wp_mono noGoto_M ?_
    obtain ⟨us, hsg⟩ := H.out.segs
    have f37 := h.rx.fr H.out.box
    have flo : Lo n0 mb _ _ := h.rx.lo H.out.low
    obtain ⟨es, cc, hm⟩ := H.out.disk.map
    have hT : Tl n0 q d mb Dd w.heap.size gb wc.heap.size (wc.heap.size + 1) n (.slice bo b.length bc) b R.1 (.slice ua R.2.1.length uc) R.2.2 la' lc' ss us sa sc D w W :=
      ⟨h.bq, h.bw, h.bb, h.bs, h.bg, h.hb, h.es, hsg.fr f37 (by decide) (by decide), H.out.disk.fr f37 (by decide) (by decide) (by decide) (h.rx.map H.out.box hm), HTAB.out.lo flo hn2, hdf, f37.mono fun e he => Or.inl he, flo⟩
    have hkb : R.1 ≤ b.length := by rw [← HRR.out]; exact scanT_le b 0 [] l (Nat.zero_le _)
    have hu := h.at_.base (B' := n0) (Nat.le_trans H.out.low (Nat.le_of_lt hq))
    have hnew : ∀ (k : Nat) (u' : Value) (g : Nat), us[k]? = some u' → u'.ownBlock = some g → Value.ownBlock (.slice ua R.2.1.length uc) ≠ some g := by
      intro k u' g hk hg he
      have hkl : k < ss.length := by have := (List.getElem?_eq_some_iff.1 hk).1; rw [hsg.1] at this; exact this
      have h1 := ((hsg.2.2.1 k hkl u' hk).lt g hg).2
      have h2 := (h.at_.lt g he).1
      omega
    have hgs : (Value.slice sa ss.length sc).ownBlock ≠ some wc.heap.size := by
      intro he
      have h1 := (hsg.2.1.lt _ he).2
      omega
    have hbc := hT.hb.1
    obtain ⟨_, _, bo', bc', hv, hb1, _, _, hb5⟩ := hbc
    cases hv
    by_cases h0 : 0 < R.1
    · obtain ⟨bg, off, rfl, _⟩ := hb5.resolve_left (by omega)
      by_cases hk : R.1 = b.length
      · have e : readR n b R D ss = (false, D, ss ++ [⟨n, R.2.1⟩]) := by unfold readR; rw [if_pos ⟨h0, hk⟩]
        exact tail47_whole _ n0 q d mb Dd _ _ _ _ n bg off bc N b R.1 R.2.1 ua uc R.2.2 la' lc' ss us sa sc D w W P _ _ _ _ _ _ _ _ _ _ _ _ _ _ _ _ _ _ _ _ _ _ _ _ _ _ _ _ _ _ _ _ _ _ _ _ _ _ _ _ _ _ _ _ _ _ _ _ _ _ _ _ _ _ _ _ _ _ _ _ _ _ _ _ _ _ _ _ _ _ _ _ _ _ _ _ _ _ _ _ _ _ _ _ _ _ _ _ _ _ _ _ _ _ _ _ _ _ _ _ _ _ _ _ _ _ _ _ _ _ _ _ _ _ _ _ _ _ _ _ _ _ _ _ hT hn2 H.out.low H.out.lowm (by omega) hn hkb hnow hk h0 hss hu hnew hgs (fun w' x1 x2 x3 => by have := HP.out w' x1 x2; rw [e] at this; exact this x3)
      · have e : readR n b R D ss = (true, syncD (segName n) (replaceD (segName n) (b.take R.1) D), ss ++ [⟨n, R.2.1⟩]) := by unfold readR; rw [if_neg (fun h => hk h.2), if_pos h0]
        exact tail47_cut _ n0 q d mb Dd _ _ _ _ n bg off bc N b R.1 R.2.1 ua uc R.2.2 la' lc' ss us sa sc D w W P _ _ _ _ _ _ _ _ _ _ _ _ _ _ _ _ _ _ _ _ _ _ _ _ _ _ _ _ _ _ _ _ _ _ _ _ _ _ _ _ _ _ _ _ _ _ _ _ _ _ _ _ _ _ _ _ _ _ _ _ _ _ _ _ _ _ _ _ _ _ _ _ _ _ _ _ _ _ _ _ _ _ _ _ _ _ _ _ _ _ _ _ _ _ _ _ _ _ _ _ _ _ _ _ _ _ _ _ _ _ _ _ _ _ _ _ _ _ _ _ _ _ _ _ hT hn2 H.out.low H.out.lowm (by omega) hn hkb hnow hk h0 (by omega) HG.out hN hss hu hnew hgs (fun w' x1 x2 x3 => by have := HP.out w' x1 x2; rw [e] at this; exact this x3)
    · have e : readR n b R D ss = (true, syncD (segName n) (removeD (segName n) D), ss) := by unfold readR; rw [if_neg (fun h => h0 h.1), if_neg h0]
      exact tail47_none _ n0 q d mb Dd _ _ _ _ n bc N bo b R.1 R.2.1 ua uc R.2.2 la' lc' ss us sa sc D w W P _ _ _ _ _ _ _ _ _ _ _ _ _ _ _ _ _ _ _ _ _ _ _ _ _ _ _ _ _ _ _ _ _ _ _ _ _ _ _ _ _ _ _ _ _ _ _ _ _ _ _ _ _ _ _ _ _ _ _ _ _ _ _ _ _ _ _ _ _ _ _ _ _ _ _ _ _ _ _ _ _ _ _ _ _ _ _ _ _ _ _ _ _ _ _ _ _ _ _ _ _ _ _ _ _ _ _ _ _ _ _ _ _ _ _ _ _ _ _ _ _ _ _ _ hT hn2 H.out.low H.out.lowm (by omega) hn hkb hnow (by omega) HG.out hN (fun w' x1 x2 x3 => by have := HP.out w' x1 x2; rw [e] at this; exact this x3)
  have TAIL := Lib.hid tail
  clear tail hS b5 bA5 b05
  refine (wpIn_wide (n := 3 + 1)).1 ?_
  refine wpIn_rangeAll (gb := wc.heap.size + 1 + 1) (v := .slice bo b.length bc) (b := b) rfl (all107 3 _ _ _ (by omega)) rfl (RdJ q d w w.heap.size gb (wc.heap.size + 1 + 1) wc.heap.size (wc.heap.size + 1) n (.slice bo b.length bc) (.slice sa ss.length sc) b R l.length) (RdX q d w w.heap.size gb (wc.heap.size + 1 + 1) wc.heap.size (wc.heap.size + 1) n (.slice bo b.length bc) (.slice sa ss.length sc) b R) ?hrd ?hI ?hIx ?h0 (fun k u => ⟨#[.pointer (some ⟨q, 0, none⟩), .int .i64 n, .pointer (some ⟨w.heap.size, 0, none⟩), undef, .bool false, .pointer (some ⟨gb, 0, none⟩), u6, .pointer (some ⟨wc.heap.size, 0, none⟩), .pointer (some ⟨wc.heap.size + 1, 0, none⟩), .int .i64 (k : Nat), u, u11, u12, u13, u14, u15, u16, u17, u18, u19, u20, u21, u22, u23, u24, u25, .int .i64 n, .agg #[.int .i64 n, .slice none 0 0], (.slice bo b.length bc), .func (.func 107) #[] #[.pointer (some ⟨wc.heap.size + 1 + 1, 0, none⟩)], .int .i64 (k : Nat), u, undef, undef, undef, undef, undef, undef, undef, undef, undef, undef, undef, undef, undef, undef, undef, undef, undef, undef, undef, undef, undef, undef, undef, undef, undef, undef, undef, undef, undef, undef, undef, undef, undef, undef, undef, undef, undef, undef, undef, undef, undef, undef, undef, undef, undef, undef, undef, undef, undef, undef, undef, undef, undef, undef, undef, undef, undef, undef, undef, undef, undef, undef, undef, undef, undef, undef, undef, undef, undef, undef, undef, undef, undef, undef, undef, undef, undef, undef, undef, undef, undef, undef, undef, undef, undef, undef, undef, undef, undef, undef, undef, undef, undef, undef, undef, undef, undef], []⟩) ?assign ?body ?done ?stop
  case hrd =>
    rintro k W ⟨at_, l', ⟨la', lc', ua, uc, h⟩, _⟩
    exact ⟨h.bb2.cell 0 rfl, h.hb.1⟩
  case hI =>
    rintro k W W' row ⟨at_, l', he, h1, h2, h3⟩ hg hr
    exact ⟨at_, l', he.own hw5 hg hr, h1, h2, h3⟩
  case hIx =>
    rintro c W W' row ⟨hc, he⟩ hg hr
    exact ⟨hc, he.own hw5 hg hr⟩
  case h0 => exact ⟨[], l, ⟨la, lc, none, 0, HS.out⟩, HRR.out, Nat.le_refl _, Nat.le_refl _⟩
  case assign =>
    intro lp k u W K hK
    gi_wp2
    exact hK
  case body =>
    rintro lp k r m u W ⟨at_, l', ⟨la', lc', ua, uc, h⟩, h1, h2, h3⟩ hf hkm hu
    cases hp : parseT r with
    | none => exact round47_bad lp _ q d _ w _ _ _ _ _ n _ _ b R l.length k m r at_ l' la' lc' ua uc u W _ _ _ _ _ _ _ _ _ _ _ _ _ _ _ _ _ _ _ _ _ _ _ _ _ _ _ _ _ _ _ _ _ _ _ _ _ _ _ _ _ _ _ _ _ _ _ _ _ _ _ _ _ _ _ _ _ _ _ _ _ _ _ _ _ _ _ _ _ _ _ _ _ _ _ _ _ _ _ _ _ _ _ _ _ _ _ _ _ _ _ _ _ _ _ _ _ _ _ _ _ _ _ _ _ _ _ _ _ _ _ _ _ _ _ _ _ _ _ _ _ _ _ h h1 hf hu hp
    | some e =>
      cases hfi : fitsT l' e with
      | false => exact round47_no lp _ q d _ w _ _ _ _ _ n _ _ b R l.length k m r at_ l' la' lc' ua uc u W e _ _ _ _ _ _ _ _ _ _ _ _ _ _ _ _ _ _ _ _ _ _ _ _ _ _ _ _ _ _ _ _ _ _ _ _ _ _ _ _ _ _ _ _ _ _ _ _ _ _ _ _ _ _ _ _ _ _ _ _ _ _ _ _ _ _ _ _ _ _ _ _ _ _ _ _ _ _ _ _ _ _ _ _ _ _ _ _ _ _ _ _ _ _ _ _ _ _ _ _ _ _ _ _ _ _ _ _ _ _ _ _ _ _ _ _ _ _ _ _ _ _ _ h h1 hf hu hp hfi (by omega)
      | true => exact round47_yes lp _ q d _ w _ _ _ _ _ n _ _ b R l.length k m r at_ l' la' lc' ua uc u W e _ _ _ _ _ _ _ _ _ _ _ _ _ _ _ _ _ _ _ _ _ _ _ _ _ _ _ _ _ _ _ _ _ _ _ _ _ _ _ _ _ _ _ _ _ _ _ _ _ _ _ _ _ _ _ _ _ _ _ _ _ _ _ _ _ _ _ _ _ _ _ _ _ _ _ _ _ _ _ _ _ _ _ _ _ _ _ _ _ _ _ _ _ _ _ _ _ _ _ _ _ _ _ _ _ _ _ _ _ _ _ _ _ _ _ _ _ _ _ _ _ _ _ h h1 hf hu hp hfi h3 (by omega) h2 (by omega) hkm hzz (by omega)
  case done =>
    rintro Dd k W hDd hk hf ⟨at_, l', he, h1, h2, h3⟩ hdf
    have hR : R = (k, at_, l') := by rw [← h1]; exact scanT_none hf
    refine TAIL.out Dd W hDd ?_ hdf _ rfl
    rw [hR]
    exact he
  case stop =>
    rintro Dd c W hDd ⟨rfl, he⟩ hdf
    refine wpIn_exit ?_
    exact TAIL.out Dd W hDd he hdf _ rfl
end Go.Proofs.YtpcipfnahknngaaGreatDoor

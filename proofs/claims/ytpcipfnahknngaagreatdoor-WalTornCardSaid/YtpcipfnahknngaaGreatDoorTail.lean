/- The end of wal.write: the record is on the disk. No statement of the seat. -/
import Derived.Test.YtpcipfnahknngaaGreatDoorWr
import Derived.Deep.AppendLies
import Derived.Deep.DeepCutAuto
namespace Go.Proofs.YtpcipfnahknngaaGreatDoor
open Go.RowKit Go.Maps

/-- a row of indexes grows, at a step of a region that draws -/
theorem step_at {ops : Array Oper} {o : Oper} {a : Act} {w : World} {K : Act → World → Prop} {Q : Exit → Act → World → Prop} {E : Prop} (hgd : o.guard = none) (s x : Operand)
    (ho : o.op = .call { callee := .builtin .append, args := #[s, x], argTypes := #[79, 79] }) (n0 : Nat) (ua : Option Addr) (uc : Nat) (at_ : List Nat) (i gx : Nat) (w4 : World) (hf : Below w4.heap.size w4 w)
    (hs : a.eval s = .slice ua at_.length uc) (hown4 : w4.ownsRow n0 22 1 (.slice ua at_.length uc) at_.length (nv at_)) (hx : a.eval x = .slice (some ⟨gx, 0, none⟩) 1 1) (hb : Box w gx 22 #[.int .u64 i])
    (hlen : at_.length < 1000000000) (hbase : n0 ≤ w.heap.size)
    (h : ∀ W g cap w', Below w4.heap.size w4 W → w'.ownsRow n0 22 1 (.slice (some ⟨g, 0, none⟩) (at_.length + 1) cap) (at_.length + 1) (nv (at_ ++ [i])) → W.grownBy w' (Value.slice ua at_.length uc).ownBlock → ((Value.slice ua at_.length uc).ownBlock = some g ∨ g = W.heap.size) → K (a.put o.dst (.slice (some ⟨g, 0, none⟩) (at_.length + 1) cap)) w') :
    if Region.wanted o (yielded ops a.tmps) = true then Oper.wp Tryz.prog o a w K Q else E := by
  obtain ⟨i0, hi, hz0, hz1, hz2⟩ := info_parts info22
  have hown := own_fr hown4 (Fr.of_below (M := noTypes) hf (Nat.le_refl _)) id
  refine step_append_lies w hgd s x 79 ho n0 22 i0 (.int .u64 0) 1 8 Tryz.underlying79 hi hz0 hz1 hz2 rfl (by decide) _ at_.length (nv at_) hs hown ⟨gx, 0, none⟩ 1 1 [.int .u64 i] hx rfl (World.news_of_block (cs := #[.int .u64 i]) hb) (by simp [Value.oneCell']) (by decide) (by unfold maxLen; omega) (by omega) hbase _ rfl
    fun g cap w' h1 h2 h3 _ => h w g cap w' hf ?_ h2 h3
  rw [nv_append]
  exact h1

theorem sgCells_set (ss0 : List Seg) (s s' : Seg) (hn : s'.n = s.n) (us : List Value) (h : us.length = ss0.length + 1) (v : Value) : (sgCells (ss0 ++ [s]) us).set (ss0.length * 2 + 1) v = sgCells (ss0 ++ [s']) (us.set ss0.length v) := by
  induction ss0 generalizing us with
  | nil =>
    match us, h with
    | [u], _ => simp [sgCells, hn]
  | cons c l ih =>
    cases us with
    | nil => simp at h
    | cons u us =>
      have := ih us (by simpa using h)
      have e : (c :: l).length * 2 + 1 = l.length * 2 + 1 + 2 := by simp; omega
      rw [e]
      simp only [List.cons_append, sgCells, List.set_cons_succ, List.length_cons, this]

def segT (e : TypeId) : Prop := e = 22 ∨ e = 81
/-- behind the last segment's row, and its store -/
theorem SgU.wrote {n0 mb g sc : Nat} {W1 w5 : World} {ss0 : List Seg} {s : Seg} {us : List Value} {ua : Option Addr} {uc : Nat} {i g5 c5 : Nat} (h : SgU n0 W1 (.slice (some ⟨g, 0, none⟩) (ss0.length + 1) sc) (ss0 ++ [s]) us)
    (hus : us[ss0.length]? = some (.slice ua s.at_.length uc)) (hgr : W1.grownBy w5 (Value.slice ua s.at_.length uc).ownBlock) (ho : w5.ownsRow n0 22 1 (.slice (some ⟨g5, 0, none⟩) (s.at_.length + 1) c5) (s.at_.length + 1) (nv (s.at_ ++ [i])))
    (hg5 : (Value.slice ua s.at_.length uc).ownBlock = some g5 ∨ g5 = W1.heap.size) :
    SgU n0 (w5.setCell ⟨g, ss0.length * 2 + 1, none⟩ (.slice (some ⟨g5, 0, none⟩) (s.at_.length + 1) c5)) (.slice (some ⟨g, 0, none⟩) (ss0.length + 1) sc) (ss0 ++ [⟨s.n, s.at_ ++ [i]⟩]) (us.set ss0.length (.slice (some ⟨g5, 0, none⟩) (s.at_.length + 1) c5)) ∧
      Fr segT W1 (w5.setCell ⟨g, ss0.length * 2 + 1, none⟩ (.slice (some ⟨g5, 0, none⟩) (s.at_.length + 1) c5)) ∧ Lo n0 mb W1 (w5.setCell ⟨g, ss0.length * 2 + 1, none⟩ (.slice (some ⟨g5, 0, none⟩) (s.at_.length + 1) c5)) ∧
      (∀ (b : Nat) (es : Array MapEntry) (c : Nat), W1.heap[b]? = some (Obj.map es c) → (w5.setCell ⟨g, ss0.length * 2 + 1, none⟩ (.slice (some ⟨g5, 0, none⟩) (s.at_.length + 1) c5)).heap[b]? = W1.heap[b]?) := by
  obtain ⟨h1, h2, h3, h4⟩ := h
  have hl : (ss0 ++ [s]).length = ss0.length + 1 := by simp
  have hl' : ∀ s', (ss0 ++ [s']).length = ss0.length + 1 := fun s' => by simp
  rw [hl] at h1 h2
  have hu := h3 ss0.length (by omega) _ hus
  simp only [List.getElem_append_right (Nat.le_refl _), Nat.sub_self, List.getElem_singleton] at hu
  have f5 : Fr (fun e => e = 22) W1 w5 := Fr.grown hgr (Ty.of_own hu) rfl
  have h25 := own_fr h2 f5 (by decide)
  have hst := h25.stored (ss0.length * 2 + 1) (.slice (some ⟨g5, 0, none⟩) (s.at_.length + 1) c5)
  obtain ⟨hst1, hst2⟩ := hst
  rw [sgCells_set ss0 s ⟨s.n, s.at_ ++ [i]⟩ rfl us h1] at hst1
  have f6 : Fr (fun e => e = 81) w5 (w5.setCell ⟨g, ss0.length * 2 + 1, none⟩ (.slice (some ⟨g5, 0, none⟩) (s.at_.length + 1) c5)) := Fr.grown (v := .slice (some ⟨g, 0, none⟩) (ss0.length + 1) sc) hst2 (Ty.of_own h25) rfl
  have hg0 : n0 ≤ g := (h2.lt g rfl).1
  refine ⟨⟨by rw [hl']; simpa using h1, by rw [hl']; exact hst1, fun k hk v hv => ?_, fun j k v v' b hj hk hb hb' => ?_⟩, (f5.mono fun e h => Or.inl h).trans (f6.mono fun e h => Or.inr h), (Lo.grown hgr hu).setCell _ _ hg0, fun b es c hb => ?_⟩
  · rw [hl'] at hk
    by_cases hk2 : k = ss0.length
    · subst hk2
      rw [List.getElem?_set_self (by omega)] at hv
      cases hv
      simp only [List.getElem_append_right (Nat.le_refl _), Nat.sub_self, List.getElem_singleton, List.length_append, List.length_singleton]
      exact own_fr ho f6 (by decide)
    · rw [List.getElem?_set_ne (by omega)] at hv
      have hk3 : k < ss0.length := by omega
      have hr := h3 k (by omega) v hv
      rw [List.getElem_append_left hk3] at hr ⊢
      refine own_fr (hr.kept hgr ?_) f6 (by decide)
      by_cases hb : v.ownBlock = none
      · exact Or.inl hb
      · right
        intro he
        obtain ⟨b, hb2⟩ := Option.ne_none_iff_exists'.1 hb
        exact hk2 (h4 k ss0.length _ _ b hv hus hb2 (he ▸ hb2))
  · have key : ∀ j v b, j ≠ ss0.length → us[j]? = some v → v.ownBlock = some b → b ≠ g5 := by
      intro j v b hj hv hb e
      rw [e] at hb
      rcases hg5 with hg5 | hg5
      · exact hj (h4 j ss0.length _ _ g5 hv hus hb hg5)
      · have hj2 : j < us.length := (List.getElem?_eq_some_iff.1 hv).1
        have := (h3 j (by omega) v hv).lt g5 hb
        omega
    by_cases hj2 : j = ss0.length <;> by_cases hk2 : k = ss0.length
    · omega
    · subst hj2
      rw [List.getElem?_set_self (by omega)] at hj
      cases hj
      rw [List.getElem?_set_ne (by omega)] at hk
      cases hb
      exact absurd rfl (key k v' _ hk2 hk hb')
    · subst hk2
      rw [List.getElem?_set_self (by omega)] at hk
      cases hk
      rw [List.getElem?_set_ne (by omega)] at hj
      cases hb'
      exact absurd rfl (key j v _ hj2 hj hb)
    · rw [List.getElem?_set_ne (by omega)] at hj hk
      exact h4 j k v v' b hj hk hb hb'
  · have e1 := grown_map hgr (Ty.of_own hu) hb
    have e2 := grown_map (v := .slice (some ⟨g, 0, none⟩) (ss0.length + 1) sc) hst2 (Ty.of_own h25) (e1.trans hb)
    exact e2.trans e1

theorem own_store {W : World} {B : Nat} {e : TypeId} {sz g n cap : Nat} {xs : List Value} (h : W.ownsRow B e sz (.slice (some ⟨g, 0, none⟩) n cap) n xs) (j : Nat) (hj : j < n * sz) : (∃ v, W.cell? ⟨g, j, none⟩ = some v) ∧ W.frozen? ⟨g, j, none⟩ = false := by
  refine ⟨⟨xs[j]'(by rw [h.1]; exact hj), ?_⟩, h.frozenAt j⟩
  rw [h.cellAt j hj]
  exact List.getElem?_eq_getElem _

/-- the code from a region on -/
def fromRegion (k : Nat) : Code → Option Code
  | .seq (.region j ops d) b => if j == k then some (.seq (.region j ops d) b) else fromRegion k b
  | .seq a b => match fromRegion k a with
    | some c => some c
    | none => fromRegion k b
  | .cond _ a b => match fromRegion k a with
    | some c => some c
    | none => fromRegion k b
  | .loop c => fromRegion k c
  | .block _ c => fromRegion k c
  | _ => none
noncomputable def tailC : Code := ((Tryz.f49.body.bind (fromRegion 19)).getD .skip)

set_option maxRecDepth 1000000 in
set_option maxHeartbeats 6400000 in
theorem tail49 (n0 q d mb g sc b : Nat) (D' : List (List UInt8 × Fil)) (ss0 : List Seg) (s : Seg) (us : List Value) (l : List Ent) (x : Ent) (uo : Option Addr) (un uc0 : Nat) (la : Option Addr) (lc : Nat) (w4 : World) (P : Ending → World → Prop)
    (u1 u2 u4 u5 u6 u7 u8 u10 u11 u12 u13 u14 u15 u16 u17 u18 u19 u20 u21 u22 u23 u24 u25 u26 u27 u28 u29 u30 u31 u32 u33 u34 u35 u36 u37 u38 u39 u40 u41 u42 u43 u44 u45 u46 u47 u48 u49 u50 u51 u52 u53 u54 u55 u56 u57 u58 u59 u60 u61 u62 u63 u64 u65 u66 u67 u68 u69 u70 u71 u72 u73 u74 u75 u76 u77 u78 u79 u80 u81 u82 u83 u84 u85 u86 u87 u88 u89 u90 u91 u92 u93 u94 u95 u96 u97 u98 u99 u100 u101 u102 u103 u104 u105 u106 u107 u108 u109 u110 u111 u112 u113 u114 u115 u116 u117 : Value)
    (hB : WrB n0 w4 q d g ss0.length sc la lc (ss0 ++ [s]) us l x (.slice uo un uc0) b) (hlow : n0 ≤ q) (hlowm : LowM n0 mb) (hD : Dp w4 d mb D') (hs : s.at_.length < 1000000000) (_hss : ss0.length < 1000000000) (hl : l.length < 1000000000) (hb : x.b.length ≤ 2000)
    (hP : ∀ w', Fr walT w4 w' → Lo n0 mb w4 w' → WlE n0 w' q d mb D' (ss0 ++ [⟨s.n, s.at_ ++ [x.i]⟩]) (putE l x) → P (.returned (.int .i64 0)) w') :
    Code.wp Tryz.prog tailC (bodyPost Tryz.prog Tryz.f49 P) ⟨#[.pointer (some ⟨q, 0, none⟩), u1, u2, .pointer (some ⟨b, 0, none⟩), u4, u5, u6, u7, u8, .int .i64 ss0.length, u10, u11, u12, u13, u14, u15, u16, u17, u18, u19, u20, u21, u22, u23, u24, u25, u26, u27, u28, u29, u30, u31, u32, u33, u34, u35, u36, u37, u38, u39, u40, u41, u42, u43, u44, u45, u46, u47, u48, u49, u50, u51, u52, u53, u54, u55, u56, u57, u58, u59, u60, u61, u62, u63, u64, u65, u66, u67, u68, u69, u70, u71, u72, u73, u74, u75, u76, u77, u78, u79, u80, u81, u82, u83, u84, u85, u86, u87, u88, u89, u90, u91, u92, u93, u94, u95, u96, u97, u98, u99, u100, u101, u102, u103, u104, u105, u106, u107, u108, u109, u110, u111, u112, u113, u114, u115, u116, u117], []⟩ w4 := by
  have HBL := Lib.hid hb
  have HP := Lib.hid hP
  have HB4 := Lib.hid hB
  have HD4 := Lib.hid hD
  have hq4 : q < w4.heap.size := hB.bq.lt
  have hg4 : g < w4.heap.size := (hB.sg.2.1.lt g rfl).2
  have hb4 : b < w4.heap.size := hB.bx.lt
  have c1q := hB.bq.cell 1 rfl
  obtain ⟨ua4, uc4, hus4, d04, d14, fz4, hown4, huc4, hsc, hscm⟩ := hB.last
  have cx0 := hB.bx.cell 0 rfl
  have HUS4 := Lib.hid hus4
  have HOWN4 := Lib.hid hown4
  have hn0 : n0 ≤ w4.heap.size := by omega
  have hix : (ss0.length : Int) < (ss0.length : Int) + 1 := by omega
  clear hus4 hown4 d04 fz4 hb hP hB hD
  conv => arg 4; zeta
  conv => arg 2; whnf
  go_upto_region 19 with fail
  go_cut [] (fun wx => Hid (∃ us', SgU n0 wx (.slice (some ⟨g, 0, none⟩) (ss0.length + 1) sc) (ss0 ++ [⟨s.n, s.at_ ++ [x.i]⟩]) us' ∧ Fr segT w4 wx ∧ Lo n0 mb w4 wx ∧ wx.heap[mb]? = w4.heap[mb]?))
  case first =>
    go_must (go_region_law (first
      | (refine step_at rfl (.tmp 102) (.tmp 105) rfl n0 ua4 uc4 s.at_ x.i w4.heap.size w4
          (by repeat (first | exact Below.refl _ _ | refine Below.drew ?_ | refine Below.alloc ?_ (by first | omega | (simp; done) | (simp; omega)) _))
          (by simp [Act.eval]) HOWN4.out (by simp [Act.eval]) (Box.new _ _ _ _ (by simp)) (by omega) (by simp; omega) ?_
         intro W5 g5 c5 w5 hb45 own5 grow5 at5
         have b45 : Fr noTypes w4 W5 := Fr.of_below hb45 (Nat.le_refl _)
         have f45 : Fr (fun e => e = 22) w4 w5 := (b45.mono fun _ => False.elim).trans (Fr.grown grow5 (Ty.of_own (own_fr HOWN4.out b45 id)) rfl)
         have hs5 := own_fr HB4.out.sg.2.1 f45 (by decide)
         rw [show (ss0 ++ [s]).length = ss0.length + 1 by simp] at hs5
         obtain ⟨⟨v5, k5⟩, fz5⟩ := own_store hs5 (ss0.length * 2 + 1) (by omega)
         have c15 := (HB4.out.bq.fr f45 (by decide)).cell 1 rfl
         clear hs5)))
    all_goals (
      go_wp2_with fail
      go_meet
      exact Lib.hid (by
        obtain ⟨s1, s2, s3, s4⟩ := SgU.wrote (mb := mb) (HB4.out.sg.fr b45 id id) HUS4.out grow5 own5 at5
        obtain ⟨es, c, hm⟩ := HD4.out.map
        have e1 := hb45.block mb (lt_of_get hm)
        exact ⟨_, s1, (b45.mono fun _ => False.elim).trans s2, (Lo.blw hb45 (Nat.le_refl _)).trans s3, (s4 mb es c (e1.trans hm)).trans e1⟩))
  case rest =>
  rename World => w6
  obtain ⟨us', hsg', f46, lo46, hmb⟩ := hcut.out
  have hz6 : w4.heap.size ≤ w6.heap.size := f46.size
  have hbq6 := HB4.out.bq.fr f46 (by unfold segT; decide)
  have hbx6 := HB4.out.bx.fr f46 (by unfold segT; decide)
  have hut6 := HB4.out.ut.go f46 (by unfold segT; decide) lo46
  have hes6 := HB4.out.es.fr f46 (by unfold segT; decide) (by unfold segT; decide)
  have hD6 := HD4.out.fr f46 (by unfold segT; decide) (by unfold segT; decide) (by unfold segT; decide) hmb
  have hput := fun W (hb : Below w6.heap.size w6 W) => put89 l x (.slice uo un uc0) la lc W (hes6.fr (M := noTypes) (Fr.of_below hb (Nat.le_refl _)) id id) (hut6.1.below hb (Nat.le_refl _)) hl (by have := HBL.out; omega)
  have k2 := hbq6.cell 2 rfl
  have x0 := hbx6.cell 0 rfl
  have x1 := hbx6.cell 1 rfl
  have x2 := hbx6.cell 2 rfl
  have HPUT := Lib.hid hput
  have HBQ6 := Lib.hid hbq6
  have HD6 := Lib.hid hD6
  have HSG := Lib.hid hsg'
  have F46 := Lib.hid f46
  have LO46 := Lib.hid lo46
  clear hput hut6 hes6 hD6 hsg' f46 lo46 hmb hcut hbq6 hbx6 c1q d14 cx0
  go_upto_region 20 with fail
  go_cut [] (fun wx => Hid (∃ ao' cap', Box wx q 37 #[.pointer (some ⟨d, 0, none⟩), .slice (some ⟨g, 0, none⟩) (ss0.length + 1) sc, .slice ao' (putE l x).length cap'] ∧ Es wx (.slice ao' (putE l x).length cap') (putE l x) ∧ Fr (fun e => e = 37) w6 wx ∧ Lo n0 mb w6 wx ∧ wx.heap[mb]? = w6.heap[mb]?))
  case first =>
    go_must (go_region_law (first
      | (go_simp; go_at_call 89; (with_reducible refine (HPUT.out _ (by first | exact Below.refl _ _ | exact (Below.refl _ _).drew)).mono ?_); rintro e w7 ⟨a7, q7, rfl, hes7, b7⟩
         have hb67 : Below w6.heap.size w6 w7 := ((Below.refl _ _).drew).trans (b7.mono (Nat.le_refl _))
         have hbq7 := HBQ6.out.below hb67 HBQ6.out.lt
         have k7 := hbq7.cell 2 rfl
         have fz7 := hbq7.froz 2)))
    all_goals (
      go_wp2_with fail
      go_meet
      exact Lib.hid (by
        have f7 : Fr (fun e => e = 37) w7 (w7.setCell ⟨q, 2, none⟩ (.slice a7 (putE l x).length q7)) := Fr.setCell (Fr.refl _ w7) _ (fun cur e fz hh => by
          have h2 : w7.heap[q]? = some (Obj.cells cur e fz) := hh
          have h3 := hbq7
          unfold Box at h3
          rw [h3] at h2
          cases h2; rfl)
        obtain ⟨es, c, hm⟩ := HD6.out.map
        have hne : mb ≠ q := fun e => by
          have h3 := HBQ6.out
          unfold Box at h3
          rw [← e, hm] at h3
          cases h3
        have f67 : Fr (fun e => e = 37) w6 w7 := Fr.of_below hb67 (Nat.le_refl _)
        refine ⟨a7, q7, hbq7.set 2 _, hes7.fr f7 (by decide) (by decide), f67.trans f7, (Lo.of_below hb67 (Nat.le_trans hn0 hz6)).setCell _ _ hlow, ?_⟩
        exact (Below.heap_setCell _ _ _ _ hne).trans (hb67.block mb (lt_of_get hm))))
  case rest =>
  obtain ⟨ao', cap', hbx7, hes7, f67, lo67, hm67⟩ := hcut.out
  clear hcut
  go_wp2
  show P (.returned (.int .i64 0)) _
  refine HP.out _ ((F46.out.mono fun e h => h.elim (fun h => Or.inr (Or.inr h)) (fun h => Or.inr (Or.inl h))).trans (f67.mono fun e h => Or.inl h)) (LO46.out.trans lo67) ⟨some ⟨g, 0, none⟩, sc, ao', cap', ?_⟩
  have hlen : (ss0 ++ [(⟨s.n, s.at_ ++ [x.i]⟩ : Seg)]).length = ss0.length + 1 := by simp
  refine ⟨by rw [hlen]; exact hbx7, HD6.out.fr f67 (by decide) (by decide) (by decide) hm67, hlow, hlowm, ⟨us', ?_⟩, hes7⟩
  rw [hlen]
  exact HSG.out.fr f67 (by decide) (by decide)
end Go.Proofs.YtpcipfnahknngaaGreatDoor

/- Contract of wal.Append. No statement of the seat. -/
import Derived.Test.YtpcipfnahknngaaGreatDoorWr4
namespace Go.Proofs.YtpcipfnahknngaaGreatDoor
open Go.RowKit Go.Maps

theorem Es.cells {w : World} {la : Option Addr} {lc : Nat} {l : List Ent} (h : Es w (.slice la l.length lc) l) (k : Nat) (hk : k < l.length) :
    ∃ g off uo uc, la = some ⟨g, off, none⟩ ∧ w.cell? ⟨g, off + k * 3, none⟩ = some (.int .u64 (l[k]).i) ∧ w.cell? ⟨g, off + k * 3 + 1, none⟩ = some (.int .u64 (l[k]).t) ∧ w.cell? ⟨g, off + k * 3 + 2, none⟩ = some (.slice uo (l[k]).b.length uc) ∧ BtT w (.slice uo (l[k]).b.length uc) (l[k]).b := by
  obtain ⟨us, u1, ⟨y1, y2, ao', cap', hv, y3, y4, y7, y5⟩, hT, hu⟩ := h
  cases hv
  obtain ⟨g, off, rfl, hcc⟩ := y5.resolve_left (by omega)
  obtain ⟨u, hu1, hu2⟩ := hu k hk
  obtain ⟨e0, e1, e2⟩ := enCells_at l us u1 k hk u hu1
  obtain ⟨uo, uc, rfl⟩ : ∃ uo uc, u = .slice uo (l[k]).b.length uc := by
    obtain ⟨⟨_, _, uo, uc, rfl, _⟩, _⟩ := hu2
    exact ⟨_, _, rfl⟩
  exact ⟨g, off, uo, uc, rfl, hcc _ _ e0, by rw [Nat.add_assoc]; exact hcc _ _ e1, by rw [Nat.add_assoc]; exact hcc _ _ e2, hu2⟩
theorem EsX.cells {n : Nat} {w : World} {la : Option Addr} {lc : Nat} {l : List Ent} (h : EsX n w (.slice la l.length lc) l) (k : Nat) (hk : k < l.length) :
    ∃ g off uo uc, la = some ⟨g, off, none⟩ ∧ w.cell? ⟨g, off + k * 3, none⟩ = some (.int .u64 (l[k]).i) ∧ w.cell? ⟨g, off + k * 3 + 1, none⟩ = some (.int .u64 (l[k]).t) ∧ w.cell? ⟨g, off + k * 3 + 2, none⟩ = some (.slice uo (l[k]).b.length uc) ∧ BtX n w (.slice uo (l[k]).b.length uc) (l[k]).b := by
  obtain ⟨us, u1, ⟨y1, y2, ao', cap', hv, y3, y4, y7, y5⟩, hT, hu⟩ := h
  cases hv
  obtain ⟨g, off, rfl, hcc⟩ := y5.resolve_left (by omega)
  obtain ⟨u, hu1, hu2⟩ := hu k hk
  obtain ⟨e0, e1, e2⟩ := enCells_at l us u1 k hk u hu1
  obtain ⟨uo, uc, rfl⟩ : ∃ uo uc, u = .slice uo (l[k]).b.length uc := by
    obtain ⟨⟨_, _, uo, uc, rfl, _⟩, _⟩ := hu2
    exact ⟨_, _, rfl⟩
  exact ⟨g, off, uo, uc, rfl, hcc _ _ e0, by rw [Nat.add_assoc]; exact hcc _ _ e1, by rw [Nat.add_assoc]; exact hcc _ _ e2, hu2⟩
theorem Es.cap {w : World} {la : Option Addr} {lc : Nat} {l : List Ent} (h : Es w (.slice la l.length lc) l) : l.length ≤ lc ∧ lc ≤ maxLen := by
  obtain ⟨us, u1, ⟨y1, y2, ao', cap', hv, y3, y4, y7, y5⟩, hT, hu⟩ := h
  cases hv
  exact ⟨y3, y4⟩
theorem EsX.cap {n : Nat} {w : World} {la : Option Addr} {lc : Nat} {l : List Ent} (h : EsX n w (.slice la l.length lc) l) : l.length ≤ lc ∧ lc ≤ maxLen := by
  obtain ⟨us, u1, ⟨y1, y2, ao', cap', hv, y3, y4, y7, y5⟩, hT, hu⟩ := h
  cases hv
  exact ⟨y3, y4⟩

/-- may these entries come, the last index being o's? -/
def goodI : Option Nat → List Ent → Bool
  | _, [] => true
  | o, x :: r => if x.i = 0 then false else match o with
    | none => goodI (some x.i) r
    | some p => if (p + 1) % 18446744073709551616 < x.i then false else goodI (some x.i) r
/-- the entries written, one by one -/
def appW : List Ent → List (List UInt8 × Fil) → List Seg → List Ent → Nat × List (List UInt8 × Fil) × List Seg × List Ent
  | [], D, ss, l => (0, D, ss, l)
  | x :: r, D, ss, l => if wErr ss x D = 0 then appW r (wDisk ss x D) (wSegs ss x.i) (putE l x) else (wErr ss x D, wDisk ss x D, ss, l)
def lastI (l : List Ent) : Option Nat := l.getLast?.map (·.i)
def appR (arg : List Ent) (D : List (List UInt8 × Fil)) (ss : List Seg) (l : List Ent) : Nat × List (List UInt8 × Fil) × List Seg × List Ent :=
  if goodI (lastI l) arg = true then (if ∀ x ∈ arg, x.b.length ≤ 2000 then appW arg D ss l else (3, D, ss, l)) else (2, D, ss, l)

theorem Dg.wDisk {N : Nat} {D : List (List UInt8 × Fil)} (h : Dg N D) (ss : List Seg) (x : Ent) : Dg (N + 2) (wDisk ss x D) := by
  have h1 : Dg (N + 1) (wPre ss D) := by
    unfold wPre
    split
    · exact h.mono (by omega)
    · split
      · exact h.sync _
      · exact h.mono (by omega)
  unfold YtpcipfnahknngaaGreatDoor.wDisk
  split
  · exact h1.mono (by omega)
  · exact h1.append _ _
theorem wSegs_ok {ss : List Seg} (h : SgOk ss) (x : Ent) (D : List (List UInt8 × Fil)) (he : wErr ss x D = 0) : SgOk (wSegs ss x.i) ∧ (wSegs ss x.i).length ≤ ss.length + 1 := by
  have hn : ¬ 99999999 < wNum ss := fun hc => by
    unfold wErr at he
    rw [if_pos hc] at he
    cases he
  rcases List.eq_nil_or_concat ss with rfl | ⟨ss0, s, rfl⟩
  · exact ⟨fun s hs => by simp [wSegs] at hs; subst hs; exact ⟨by simp, by simp, by simp⟩, by simp [wSegs]⟩
  · rw [List.concat_eq_append] at h hn ⊢
    have hl1 : (ss0 ++ [s]).getLast? = some s := by simp
    unfold wSegs
    unfold wNum at hn
    rw [hl1] at hn ⊢
    simp only at hn ⊢
    have hs := h s (by simp)
    by_cases hf : 8 ≤ s.at_.length
    · rw [if_pos hf] at hn ⊢
      refine ⟨fun y hy => ?_, by simp⟩
      rcases List.mem_append.1 hy with hy | hy
      · exact h y hy
      · simp at hy; subst hy; exact ⟨by simp, by simp; omega, by simp⟩
    · rw [if_neg hf] at hn ⊢
      refine ⟨fun y hy => ?_, by simp⟩
      simp only [List.dropLast_concat, List.mem_append, List.mem_singleton] at hy
      rcases hy with hy | hy
      · exact h y (by simp [hy])
      · subst hy; exact ⟨hs.1, hs.2.1, by simp; omega⟩
theorem putE_len (l : List Ent) (x : Ent) : (putE l x).length ≤ l.length + 1 := by
  unfold putE
  simp
  omega

/-- the code that begins with a region, and all behind it -/
def startsAt (k : Nat) : Code → Bool
  | .region j _ _ => j == k
  | .seq a _ => startsAt k a
  | .block _ c => startsAt k c
  | .loop c => startsAt k c
  | _ => false
def fromStart (k : Nat) : Code → Option Code
  | .seq a b => if startsAt k a then some (.seq a b) else match fromStart k a with
    | some c => some c
    | none => fromStart k b
  | .cond _ a b => match fromStart k a with
    | some c => some c
    | none => fromStart k b
  | .loop c => fromStart k c
  | .block _ c => fromStart k c
  | _ => none
theorem WlE.below {n0 : Nat} {w w' : World} {q d mb : Nat} {D : List (List UInt8 × Fil)} {ss : List Seg} {l : List Ent} (h : WlE n0 w q d mb D ss l) {B : Nat} (hb : Below B w w') (hB : w.heap.size ≤ B) : WlE n0 w' q d mb D ss l := by
  obtain ⟨sa, sc, la, lc, h⟩ := h
  exact ⟨sa, sc, la, lc, h.below hb hB⟩
theorem wrap64 (p : Nat) : IntKind.u64.wrap ((p : Int) + 1) = (((p + 1) % 18446744073709551616 : Nat) : Int) := by simp [IntKind.wrap, IntKind.bits, IntKind.signed]
noncomputable def loops12 : Code := ((Tryz.f12.body.bind (fromStart 6)).getD .skip)

set_option maxRecDepth 1000000 in
set_option maxHeartbeats 6400000 in
theorem tail12 (n0 q d mb N : Nat) (D : List (List UInt8 × Fil)) (ss : List Seg) (l arg : List Ent) (o : Option Nat) (ao : Option Addr) (ac : Nat) (w : World) (P : Ending → World → Prop) (u2 u3 u4 u7 u8 u9 u10 u11 u12 u13 u14 u15 u16 u17 u18 u19 u20 u21 u22 u23 u24 u25 u26 u27 u28 u29 u30 u31 u32 u33 u34 u35 u36 u37 u38 u39 u40 u41 u42 u43 u44 u45 u46 u47 u48 u49 u50 u51 u52 u53 u54 u55 u56 u57 u58 u59 u60 u61 u62 u63 u64 u65 u66 u67 u68 u69 u70 u71 u72 u73 u74 u75 u76 u77 u78 u79 u80 u81 u82 : Value)
    (h : WlE n0 w q d mb D ss l) (hn2 : 2 < n0) (harg : EsX n0 w (.slice ao arg.length ac) arg) (hx : ∀ x ∈ arg, x.ok) (ho : ∀ p, o = some p → p < 18446744073709551616) (htab : PowTab w) (hg : Dg N D) (hN : N < 400000) (hok : SgOk ss) (hss : ss.length < 400000000) (hl : l.length < 400000000) (ha : arg.length < 100000)
    (hP1 : goodI o arg = false → ∀ w', Below w.heap.size w w' → P (.returned (.int .i64 2)) w')
    (hP2 : goodI o arg = true → (¬ ∀ x ∈ arg, x.b.length ≤ 2000) → ∀ w', Below w.heap.size w w' → P (.returned (.int .i64 3)) w')
    (hP3 : goodI o arg = true → (∀ x ∈ arg, x.b.length ≤ 2000) → ∀ w', Fr walT w w' → Lo n0 mb w w' → WlE n0 w' q d mb (appW arg D ss l).2.1 (appW arg D ss l).2.2.1 (appW arg D ss l).2.2.2 → P (.returned (.int .i64 (appW arg D ss l).1)) w') :
    Code.wp Tryz.prog loops12 (bodyPost Tryz.prog Tryz.f12 P) ⟨#[.pointer (some ⟨q, 0, none⟩), .slice ao arg.length ac, u2, u3, u4, .int .u64 (o.getD 0), .bool o.isSome, u7, u8, u9, u10, u11, u12, u13, u14, u15, u16, u17, u18, u19, u20, u21, u22, u23, u24, u25, u26, u27, u28, u29, u30, u31, u32, u33, u34, u35, u36, u37, u38, u39, u40, u41, u42, u43, u44, u45, u46, u47, u48, u49, u50, u51, u52, u53, u54, u55, u56, u57, u58, u59, u60, u61, u62, u63, u64, u65, u66, u67, u68, u69, u70, u71, u72, u73, u74, u75, u76, u77, u78, u79, u80, u81, u82], []⟩ w := by
  have HARG := Lib.hid harg
  have HX := Lib.hid hx
  have HW := Lib.hid h
  have HT := Lib.hid htab
  have HG := Lib.hid hg
  have HO := Lib.hid ho
  have HP1 := Lib.hid hP1
  have HP2 := Lib.hid hP2
  have HP3 := Lib.hid hP3
  have HOK := Lib.hid hok
  obtain ⟨hac1, hac2⟩ := harg.cap
  unfold maxLen at hac2
  clear h harg hx htab hg ho hP1 hP2 hP3 hok
  conv => arg 4; zeta
  conv => arg 2; whnf
  go_wp2
  go_loopw [5, 6, 39] (fun v5 v6 i wr => ∃ (k : Nat) (p : Option Nat), k ≤ arg.length ∧ i = .int .i64 k ∧ v5 = .int .u64 (p.getD 0) ∧ v6 = .bool p.isSome ∧ Hid (goodI o arg = goodI p (arg.drop k)) ∧ Hid (∀ x, p = some x → x < 18446744073709551616) ∧ Hid (Below w.heap.size w wr)) (fun _ _ i _ => arg.length - (intOf i).toNat)
  case atStart => exact ⟨0, o, Nat.zero_le _, rfl, rfl, rfl, Lib.hid rfl, HO, Lib.hid (Below.refl _ _)⟩
  case round =>
    obtain ⟨k, p, hk, rfl, rfl, rfl, HGD, HPO, HBL⟩ := hrel
    by_cases hlt : k < arg.length
    · obtain ⟨g, off, uo, uc, rfl, e0, e1, e2, hbt⟩ := HARG.out.cells k hlt
      have HE := Lib.hid (show arg.drop k = arg[k] :: arg.drop (k + 1) from List.drop_eq_getElem_cons hlt)
      have HXK := Lib.hid (HX.out _ (List.getElem_mem hlt))
      obtain ⟨x, hxx⟩ : ∃ x, x = arg[k] := ⟨_, rfl⟩
      have HXX := Lib.hid hxx
      rw [← hxx] at e0 e1 e2 hbt HE HXK
      clear hxx hbt
      have mv : ∀ {a : Addr} {y : Value}, w.cell? a = some y → wr.cell? a = some y := fun {a y} h => by
        rw [HBL.out.cell (p := a) (World.block_lt_of_cell? w _ h)]; exact h
      have d0 := mv e0
      have d1 := mv e1
      have d2 := mv e2
      clear mv e0 e1 e2
      have BA : Below w.heap.size w (wr.alloc (Obj.cells #[Value.int .u64 x.i, Value.int .u64 x.t, Value.slice uo x.b.length uc] 25)) := HBL.out.alloc HBL.out.size _
      have HBA := Lib.hid BA
      clear BA
      by_cases hi : x.i = 0
      · have hi2 : ((x.i : Int) == 0) = true := by simp [hi]
        have HI := Lib.hid hi
        clear hi
        go_wp2
        show P (.returned (.int .i64 2)) _
        exact HP1.out (by rw [HGD.out, HE.out]; unfold goodI; rw [if_pos HI.out]) _ HBA.out
      · have hi2 : ((x.i : Int) == 0) = false := by simp [hi]
        have HI := Lib.hid hi
        clear hi
        rcases p with _ | pv
        · have HG2 : Hid (goodI o arg = goodI (some x.i) (arg.drop (k + 1))) := Lib.hid (by rw [HGD.out, HE.out, goodI, if_neg HI.out])
          go_wp2
          go_roundw
          case rel => exact ⟨k + 1, some x.i, by omega, by go_num, rfl, rfl, HG2, Lib.hid (fun y hy => by cases hy; exact HXK.out.1), HBA⟩
          case measure => simp [intOf]; omega
        · have hwr := wrap64 pv
          obtain ⟨m, hm⟩ : ∃ m, m = (pv + 1) % 18446744073709551616 := ⟨_, rfl⟩
          rw [← hm] at hwr
          have HM := Lib.hid hm
          clear hm
          by_cases hlt2 : m < x.i
          · have hd : decide ((m : Int) < (x.i : Int)) = true := decide_eq_true (by omega)
            have hlt3 : (m : Int) < (x.i : Int) := by omega
            go_wp2
            show P (.returned (.int .i64 2)) _
            exact HP1.out (by rw [HGD.out, HE.out]; unfold goodI; rw [if_neg HI.out]; simp only; rw [← HM.out, if_pos hlt2]) _ HBA.out
          · have hd : decide ((m : Int) < (x.i : Int)) = false := decide_eq_false (by omega)
            have hlt3 : ¬ (m : Int) < (x.i : Int) := by omega
            have HG2 : Hid (goodI o arg = goodI (some x.i) (arg.drop (k + 1))) := Lib.hid (by rw [HGD.out, HE.out, goodI, if_neg HI.out]; rw [← HM.out, if_neg hlt2])
            go_wp2
            go_roundw
            case rel => exact ⟨k + 1, some x.i, by omega, by go_num, rfl, rfl, HG2, Lib.hid (fun y hy => by cases hy; exact HXK.out.1), HBA⟩
            case measure => simp [intOf]; omega
    · have hkl : k = arg.length := by omega
      have HGT : Hid (goodI o arg = true) := Lib.hid (by rw [HGD.out, hkl, List.drop_length]; rfl)
      clear HGD HPO
      subst hkl
      go_wp2
      go_loopw [61] (fun i wr => ∃ (k : Nat), k ≤ arg.length ∧ i = .int .i64 k ∧ Hid (∀ j (h : j < arg.length), j < k → (arg[j]).b.length ≤ 2000) ∧ Hid (Below w.heap.size w wr)) (fun i _ => arg.length - (intOf i).toNat)
      case atStart => exact ⟨0, Nat.zero_le _, rfl, Lib.hid (fun j _ h => by omega), HBL⟩
      case round =>
        obtain ⟨k, hk, rfl, HSH, HBL2⟩ := hrel
        by_cases hlt : k < arg.length
        · obtain ⟨g, off, uo, uc, rfl, e0, e1, e2, hbt⟩ := HARG.out.cells k hlt
          obtain ⟨x, hxx⟩ : ∃ x, x = arg[k] := ⟨_, rfl⟩
          have HXX := Lib.hid hxx
          rw [← hxx] at e0 e1 e2 hbt
          clear hxx hbt
          have mv : ∀ {a : Addr} {y : Value}, w.cell? a = some y → wr.cell? a = some y := fun {a y} h => by
            rw [HBL2.out.cell (p := a) (World.block_lt_of_cell? w _ h)]; exact h
          have d0 := mv e0
          have d1 := mv e1
          have d2 := mv e2
          clear mv e0 e1 e2
          have HBA := Lib.hid (HBL2.out.alloc HBL2.out.size (Obj.cells #[Value.int .u64 x.i, Value.int .u64 x.t, Value.slice uo x.b.length uc] 25))
          by_cases h2 : 2000 < x.b.length
          · have hd : decide ((2000 : Int) < (x.b.length : Int)) = true := decide_eq_true (by omega)
            go_wp2
            show P (.returned (.int .i64 3)) _
            exact HP2.out HGT.out (fun hall => by have := hall _ (List.getElem_mem hlt); rw [← HXX.out] at this; omega) _ HBA.out
          · have hd : decide ((2000 : Int) < (x.b.length : Int)) = false := decide_eq_false (by omega)
            go_wp2
            go_roundw
            case rel => exact ⟨k + 1, by omega, by go_num, Lib.hid (fun j hj hjk => by
              by_cases e : j = k
              · subst e; rw [← HXX.out]; omega
              · exact HSH.out j hj (by omega)), HBA⟩
            case measure => simp [intOf]; omega
        · have hkl : k = arg.length := by omega
          subst hkl
          have HSHT : Hid (∀ x ∈ arg, x.b.length ≤ 2000) := Lib.hid (fun x hx => by
            obtain ⟨j, hj, rfl⟩ := List.getElem_of_mem hx
            exact HSH.out j hj hj)
          clear HSH HBL
          go_wp2
          go_loopw [72] (fun i wr => ∃ (k N' : Nat) (D' : List (List UInt8 × Fil)) (ss' : List Seg) (l' : List Ent), k ≤ arg.length ∧ i = .int .i64 k ∧ Hid (appW arg D ss l = appW (arg.drop k) D' ss' l') ∧ Hid (Fr walT w wr ∧ Lo n0 mb w wr ∧ WlE n0 wr q d mb D' ss' l') ∧ Hid (Dg N' D' ∧ N' ≤ N + 2 * k ∧ SgOk ss' ∧ ss'.length ≤ ss.length + k ∧ l'.length ≤ l.length + k)) (fun i _ => arg.length - (intOf i).toNat)
          case atStart => exact ⟨0, N, D, ss, l, Nat.zero_le _, rfl, Lib.hid rfl, Lib.hid ⟨Fr.of_below HBL2.out (Nat.le_refl _), Lo.blw HBL2.out (Nat.le_refl _), HW.out.below HBL2.out (Nat.le_refl _)⟩, Lib.hid ⟨HG.out, by omega, HOK.out, by omega, by omega⟩⟩
          case round =>
            obtain ⟨k, N', D', ss', l', hk, rfl, HAP, HST, HBD⟩ := hrel
            by_cases hlt : k < arg.length
            · have w25 : ¬ walT 25 := by unfold walT; decide
              have w5 : ¬ walT 5 := by unfold walT; decide
              obtain ⟨g, off, uo, uc, rfl, e0, e1, e2, hbt⟩ := (HARG.out.go HST.out.1 w5 w25 HST.out.2.1).cells k hlt
              have HE := Lib.hid (show arg.drop k = arg[k] :: arg.drop (k + 1) from List.drop_eq_getElem_cons hlt)
              have HXK := Lib.hid (HX.out _ (List.getElem_mem hlt))
              have HX2 := Lib.hid (HSHT.out _ (List.getElem_mem hlt))
              have hi0 : (arg[k]).i ≠ 0 := by
                have h1 := HGT.out
                have H : ∀ (a : List Ent) (p : Option Nat), goodI p a = true → ∀ x ∈ a, x.i ≠ 0 := by
                  intro a
                  induction a with
                  | nil => intro p _ x hx; simp at hx
                  | cons y r ih =>
                    intro p hp x hx
                    unfold goodI at hp
                    by_cases hy : y.i = 0
                    · rw [if_pos hy] at hp; cases hp
                    · rw [if_neg hy] at hp
                      have hr : ∃ p', goodI p' r = true := by
                        split at hp
                        · exact ⟨_, hp⟩
                        · split at hp
                          · cases hp
                          · exact ⟨_, hp⟩
                      rcases List.mem_cons.1 hx with rfl | hx
                      · exact hy
                      · exact ih _ hr.choose_spec x hx
                exact H arg o h1 _ (List.getElem_mem hlt)
              have HI0 := Lib.hid hi0
              obtain ⟨x, hxx⟩ : ∃ x, x = arg[k] := ⟨_, rfl⟩
              rw [← hxx] at e0 e1 e2 hbt HE HXK HX2 HI0
              clear hxx hi0
              have BA : Below wr.heap.size wr (wr.alloc (Obj.cells #[Value.int .u64 x.i, Value.int .u64 x.t, Value.slice uo x.b.length uc] 25)) := (Below.refl wr.heap.size wr).alloc (Nat.le_refl _) _
              obtain ⟨b1, b2, b3, b4, b5⟩ := HBD.out
              have hw49 := write49 n0 q d mb N' D' ss' l' x (.slice uo x.b.length uc) _ (HST.out.2.2.below BA (Nat.le_refl _)) hn2 HXK.out HI0.out HX2.out (hbt.fr0 (Fr.of_below BA (Nat.le_refl _))) ((HT.out.lo HST.out.2.1 hn2).below BA (Nat.le_refl _)) b1 (by omega) b3 (by omega) (by omega)
              have HBA := Lib.hid BA
              clear BA hbt b1 b3
              by_cases he : wErr ss' x D' = 0
              · rw [he, if_pos rfl, if_pos rfl, show ((0 : Nat) : Int) = 0 from rfl] at hw49
                have HW49 := Lib.hid hw49
                have HEE := Lib.hid he
                clear hw49 he
                go_wp2_with (go_at_call 49; refine HW49.out.mono ?_; rintro e w2 ⟨rfl, f2, lo2, hw2⟩)
                have HS2 : Hid (Fr walT w w2 ∧ Lo n0 mb w w2 ∧ WlE n0 w2 q d mb (wDisk ss' x D') (wSegs ss' x.i) (putE l' x)) := Lib.hid ⟨(HST.out.1.trans (Fr.of_below HBA.out (Nat.le_refl _))).trans f2, (HST.out.2.1.trans (Lo.blw HBA.out (Nat.le_refl _))).trans lo2, hw2⟩
                have HA2 : Hid (appW arg D ss l = appW (arg.drop (k + 1)) (wDisk ss' x D') (wSegs ss' x.i) (putE l' x)) := Lib.hid (by rw [HAP.out, HE.out, appW, if_pos HEE.out])
                clear f2 lo2 hw2
                go_roundw
                case rel =>
                  refine ⟨k + 1, N' + 2, wDisk ss' x D', wSegs ss' x.i, putE l' x, by omega, by go_num, HA2, HS2, ?_⟩
                  obtain ⟨b1, b2, b3, b4, b5⟩ := HBD.out
                  have hs := wSegs_ok b3 x D' HEE.out
                  have hp := putE_len l' x
                  exact Lib.hid ⟨b1.wDisk ss' x, by omega, hs.1, by omega, by omega⟩
                case measure => simp [intOf]; omega
              · rw [if_neg he, if_neg he] at hw49
                obtain ⟨m, hm⟩ : ∃ m, m = wErr ss' x D' := ⟨_, rfl⟩
                rw [← hm] at hw49 he
                have hne : ((m : Int) != 0) = true := by simp; omega
                have HW49 := Lib.hid hw49
                have HEE := Lib.hid he
                have HM := Lib.hid hm
                clear hw49 he hm
                go_wp2_with (go_at_call 49; refine HW49.out.mono ?_; rintro e w2 ⟨rfl, f2, lo2, hw2⟩)
                show P (.returned (.int .i64 m)) _
                have HA2 : appW arg D ss l = (m, wDisk ss' x D', ss', l') := by rw [HAP.out, HE.out, appW, ← HM.out, if_neg HEE.out]
                have := HP3.out HGT.out HSHT.out w2 ((HST.out.1.trans (Fr.of_below HBA.out (Nat.le_refl _))).trans f2) ((HST.out.2.1.trans (Lo.blw HBA.out (Nat.le_refl _))).trans lo2)
                rw [HA2] at this
                exact this hw2
            · have hkl : k = arg.length := by omega
              subst hkl
              have HEND : Hid (appW arg D ss l = (0, D', ss', l')) := Lib.hid (by rw [HAP.out, List.drop_length]; rfl)
              go_wp2
              show P (.returned (.int .i64 0)) _
              have := HP3.out HGT.out HSHT.out _ HST.out.1 HST.out.2.1
              rw [HEND.out] at this
              exact this HST.out.2.2
end Go.Proofs.YtpcipfnahknngaaGreatDoor

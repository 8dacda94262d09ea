/- Texts of seat wal in one: DiskNames DiskOps DiskRep DiskCopy WalNil Dg. No statement of the seat. -/
import Derived.Test.YtpcipfnahknngaaGreatDoorMaDsk
import Derived.Test.YtpcipfnahknngaaGreatDoorIter
import Derived.Laws.Externs
import Derived.MapKept
/- Contracts of disk.names and what leans on it. No statement of the seat. -/
namespace Go.Proofs.YtpcipfnahknngaaGreatDoor
open Go.RowKit Go.Maps

/-- names as cells -/
def sv (l : List (List UInt8)) : List Value := l.map fun k => .string (tx k)
theorem sv_one (l : List (List UInt8)) : ∀ u ∈ sv l, u.oneCell' = true := by
  intro u hu
  simp only [sv, List.mem_map] at hu
  obtain ⟨b, _, rfl⟩ := hu
  rfl
@[simp] theorem sv_length (l : List (List UInt8)) : (sv l).length = l.length := by simp [sv]
theorem sv_get (l : List (List UInt8)) (j : Nat) (h : j < l.length) : (sv l)[j]? = some (.string (tx l[j])) := by simp [sv, h]
@[simp] theorem sv_append (l m : List (List UInt8)) : sv (l ++ m) = sv l ++ sv m := by simp [sv]
/-- the names of D, sorted; those that p takes -/
def keysS {α : Type} (D : List (List UInt8 × α)) : List (List UInt8) := (D.map (·.1)).mergeSort (fun x y => decide (x ≤ y))
def namesS (p : Fil → Bool) (D : List (List UInt8 × Fil)) : List (List UInt8) := (keysS D).filter fun k => p ((getK k D).getD noFil)

theorem strKeys_mpD (l : List (List UInt8 × Value)) : strKeys (mpD l) = l.map (·.1) := by
  unfold strKeys mpD
  simp only [List.map_map]
  rfl

set_option maxRecDepth 100000 in
theorem isNow83 (v : Value) (f : Fil) (w : World) (hv : FilT w v f) : Calls Tryz.prog 83 #[v] w fun e w' => e = .returned (.bool f.isNow) ∧ Below w.heap.size w w' := by
  obtain ⟨sa, sc, na, nc, la, lc, rfl, t1, t2, t3⟩ := hv
  clear t1 t2 t3
  go_enter Tryz.func83, Tryz.ntmps83
  go_wp2
  go_ret
  exact ⟨rfl, (Below.refl _ _).alloc (Nat.le_refl _) _⟩
set_option maxRecDepth 100000 in
theorem loose79 (v : Value) (f : Fil) (w : World) (hv : FilT w v f) : Calls Tryz.prog 79 #[v] w fun e w' => e = .returned (.bool (decide (0 < f.loose.length))) ∧ Below w.heap.size w w' := by
  obtain ⟨sa, sc, na, nc, la, lc, rfl, t1, t2, t3⟩ := hv
  clear t1 t2 t3
  go_enter Tryz.func79, Tryz.ntmps79
  go_wp2
  go_ret
  exact ⟨by simp, (Below.refl _ _).alloc (Nat.le_refl _) _⟩

/-- slices.Sorted(maps.Keys(d.l)) -/
theorem sorted99 (d mb : Nat) (D : List (List UInt8 × Fil)) (w : World) (h : Dp w d mb D) (hn : D.length < 1000000000) :
    Calls Tryz.prog 99 #[.func (.func 116) #[] #[.pointer (some ⟨w.heap.size, 0, none⟩)]] (w.alloc (.cells #[.map (some mb)] 89)) fun e w' => ∃ v, e = .returned v ∧
      w'.ownsRow w.heap.size 9 1 v (keysS D).length (sv (keysS D)) ∧ Below w.heap.size w w' := by
  obtain ⟨l, h1, h2⟩ := h.2
  have hsz : Maps.size (mpD l) = D.length := by
    unfold mpD
    rw [Maps.size_eq, List.length_map]
    exact h2.length
  refine (callsIn_wide.1 (Tryz.slices_Sorted_keys_99_100 mb _ (mpD l) RV w h1 (by rw [hsz]; unfold maxLen; omega) (by rw [hsz]; omega))).mono ?_
  rintro e w' ⟨v, ss, rfl, hp, hown, _, hb⟩
  have hk : (ss.mergeSort fun x y => decide (x ≤ y)) = keysS D := by
    rw [strKeys_mpD, h2.keys] at hp
    exact mergeSort_of_perm hp
  have hl : ss.length = (keysS D).length := by rw [← hk, List.length_mergeSort]
  rw [hk, hl] at hown
  exact ⟨v, rfl, hown.base (by simp), ((Below.refl _ _).alloc (Nat.le_refl _) _).trans (hb.mono (by simp))⟩

/-- a name, in a new block -/
theorem Sv.one (w : World) (k : List UInt8) (g : Nat) (hg : g = w.heap.size) : Sl (w.alloc (.cells #[.string (tx k)] 9)) 1 (.slice (some ⟨g, 0, none⟩) 1 1) 1 [.string (tx k)] := by
  subst hg
  refine ⟨by simp, (fun u hu => by simp only [List.mem_singleton] at hu; subst hu; rfl), some ⟨w.heap.size, 0, none⟩, 1, rfl, Nat.le_refl _, by decide, (fun h => by cases h), Or.inr ⟨w.heap.size, 0, rfl, fun j u hj => ?_⟩⟩
  match j, hj with
  | 0, hj =>
    cases hj
    rw [World.cell?_alloc_at _ _ _ _ rfl]
    rfl
theorem info9 : (Tryz.prog.info? 9).map (fun i => (i.zero, i.size, i.bytes)) = some (some (.string ⟨#[]⟩), 1, 16) := by kernel_rfl
theorem own_below {w w' : World} {B B' : Nat} {e : TypeId} {sz : Nat} {v : Value} {n : Nat} {xs : List Value} (h : w.ownsRow B e sz v n xs) (hb : Below B' w w') (hB : w.heap.size ≤ B') : w'.ownsRow B e sz v n xs := by
  refine ⟨h.1, ?_⟩
  rcases h.2 with h2 | ⟨g, cap, cur, h3, h4, h5, r⟩
  · exact Or.inl h2
  · exact Or.inr ⟨g, cap, cur, h3, h4, (hb.block g (Nat.lt_of_lt_of_le (lt_of_get h5) hB)).trans h5, r⟩
def nf (p : Fil → Bool) (D : List (List UInt8 × Fil)) (ks : List (List UInt8)) (k : Nat) : List (List UInt8) := (ks.take k).filter fun k => p ((getK k D).getD noFil)
theorem nf_yes {p : Fil → Bool} {D : List (List UInt8 × Fil)} {ks : List (List UInt8)} {k : Nat} (h : k < ks.length) (hp : p ((getK ks[k] D).getD noFil) = true) : nf p D ks (k + 1) = nf p D ks k ++ [ks[k]] := by
  unfold nf
  rw [List.take_succ_eq_append_getElem h, List.filter_append]
  simp [hp]
theorem nf_no {p : Fil → Bool} {D : List (List UInt8 × Fil)} {ks : List (List UInt8)} {k : Nat} (h : k < ks.length) (hp : p ((getK ks[k] D).getD noFil) = false) : nf p D ks (k + 1) = nf p D ks k := by
  unfold nf
  rw [List.take_succ_eq_append_getElem h, List.filter_append]
  simp [hp]
theorem nf_all (p : Fil → Bool) (D : List (List UInt8 × Fil)) (ks : List (List UInt8)) : nf p D ks ks.length = ks.filter fun k => p ((getK k D).getD noFil) := by
  unfold nf
  rw [List.take_length]
theorem nf_le (p : Fil → Bool) (D : List (List UInt8 × Fil)) (ks : List (List UInt8)) (k : Nat) : (nf p D ks k).length ≤ ks.length := by
  unfold nf
  refine Nat.le_trans (List.length_filter_le _ _) ?_
  simp; omega

/-! ### names -/

set_option maxRecDepth 100000 in
set_option maxHeartbeats 1600000 in
theorem names78_83 (d mb : Nat) (D : List (List UInt8 × Fil)) (w : World) (h : Dp w d mb D) (hn : D.length < 1000000000) (hk : ∀ k ∈ keysS D, k.length ≤ 64) :
    Calls Tryz.prog 78 #[.pointer (some ⟨d, 0, none⟩), .func (.func 83) #[] #[]] w fun e w' => ∃ v, e = .returned v ∧
      w'.ownsRow w.heap.size 9 1 v (namesS (fun f => f.isNow) D).length (sv (namesS (fun f => f.isNow) D)) ∧ Below w.heap.size w w' := by
  obtain ⟨ks, hks⟩ : ∃ ks, ks = keysS D := ⟨_, rfl⟩
  have hlen : ks.length = D.length := by rw [hks]; unfold keysS; simp
  unfold namesS
  rw [← hks] at hk ⊢
  have HS := Lib.hid hks
  clear hks
  have hc := h.cell
  have HN := Lib.hid hn
  have HL := Lib.hid hlen
  clear hlen
  have hb0 := (Below.refl w.heap.size w).alloc (Nat.le_refl _) (Obj.cells #[Value.map (some mb)] 89)
  have HH := Lib.hid h
  go_enter Tryz.func78, Tryz.ntmps78
  go_wp2_with (first
    | (go_at_call 81; (with_reducible refine (there81 d mb D _ HH.out).mono ?_); rintro e w1 ⟨rfl, rfl⟩)
    | (go_at_call 100; (with_reducible refine (callsIn_wide.1 (Tryz.maps_Keys_100 (some mb) _)).mono ?_); rintro e w1 ⟨rfl, rfl⟩)
    | (go_at_call 99; (with_reducible refine (sorted99 d mb D _ HH.out HN.out).mono ?_); rintro e w1 ⟨v1, rfl, hown, hb1⟩; rw [← HS.out] at hown; obtain ⟨ao, cap, rfl⟩ := own_shape hown))
  have HO := Lib.hid (Sl.of_own hown (sv_one _))
  obtain ⟨_, _, _, _, hv, y3, y4, y6, y5⟩ := HO.out
  cases hv
  have Y5 := Lib.hid y5
  clear y5 y6 HO
  go_loopw [5, 18] (fun v i wr => ∃ k : Nat, k ≤ ks.length ∧ i = .int .i64 k ∧ wr.ownsRow w1.heap.size 9 1 v (nf (fun f => f.isNow) D ks k).length (sv (nf (fun f => f.isNow) D ks k)) ∧ Below w1.heap.size w1 wr) (fun _ i _ => ks.length - (intOf i).toNat)
  case atStart => exact ⟨0, Nat.zero_le _, rfl, World.ownsRow_nil _ _ _ _, Below.refl _ _⟩
  case round =>
    obtain ⟨k, hk1, rfl, hown1, hbel1⟩ := hrel
    have hks9 : ks.length < 1000000000 := by rw [HL.out]; exact HN.out
    by_cases hlt : k < ks.length
    · obtain ⟨g, off, rfl, hcc⟩ := Y5.out.resolve_left (by omega)
      have d1 := hcc k _ (sv_get ks k hlt)
      rw [← hbel1.cell (p := ⟨g, off + k, none⟩) (World.block_lt_of_cell? w1 _ d1)] at d1
      have hDw := h.below (hb1.trans (hbel1.mono hb1.size)) (Nat.le_refl _)
      have hc1 := hDw.cell
      obtain ⟨f, hf⟩ : ∃ f, f = (getK ks[k] D).getD noFil := ⟨_, rfl⟩
      obtain ⟨sa, sc, na, nc, la, lc, hrun, _, hT⟩ := look_run _ mb D hDw.2 ks[k] (by have := hk ks[k] (List.getElem_mem hlt); unfold maxLen; omega)
      rw [← hf] at hrun hT
      obtain ⟨b, hb⟩ : ∃ b, b = (fun f : Fil => f.isNow) f := ⟨_, rfl⟩
      cases b with
      | false =>
        have hs := nf_no hlt (p := fun f => f.isNow) (D := D) (by rw [← hf]; exact hb.symm)
        have HSS := Lib.hid hs
        have HF := Lib.hid hf
        have HB := Lib.hid hb
        clear hs hf hb
        go_wp2_with (first | (go_at_call 83; (with_reducible refine (isNow83 _ _ _ hT).mono ?_); rintro e w2 ⟨rfl, hb2⟩; rw [← HB.out]))
        go_roundw
        case rel => exact ⟨k + 1, by omega, by go_num, by rw [HSS.out]; exact own_below hown1 hb2 (Nat.le_refl _), hbel1.trans (hb2.mono hbel1.size)⟩
        case measure => simp [intOf]; omega
      | true =>
        have hs := nf_yes hlt (p := fun f => f.isNow) (D := D) (by rw [← hf]; exact hb.symm)
        have HSS := Lib.hid hs
        have HF := Lib.hid hf
        have HB := Lib.hid hb
        have hle := nf_le (fun f => f.isNow) D ks k
        clear hs hf hb
        go_wp2_with (first
          | (go_at_call 83; (with_reducible refine (isNow83 _ _ _ hT).mono ?_); rintro e w2 ⟨rfl, hb2⟩; rw [← HB.out])
          | (at_builtin; refine wl_app rfl _ _ _ rfl w1.heap.size 9 _ 1 16 Tryz.underlying66 info9 rfl (by decide) _ _ _ rfl ((own_below hown1 hb2 (Nat.le_refl _)).alloc _) _ 1 [.string (tx ks[k])] rfl (Sv.one _ _ _ rfl) (by unfold maxLen; omega) (by omega) (by have := hbel1.size; have := hb2.size; simp; omega) ?_; intro v2 w3 hown2 hgrow2))
        go_roundw
        case rel =>
          have hbx := hbel1.trans (hb2.mono hbel1.size)
          exact ⟨k + 1, by omega, by go_num, by rw [HSS.out]; simpa [show sv [ks[k]] = [Value.string (tx ks[k])] from rfl] using hown2, (hbx.alloc hbx.size _).grown hgrow2 (by have := hbx.size; simp; omega) (fun b hb => (hown1.lt b hb).1)⟩
        case measure => simp [intOf]; omega
    · have hkl : k = ks.length := by omega
      subst hkl
      go_wp2
      go_ret
      rw [nf_all] at hown1
      exact ⟨_, rfl, hown1.base hb1.size, hb1.trans (hbel1.mono hb1.size)⟩

set_option maxRecDepth 100000 in
set_option maxHeartbeats 1600000 in
theorem names78_79 (d mb : Nat) (D : List (List UInt8 × Fil)) (w : World) (h : Dp w d mb D) (hn : D.length < 1000000000) (hk : ∀ k ∈ keysS D, k.length ≤ 64) :
    Calls Tryz.prog 78 #[.pointer (some ⟨d, 0, none⟩), .func (.func 79) #[] #[]] w fun e w' => ∃ v, e = .returned v ∧
      w'.ownsRow w.heap.size 9 1 v (namesS (fun f => decide (0 < f.loose.length)) D).length (sv (namesS (fun f => decide (0 < f.loose.length)) D)) ∧ Below w.heap.size w w' := by
  obtain ⟨ks, hks⟩ : ∃ ks, ks = keysS D := ⟨_, rfl⟩
  have hlen : ks.length = D.length := by rw [hks]; unfold keysS; simp
  unfold namesS
  rw [← hks] at hk ⊢
  have HS := Lib.hid hks
  clear hks
  have hc := h.cell
  have HN := Lib.hid hn
  have HL := Lib.hid hlen
  clear hlen
  have hb0 := (Below.refl w.heap.size w).alloc (Nat.le_refl _) (Obj.cells #[Value.map (some mb)] 89)
  have HH := Lib.hid h
  go_enter Tryz.func78, Tryz.ntmps78
  go_wp2_with (first
    | (go_at_call 81; (with_reducible refine (there81 d mb D _ HH.out).mono ?_); rintro e w1 ⟨rfl, rfl⟩)
    | (go_at_call 100; (with_reducible refine (callsIn_wide.1 (Tryz.maps_Keys_100 (some mb) _)).mono ?_); rintro e w1 ⟨rfl, rfl⟩)
    | (go_at_call 99; (with_reducible refine (sorted99 d mb D _ HH.out HN.out).mono ?_); rintro e w1 ⟨v1, rfl, hown, hb1⟩; rw [← HS.out] at hown; obtain ⟨ao, cap, rfl⟩ := own_shape hown))
  have HO := Lib.hid (Sl.of_own hown (sv_one _))
  obtain ⟨_, _, _, _, hv, y3, y4, y6, y5⟩ := HO.out
  cases hv
  have Y5 := Lib.hid y5
  clear y5 y6 HO
  go_loopw [5, 18] (fun v i wr => ∃ k : Nat, k ≤ ks.length ∧ i = .int .i64 k ∧ wr.ownsRow w1.heap.size 9 1 v (nf (fun f => decide (0 < f.loose.length)) D ks k).length (sv (nf (fun f => decide (0 < f.loose.length)) D ks k)) ∧ Below w1.heap.size w1 wr) (fun _ i _ => ks.length - (intOf i).toNat)
  case atStart => exact ⟨0, Nat.zero_le _, rfl, World.ownsRow_nil _ _ _ _, Below.refl _ _⟩
  case round =>
    obtain ⟨k, hk1, rfl, hown1, hbel1⟩ := hrel
    have hks9 : ks.length < 1000000000 := by rw [HL.out]; exact HN.out
    by_cases hlt : k < ks.length
    · obtain ⟨g, off, rfl, hcc⟩ := Y5.out.resolve_left (by omega)
      have d1 := hcc k _ (sv_get ks k hlt)
      rw [← hbel1.cell (p := ⟨g, off + k, none⟩) (World.block_lt_of_cell? w1 _ d1)] at d1
      have hDw := h.below (hb1.trans (hbel1.mono hb1.size)) (Nat.le_refl _)
      have hc1 := hDw.cell
      obtain ⟨f, hf⟩ : ∃ f, f = (getK ks[k] D).getD noFil := ⟨_, rfl⟩
      obtain ⟨sa, sc, na, nc, la, lc, hrun, _, hT⟩ := look_run _ mb D hDw.2 ks[k] (by have := hk ks[k] (List.getElem_mem hlt); unfold maxLen; omega)
      rw [← hf] at hrun hT
      obtain ⟨b, hb⟩ : ∃ b, b = (fun f : Fil => decide (0 < f.loose.length)) f := ⟨_, rfl⟩
      cases b with
      | false =>
        have hs := nf_no hlt (p := fun f => decide (0 < f.loose.length)) (D := D) (by rw [← hf]; exact hb.symm)
        have HSS := Lib.hid hs
        have HF := Lib.hid hf
        have HB := Lib.hid hb
        clear hs hf hb
        go_wp2_with (first | (go_at_call 79; (with_reducible refine (loose79 _ _ _ hT).mono ?_); rintro e w2 ⟨rfl, hb2⟩; rw [← HB.out]))
        go_roundw
        case rel => exact ⟨k + 1, by omega, by go_num, by rw [HSS.out]; exact own_below hown1 hb2 (Nat.le_refl _), hbel1.trans (hb2.mono hbel1.size)⟩
        case measure => simp [intOf]; omega
      | true =>
        have hs := nf_yes hlt (p := fun f => decide (0 < f.loose.length)) (D := D) (by rw [← hf]; exact hb.symm)
        have HSS := Lib.hid hs
        have HF := Lib.hid hf
        have HB := Lib.hid hb
        have hle := nf_le (fun f => decide (0 < f.loose.length)) D ks k
        clear hs hf hb
        go_wp2_with (first
          | (go_at_call 79; (with_reducible refine (loose79 _ _ _ hT).mono ?_); rintro e w2 ⟨rfl, hb2⟩; rw [← HB.out])
          | (at_builtin; refine wl_app rfl _ _ _ rfl w1.heap.size 9 _ 1 16 Tryz.underlying66 info9 rfl (by decide) _ _ _ rfl ((own_below hown1 hb2 (Nat.le_refl _)).alloc _) _ 1 [.string (tx ks[k])] rfl (Sv.one _ _ _ rfl) (by unfold maxLen; omega) (by omega) (by have := hbel1.size; have := hb2.size; simp; omega) ?_; intro v2 w3 hown2 hgrow2))
        go_roundw
        case rel =>
          have hbx := hbel1.trans (hb2.mono hbel1.size)
          exact ⟨k + 1, by omega, by go_num, by rw [HSS.out]; simpa [show sv [ks[k]] = [Value.string (tx ks[k])] from rfl] using hown2, (hbx.alloc hbx.size _).grown hgrow2 (by have := hbx.size; simp; omega) (fun b hb => (hown1.lt b hb).1)⟩
        case measure => simp [intOf]; omega
    · have hkl : k = ks.length := by omega
      subst hkl
      go_wp2
      go_ret
      rw [nf_all] at hown1
      exact ⟨_, rfl, hown1.base hb1.size, hb1.trans (hbel1.mono hb1.size)⟩

set_option maxRecDepth 100000 in
theorem names44 (d mb : Nat) (D : List (List UInt8 × Fil)) (w : World) (h : Dp w d mb D) (hn : D.length < 1000000000) (hk : ∀ k ∈ keysS D, k.length ≤ 64) :
    Calls Tryz.prog 44 #[.pointer (some ⟨d, 0, none⟩)] w fun e w' => ∃ v, e = .returned v ∧
      w'.ownsRow w.heap.size 9 1 v (namesS (fun f => f.isNow) D).length (sv (namesS (fun f => f.isNow) D)) ∧ Below w.heap.size w w' := by
  have hr := names78_83 d mb D w h hn hk
  clear h hn hk
  go_enter Tryz.func44, Tryz.ntmps44
  go_wp2_with (go_at_call 78; (with_reducible refine hr.mono ?_); rintro e w1 ⟨v, rfl, hown, hb⟩; obtain ⟨ao, cap, rfl⟩ := own_shape hown)
  go_ret
  exact ⟨_, rfl, hown, hb⟩

set_option maxRecDepth 100000 in
theorem loose33 (d mb : Nat) (D : List (List UInt8 × Fil)) (w : World) (h : Dp w d mb D) (hn : D.length < 1000000000) (hk : ∀ k ∈ keysS D, k.length ≤ 64) :
    Calls Tryz.prog 33 #[.pointer (some ⟨d, 0, none⟩)] w fun e w' => ∃ v, e = .returned v ∧
      w'.ownsRow w.heap.size 9 1 v (namesS (fun f => decide (0 < f.loose.length)) D).length (sv (namesS (fun f => decide (0 < f.loose.length)) D)) ∧ Below w.heap.size w w' := by
  have hr := names78_79 d mb D w h hn hk
  clear h hn hk
  go_enter Tryz.func33, Tryz.ntmps33
  go_wp2_with (go_at_call 78; (with_reducible refine hr.mono ?_); rintro e w1 ⟨v, rfl, hown, hb⟩; obtain ⟨ao, cap, rfl⟩ := own_shape hown)
  go_ret
  exact ⟨_, rfl, hown, hb⟩

def manyS (D : List (List UInt8 × Fil)) : Nat := (namesS (fun f => f.isNow) D).length
theorem manyS_le (D : List (List UInt8 × Fil)) : manyS D ≤ D.length := by
  unfold manyS namesS
  refine Nat.le_trans (List.length_filter_le _ _) ?_
  simp [keysS]
set_option maxRecDepth 100000 in
theorem many73 (d mb : Nat) (D : List (List UInt8 × Fil)) (w : World) (h : Dp w d mb D) (hn : D.length < 1000000000) (hk : ∀ k ∈ keysS D, k.length ≤ 64) :
    Calls Tryz.prog 73 #[.pointer (some ⟨d, 0, none⟩)] w fun e w' => e = .returned (.int .i64 (manyS D)) ∧ Below w.heap.size w w' := by
  have hr := names44 d mb D w h hn hk
  unfold manyS
  clear h hn hk
  go_enter Tryz.func73, Tryz.ntmps73
  go_wp2_with (go_at_call 44; (with_reducible refine hr.mono ?_); rintro e w1 ⟨v, rfl, hown, hb⟩; obtain ⟨ao, cap, rfl⟩ := own_shape hown)
  go_ret
  exact ⟨rfl, hb⟩
end Go.Proofs.YtpcipfnahknngaaGreatDoor

/- Contracts of disk.Read, Remove, Replace, Append. No statement of the seat. -/
namespace Go.Proofs.YtpcipfnahknngaaGreatDoor
open Go.RowKit Go.Maps

set_option maxRecDepth 100000 in
set_option maxHeartbeats 1600000 in
theorem read77 (d mb : Nat) (D : List (List UInt8 × Fil)) (k : List UInt8) (w : World) (h : Dp w d mb D) (hk : k.length ≤ 64) (hnl : ((getK k D).getD noFil).now.length ≤ 1048576) :
    Calls Tryz.prog 77 #[.pointer (some ⟨d, 0, none⟩), .string (tx k)] w fun e w' => ∃ v, e = .returned (.tuple #[v, .bool ((getK k D).getD noFil).isNow]) ∧
      w'.ownsRow w.heap.size 5 1 v ((getK k D).getD noFil).now.length (bv ((getK k D).getD noFil).now) ∧ Below w.heap.size w w' := by
  have hkm : k.length ≤ maxLen := by unfold maxLen; omega
  obtain ⟨f, hf0⟩ : ∃ f, f = (getK k D).getD noFil := ⟨_, rfl⟩
  obtain ⟨sa, sc, na, nc, la, lc, hrun, _, hT⟩ := look_run _ mb D h.2 k hkm
  rw [← hf0] at hrun hT hnl ⊢
  clear hf0
  have hcell := h.cell
  obtain ⟨sa', sc', na', nc', la0, lc0, hv, t1, t2, t3⟩ := hT
  cases hv
  have HH := Lib.hid h
  have q2 : Bt w (.slice na f.now.length nc) f.now := t2.1
  clear h t1 t2 t3
  go_enter Tryz.func77, Tryz.ntmps77
  go_wp2_with (go_at_call 81; (with_reducible refine (there81 d mb D _ HH.out).mono ?_); rintro e w1 ⟨rfl, rfl⟩)
  go_must (go_region_law (first
    | (go_simp; go_at_call 56
       (with_reducible refine (clone56 _ f.now _ (q2.below (B := w1.heap.size) (by repeat (first | exact Below.refl _ _ | refine Below.drew ?_ | refine Below.alloc ?_ (by first | omega | (simp; done) | (simp; omega)) _)) (Nat.le_refl _)) (by omega)).mono ?_)
       rintro e w2 ⟨v, rfl, hown, hb2⟩
       obtain ⟨va, vc, rfl⟩ := own_shape hown
       have hb3 : Below (w1.heap.size + 1) (w1.alloc (Obj.cells #[Value.slice sa f.sure.length sc, Value.slice na f.now.length nc, Value.bool f.isSure, Value.bool f.isNow, Value.slice la f.loose.length lc] 106)) w2 := ((Below.refl _ _).drew).trans (hb2.mono (by simp))
       have b3 := ((Box.new w1 _ 106 _ rfl).below hb3 (Nat.lt_succ_self _)).cell 3 rfl)))
  all_goals (
    go_wp2
    go_ret2
    exact ⟨_, rfl, hown.base (by simp), ((Below.refl _ _).alloc (Nat.le_refl _) _).trans (hb3.mono (Nat.le_succ _))⟩)

theorem field106 (sa na la : Option Addr) (s1 s2 n1 n2 l1 l2 : Nat) (a b : Bool) (w : World) : (Instr.field 106 (.agg #[.slice sa s1 s2, .slice na n1 n2, .bool a, .bool b, .slice la l1 l2]) 3).run Tryz.prog w = .ok (.bool b) w := by kernel_rfl

def removeE (k : List UInt8) (D : List (List UInt8 × Fil)) : Nat := if badName k then 2 else if ((getK k D).getD noFil).isNow then 0 else 5
def removeD (k : List UInt8) (D : List (List UInt8 × Fil)) : List (List UInt8 × Fil) := if badName k then D else if ((getK k D).getD noFil).isNow then putK k (chgF ((getK k D).getD noFil) ⟨true, true, []⟩) D else D

set_option maxRecDepth 100000 in
set_option maxHeartbeats 1600000 in
theorem remove46 (d mb : Nat) (D : List (List UInt8 × Fil)) (k : List UInt8) (w : World) (h : Dp w d mb D) (hn : D.length < 1000000000) (hl : ((getK k D).getD noFil).loose.length < 1000000000000) :
    Calls Tryz.prog 46 #[.pointer (some ⟨d, 0, none⟩), .string (tx k)] w fun e w' => e = .returned (.int .i64 (removeE k D)) ∧ Dp w' d mb (removeD k D) ∧ Fm mb w w' := by
  cases hb : badName k with
  | true =>
    have e1 : removeE k D = 2 := by unfold removeE; rw [hb]; rfl
    have e2 : removeD k D = D := by unfold removeD; rw [hb]; rfl
    rw [e1, e2]
    go_enter Tryz.func46, Tryz.ntmps46
    go_wp2_with (go_at_call 72; refine (may72_bad d mb D k _ h hb).mono ?_; rintro e w1 ⟨rfl, rfl⟩)
    go_ret
    exact ⟨rfl, h, Fm.refl _ _⟩
  | false =>
    have hk : k.length ≤ 64 := by have := of_decide_eq_false hb; omega
    have hkm : k.length ≤ maxLen := by unfold maxLen; omega
    have hr := put74_gone d mb D k true none 0 [] w h (BtT.nil w) hk (by unfold maxLen; omega) hl
    obtain ⟨f, hf0⟩ : ∃ f, f = (getK k D).getD noFil := ⟨_, rfl⟩
    obtain ⟨sa, sc, na, nc, la, lc, hrun, _, hT⟩ := look_run _ mb D h.2 k hkm
    rw [← hf0] at hrun hr
    cases hN : f.isNow with
    | false =>
      have e1 : removeE k D = 5 := by unfold removeE; rw [hb, ← hf0, hN]; rfl
      have e2 : removeD k D = D := by unfold removeD; rw [hb, ← hf0, hN]; rfl
      rw [e1, e2]
      rw [hN] at hrun
      have hcell := h.cell
      have hfld := field106 sa na la f.sure.length sc f.now.length nc f.loose.length lc f.isSure f.isNow w
      rw [hN] at hfld
      have HF := Lib.hid hf0
      clear hT hr hf0
      go_enter Tryz.func46, Tryz.ntmps46
      go_wp2_with (go_at_call 72; refine (may72 d mb D k _ h hb).mono ?_; rintro e w1 ⟨rfl, rfl⟩)
      go_ret
      exact ⟨rfl, h, Fm.refl _ _⟩
    | true =>
      have e1 : removeE k D = 0 := by unfold removeE; rw [hb, ← hf0, hN]; rfl
      have e2 : removeD k D = putK k (chgF f ⟨true, true, []⟩) D := by unfold removeD; rw [hb, ← hf0, hN]; rfl
      rw [e1, e2]
      rw [hN] at hrun
      have hcell := h.cell
      have hfld := field106 sa na la f.sure.length sc f.now.length nc f.loose.length lc f.isSure f.isNow w
      rw [hN] at hfld
      have HF := Lib.hid hf0
      clear hT hf0
      go_enter Tryz.func46, Tryz.ntmps46
      go_wp2_with (first
        | (go_at_call 72; refine (may72 d mb D k _ h hb).mono ?_; rintro e w1 ⟨rfl, rfl⟩)
        | (go_at_call 74; refine hr.mono ?_; rintro e w2 ⟨rfl, hD2, hf2⟩))
      go_ret
      exact ⟨rfl, hD2, hf2⟩

end Go.Proofs.YtpcipfnahknngaaGreatDoor

/- Contracts of disk.Replace, Append. No statement of the seat. -/
namespace Go.Proofs.YtpcipfnahknngaaGreatDoor
open Go.RowKit Go.Maps

def fullR (k b : List UInt8) (D : List (List UInt8 × Fil)) : Bool := decide (1048576 < b.length) || (!((getK k D).getD noFil).isNow && decide (64 ≤ manyS D))
def replaceE (k b : List UInt8) (D : List (List UInt8 × Fil)) : Nat := if badName k then 2 else if fullR k b D then 6 else 0
def replaceD (k b : List UInt8) (D : List (List UInt8 × Fil)) : List (List UInt8 × Fil) := if badName k || fullR k b D then D else putK k (chgF ((getK k D).getD noFil) ⟨true, false, b⟩) D

set_option maxRecDepth 100000 in
set_option maxHeartbeats 3200000 in
theorem replace26 (d mb : Nat) (D : List (List UInt8 × Fil)) (k b : List UInt8) (ca : Option Addr) (cc : Nat) (w : World) (h : Dp w d mb D) (hv : Bt w (.slice ca b.length cc) b) (hbl : b.length ≤ 140737488351232) (hn : D.length < 1000000000)
    (hk : ∀ k ∈ keysS D, k.length ≤ 64) (hl : ((getK k D).getD noFil).loose.length < 1000000000000) :
    Calls Tryz.prog 26 #[.pointer (some ⟨d, 0, none⟩), .string (tx k), .slice ca b.length cc] w fun e w' => e = .returned (.int .i64 (replaceE k b D)) ∧ Dp w' d mb (replaceD k b D) ∧ Fm mb w w' := by
  cases hb : badName k with
  | true =>
    have e1 : replaceE k b D = 2 := by unfold replaceE; rw [hb]; rfl
    have e2 : replaceD k b D = D := by unfold replaceD; rw [hb]; rfl
    rw [e1, e2]
    go_enter Tryz.func26, Tryz.ntmps26
    go_wp2_with (go_at_call 72; refine (may72_bad d mb D k _ h hb).mono ?_; rintro e w1 ⟨rfl, rfl⟩)
    go_ret
    exact ⟨rfl, h, Fm.refl _ _⟩
  | false =>
    have hk64 : k.length ≤ 64 := by have := of_decide_eq_false hb; omega
    have hkm : k.length ≤ maxLen := by unfold maxLen; omega
    obtain ⟨f, hf0⟩ : ∃ f, f = (getK k D).getD noFil := ⟨_, rfl⟩
    obtain ⟨sa, sc, na, nc, la, lc, hrun, _, hT⟩ := look_run _ mb D h.2 k hkm
    have hfld := field106 sa na la f.sure.length sc f.now.length nc f.loose.length lc f.isSure f.isNow w
    have hput := fun va vc w1 hD hc => put74_whole d mb D k va vc b w1 hD hc hk64 (by unfold maxLen; omega) hl
    have hmany := many73 d mb D w h hn hk
    obtain ⟨mm, hmm⟩ : ∃ mm, mm = manyS D := ⟨_, rfl⟩
    rw [← hf0] at hrun hput
    rw [← hmm] at hmany
    have hmle : mm ≤ D.length := by rw [hmm]; exact manyS_le D
    have hfull : fullR k b D = (decide (1048576 < b.length) || (!f.isNow && decide (64 ≤ mm))) := by unfold fullR; rw [hf0, hmm]
    have hcell := h.cell
    have HP := Lib.hid hput
    have HM := Lib.hid hmany
    have HV := Lib.hid hv
    have HH := Lib.hid h
    have HK := Lib.hid hk
    have HHL := Lib.hid hl
    have HF := Lib.hid hf0
    clear hf0 hmm hT hput hmany hv h hk hl
    cases hF : fullR k b D with
    | true =>
      have e1 : replaceE k b D = 6 := by unfold replaceE; rw [hb, hF]; rfl
      have e2 : replaceD k b D = D := by unfold replaceD; rw [hb, hF]; rfl
      rw [e1, e2]
      rw [hF] at hfull
      clear e1 e2
      by_cases hbig : 1048576 < b.length
      · clear hfull
        go_enter Tryz.func26, Tryz.ntmps26
        go_wp2_with (first
          | (go_at_call 72; refine (may72 d mb D k _ HH.out hb).mono ?_; rintro e w1 ⟨rfl, rfl⟩))
        go_ret
        exact ⟨rfl, HH.out, Fm.refl _ _⟩
      · rw [decide_eq_false hbig] at hfull
        cases hN : f.isNow with
        | true => rw [hN] at hfull; simp at hfull
        | false =>
          rw [hN] at hfull hrun hfld
          have h64 : 64 ≤ mm := by simpa using hfull
          clear hfull
          have hbig2 : b.length ≤ 1048576 := by omega
          go_enter Tryz.func26, Tryz.ntmps26
          go_wp2_with (first
            | (go_at_call 72; refine (may72 d mb D k _ HH.out hb).mono ?_; rintro e w1 ⟨rfl, rfl⟩)
            | (go_at_call 73; refine HM.out.mono ?_; rintro e w2 ⟨rfl, hb2⟩))
          go_ret
          exact ⟨rfl, HH.out.below hb2 (Nat.le_refl _), Fm.of_below hb2 (Nat.le_refl _)⟩
    | false =>
      have e1 : replaceE k b D = 0 := by unfold replaceE; rw [hb, hF]; rfl
      have e2 : replaceD k b D = putK k (chgF f ⟨true, false, b⟩) D := by unfold replaceD; rw [hb, hF, HF.out]; rfl
      rw [e1, e2]
      clear e1 e2
      rw [hF] at hfull
      have hbig2 : b.length ≤ 1048576 := by
        rcases Nat.lt_or_ge 1048576 b.length with h1 | h1
        · rw [decide_eq_true h1] at hfull; simp at hfull
        · exact h1
      cases hN : f.isNow with
      | true =>
        rw [hN] at hrun hfld
        clear hfull
        go_enter Tryz.func26, Tryz.ntmps26
        go_wp2_with (first
            | (go_at_call 72; refine (may72 d mb D k _ HH.out hb).mono ?_; rintro e w1 ⟨rfl, rfl⟩)
            | (go_at_call 56; refine (clone56 _ b _ HV.out hbl).mono ?_; rintro e w2 ⟨v, rfl, hown, hb2⟩; obtain ⟨va, vc, rfl⟩ := own_shape hown)
            | (go_at_call 74; refine (HP.out va vc w2 (HH.out.below hb2 (Nat.le_refl _)) (BtT.of_own hown)).mono ?_; rintro e w3 ⟨rfl, hD3, hf3⟩))
        go_ret
        exact ⟨rfl, hD3, (Fm.of_below hb2 (Nat.le_refl _)).trans hf3⟩
      | false =>
        rw [hN] at hrun hfld hfull
        have h64 : mm < 64 := by
          have : decide (1048576 < b.length) = false := decide_eq_false (by omega)
          rw [this] at hfull
          simpa using hfull
        clear hfull
        go_enter Tryz.func26, Tryz.ntmps26
        go_wp2_with (first
            | (go_at_call 72; refine (may72 d mb D k _ HH.out hb).mono ?_; rintro e w1 ⟨rfl, rfl⟩)
            | (go_at_call 73; refine HM.out.mono ?_; rintro e w0 ⟨rfl, hb0⟩)
            | (go_at_call 56; refine (clone56 _ b _ (HV.out.below hb0 (Nat.le_refl _)) hbl).mono ?_; rintro e w2 ⟨v, rfl, hown, hb2⟩; obtain ⟨va, vc, rfl⟩ := own_shape hown)
            | (go_at_call 74; refine (HP.out va vc w2 ((HH.out.below hb0 (Nat.le_refl _)).below hb2 (Nat.le_refl _)) (BtT.of_own hown)).mono ?_; rintro e w3 ⟨rfl, hD3, hf3⟩))
        go_ret
        exact ⟨rfl, hD3, ((Fm.of_below hb0 (Nat.le_refl _)).trans (Fm.of_below hb2 (Nat.le_refl _))).trans hf3⟩

def fullA (k b : List UInt8) (D : List (List UInt8 × Fil)) : Bool := decide (1048576 < ((getK k D).getD noFil).now.length + b.length) || (!((getK k D).getD noFil).isNow && decide (64 ≤ manyS D))
def appendE (k b : List UInt8) (D : List (List UInt8 × Fil)) : Nat := if badName k then 2 else if fullA k b D then 6 else 0
def appendD (k b : List UInt8) (D : List (List UInt8 × Fil)) : List (List UInt8 × Fil) := if badName k || fullA k b D then D else putK k (chgF ((getK k D).getD noFil) ⟨!((getK k D).getD noFil).isNow, false, b⟩) D

set_option maxRecDepth 100000 in
set_option maxHeartbeats 3200000 in
theorem append92 (d mb : Nat) (D : List (List UInt8 × Fil)) (k b : List UInt8) (ca : Option Addr) (cc : Nat) (w : World) (h : Dp w d mb D) (hv : Bt w (.slice ca b.length cc) b) (hbl : b.length ≤ 1407374883) (hn : D.length < 1000000000)
    (hk : ∀ k ∈ keysS D, k.length ≤ 64) (hl : ((getK k D).getD noFil).loose.length < 1000000000000) (hnl : ((getK k D).getD noFil).now.length ≤ 1048576) :
    Calls Tryz.prog 92 #[.pointer (some ⟨d, 0, none⟩), .string (tx k), .slice ca b.length cc] w fun e w' => e = .returned (.int .i64 (appendE k b D)) ∧ Dp w' d mb (appendD k b D) ∧ Fm mb w w' := by
  cases hb : badName k with
  | true =>
    have e1 : appendE k b D = 2 := by unfold appendE; rw [hb]; rfl
    have e2 : appendD k b D = D := by unfold appendD; rw [hb]; rfl
    rw [e1, e2]
    go_enter Tryz.func92, Tryz.ntmps92
    go_wp2_with (go_at_call 72; refine (may72_bad d mb D k _ h hb).mono ?_; rintro e w1 ⟨rfl, rfl⟩)
    go_ret
    exact ⟨rfl, h, Fm.refl _ _⟩
  | false =>
    have hk64 : k.length ≤ 64 := by have := of_decide_eq_false hb; omega
    have hkm : k.length ≤ maxLen := by unfold maxLen; omega
    obtain ⟨f, hf0⟩ : ∃ f, f = (getK k D).getD noFil := ⟨_, rfl⟩
    obtain ⟨sa, sc, na, nc, la, lc, hrun, _, hT⟩ := look_run _ mb D h.2 k hkm
    have hputA := fun va vc w1 hD hc => put74_app d mb D k va vc b w1 hD hc hk64 (by unfold maxLen; omega) hl (by omega)
    have hputW := fun va vc w1 hD hc => put74_whole d mb D k va vc b w1 hD hc hk64 (by unfold maxLen; omega) hl
    have hmany : ∀ W, Dp W d mb D → _ := fun W hW => many73 d mb D W hW hn hk
    obtain ⟨mm, hmm⟩ : ∃ mm, mm = manyS D := ⟨_, rfl⟩
    rw [← hf0] at hrun hputA hputW hnl
    rw [← hmm] at hmany
    have hmle : mm ≤ D.length := by rw [hmm]; exact manyS_le D
    have hfull : fullA k b D = (decide (1048576 < f.now.length + b.length) || (!f.isNow && decide (64 ≤ mm))) := by unfold fullA; rw [hf0, hmm]
    have hcell := h.cell
    have HPA := Lib.hid hputA
    have HPW := Lib.hid hputW
    have HM := Lib.hid hmany
    have HV := Lib.hid hv
    have HH := Lib.hid h
    have HK := Lib.hid hk
    have HHL := Lib.hid hl
    have HF := Lib.hid hf0
    have hbx := (Below.refl w.heap.size w).alloc (Nat.le_refl _) (Obj.cells #[Value.slice sa f.sure.length sc, Value.slice na f.now.length nc, Value.bool f.isSure, Value.bool f.isNow, Value.slice la f.loose.length lc] 106)
    clear hf0 hmm hT hputA hputW hmany hv h hk hl
    cases hF : fullA k b D with
    | true =>
      have e1 : appendE k b D = 6 := by unfold appendE; rw [hb, hF]; rfl
      have e2 : appendD k b D = D := by unfold appendD; rw [hb, hF]; rfl
      rw [e1, e2]
      rw [hF] at hfull
      clear e1 e2
      by_cases hbig : 1048576 < f.now.length + b.length
      · clear hfull
        go_enter Tryz.func92, Tryz.ntmps92
        go_wp2_with (first
          | (go_at_call 72; refine (may72 d mb D k _ HH.out hb).mono ?_; rintro e w1 ⟨rfl, rfl⟩))
        go_ret
        exact ⟨rfl, HH.out.below hbx (Nat.le_refl _), Fm.of_below hbx (Nat.le_refl _)⟩
      · rw [decide_eq_false hbig] at hfull
        cases hN : f.isNow with
        | true => rw [hN] at hfull; simp at hfull
        | false =>
          rw [hN] at hfull hrun hbx
          have h64 : 64 ≤ mm := by simpa using hfull
          clear hfull
          have hbig2 : f.now.length + b.length ≤ 1048576 := by omega
          go_enter Tryz.func92, Tryz.ntmps92
          go_wp2_with (first
            | (go_at_call 72; refine (may72 d mb D k _ HH.out hb).mono ?_; rintro e w1 ⟨rfl, rfl⟩)
            | (go_at_call 73; refine (HM.out _ (HH.out.below hbx (Nat.le_refl _))).mono ?_; rintro e w2 ⟨rfl, hb2⟩))
          go_ret
          have hb3 := hbx.trans (hb2.mono (by simp))
          exact ⟨rfl, HH.out.below hb3 (Nat.le_refl _), Fm.of_below hb3 (Nat.le_refl _)⟩
    | false =>
      have e1 : appendE k b D = 0 := by unfold appendE; rw [hb, hF]; rfl
      have e2 : appendD k b D = putK k (chgF f ⟨!f.isNow, false, b⟩) D := by unfold appendD; rw [hb, hF, HF.out]; rfl
      rw [e1, e2]
      clear e1 e2
      rw [hF] at hfull
      have hbig2 : f.now.length + b.length ≤ 1048576 := by
        rcases Nat.lt_or_ge 1048576 (f.now.length + b.length) with h1 | h1
        · rw [decide_eq_true h1] at hfull; simp at hfull
        · exact h1
      cases hN : f.isNow with
      | true =>
        rw [hN] at hrun hbx
        clear hfull
        go_enter Tryz.func92, Tryz.ntmps92
        go_wp2_with (first
            | (go_at_call 72; refine (may72 d mb D k _ HH.out hb).mono ?_; rintro e w1 ⟨rfl, rfl⟩))
        have hbox := Box.new w1 w1.heap.size 106 #[Value.slice sa f.sure.length sc, Value.slice na f.now.length nc, Value.bool f.isSure, Value.bool true, Value.slice la f.loose.length lc] rfl
        have hbl2 := hbox.lt
        have HD := HH.out.below hbx (Nat.le_refl _)
        have hV2 := HV.out.below hbx (Nat.le_refl _)
        obtain ⟨W, hW⟩ : ∃ W, W = w1.alloc (Obj.cells #[Value.slice sa f.sure.length sc, Value.slice na f.now.length nc, Value.bool f.isSure, Value.bool true, Value.slice la f.loose.length lc] 106) := ⟨_, rfl⟩
        rw [← hW] at hbox hbl2 HD hV2 hbx ⊢
        have HW := Lib.hid hW
        clear hW
        have k3 := hbox.cell 3 rfl
        go_must (go_region_law (first
          | (go_simp; go_at_call 56
             (with_reducible refine (clone56 _ b _ ((hV2.below (B := W.heap.size) (by repeat (first | exact Below.refl _ _ | refine Below.drew ?_ | refine Below.alloc ?_ (by first | omega | (simp; done) | (simp; omega)) _)) (Nat.le_refl _))) (by omega)).mono ?_)
             rintro e w3 ⟨v, rfl, hown, hb3⟩
             obtain ⟨va, vc, rfl⟩ := own_shape hown
             have hb4 : Below W.heap.size W w3 := ((Below.refl _ _).drew).trans (hb3.mono (by simp))
             have b3 := (hbox.below hb4 hbl2).cell 3 rfl)
          | (go_simp; go_at_call 74
             (with_reducible refine (HPA.out va vc w3 (HD.below hb4 (Nat.le_refl _)) (BtT.of_own hown)).mono ?_)
             rintro e w4 ⟨rfl, hD4, hf4⟩)))
        all_goals (
          go_wp2
          go_ret
          exact ⟨rfl, hD4, (Fm.of_below (hbx.trans (hb4.mono hbx.size)) (Nat.le_refl _)).trans hf4⟩)
      | false =>
        rw [hN] at hrun hbx hfull
        have h64 : mm < 64 := by
          have : decide (1048576 < f.now.length + b.length) = false := decide_eq_false (by omega)
          rw [this] at hfull
          simpa using hfull
        clear hfull
        go_enter Tryz.func92, Tryz.ntmps92
        go_wp2_with (first
            | (go_at_call 72; refine (may72 d mb D k _ HH.out hb).mono ?_; rintro e w1 ⟨rfl, rfl⟩)
            | (go_at_call 73; refine (HM.out _ (HH.out.below hbx (Nat.le_refl _))).mono ?_; rintro e w2 ⟨rfl, hb2⟩
               have k3 := ((Box.new w1 w1.heap.size 106 #[Value.slice sa f.sure.length sc, Value.slice na f.now.length nc, Value.bool f.isSure, Value.bool false, Value.slice la f.loose.length lc] rfl).below hb2 (by simp)).cell 3 rfl))
        have hbox := Box.new w1 w1.heap.size 106 #[Value.slice sa f.sure.length sc, Value.slice na f.now.length nc, Value.bool f.isSure, Value.bool false, Value.slice la f.loose.length lc] rfl
        have hbox := hbox.below hb2 (by simp)
        have hbx := hbx.trans (hb2.mono (by simp))
        have hbl2 := hbox.lt
        have HD := HH.out.below hbx (Nat.le_refl _)
        have hV2 := HV.out.below hbx (Nat.le_refl _)
        obtain ⟨W, hW⟩ : ∃ W, W = w2 := ⟨_, rfl⟩
        rw [← hW] at hbox hbl2 HD hV2 hbx ⊢
        have HW := Lib.hid hW
        clear hW
        have k3 := hbox.cell 3 rfl
        go_must (go_region_law (first
          | (go_simp; go_at_call 56
             (with_reducible refine (clone56 _ b _ ((hV2.below (B := W.heap.size) (by repeat (first | exact Below.refl _ _ | refine Below.drew ?_ | refine Below.alloc ?_ (by first | omega | (simp; done) | (simp; omega)) _)) (Nat.le_refl _))) (by omega)).mono ?_)
             rintro e w3 ⟨v, rfl, hown, hb3⟩
             obtain ⟨va, vc, rfl⟩ := own_shape hown
             have hb4 : Below W.heap.size W w3 := ((Below.refl _ _).drew).trans (hb3.mono (by simp))
             have b3 := (hbox.below hb4 hbl2).cell 3 rfl)
          | (go_simp; go_at_call 74
             (with_reducible refine (HPW.out va vc w3 (HD.below hb4 (Nat.le_refl _)) (BtT.of_own hown)).mono ?_)
             rintro e w4 ⟨rfl, hD4, hf4⟩)))
        all_goals (
          go_wp2
          go_ret
          exact ⟨rfl, hD4, (Fm.of_below (hbx.trans (hb4.mono hbx.size)) (Nat.le_refl _)).trans hf4⟩)
end Go.Proofs.YtpcipfnahknngaaGreatDoor

/- Contracts of disk.Copy. No statement of the seat. -/
namespace Go.Proofs.YtpcipfnahknngaaGreatDoor
open Go.RowKit Go.Maps

theorem eqlIn_map_nil (w : World) (d : Nat) (p : Option Nat) : (Op.equalIn (d + 1) 89 (.map p) (.map none)).run Tryz.prog w = .ok p.isNone w := by
  cases p <;> simp [Op.equalIn, run_underlying Tryz.underlying89]
theorem eql_map_nil (w : World) (p : Option Nat) : (binOp .eql 89 (.map p) (.map none)).run Tryz.prog w = .ok (.bool p.isNone) w := by
  simp only [binOp]
  simp [show Op.equal 89 (.map p) (.map none) = Op.equalIn (9999 + 1) 89 (.map p) (.map none) from rfl, eqlIn_map_nil w 9999 p]
theorem tass_map (w : World) (xT : TypeId) (v : Value) : (Instr.typeAssert (.iface 89 v) xT 89 false).run Tryz.prog w = .ok v w := by
  simp [Instr.typeAssert, run_underlying Tryz.underlying89, go_sem, Result.andThen]
theorem clone_run {w : World} {r : Nat} {es : Array MapEntry} {clock : Nat} (t : TypeId) (hb : w.heap[r]? = some (.map es clock)) :
    (Extern.MapsClone.clone #[.iface t (.map (some r))]).run Tryz.prog w = .ok (.iface t (.map (some w.heap.size))) (w.alloc (.map es clock)) := by
  have e : Extern.MapsClone.clone #[.iface t (.map (some r))] = (getObj r >>= fun o => match o with
      | .map entries clock => (newObj (.map entries clock) >>= fun n => pure (.iface t (.map (some n))))
      | _ => stuck "maps.clone: a map expected") := rfl
  rw [e]
  simp [MapKept.run_getObj_map hb, Result.andThen, go_sem]

set_option maxRecDepth 100000 in
set_option maxHeartbeats 1600000 in
theorem clone82 (b : Nat) (es : Array MapEntry) (clock : Nat) (w : World) (hb : w.heap[b]? = some (.map es clock)) :
    Calls Tryz.prog 82 #[.map (some b)] w fun e w' => e = .returned (.map (some w.heap.size)) ∧ w' = w.alloc (.map es clock) := by
  have hq := fun w => eql_map_nil w (some b)
  go_enter Tryz.func82, Tryz.ntmps82
  go_wp2
  rw [run_callFunc_extern Tryz.func101 (by kernel_rfl) (by kernel_rfl) (by kernel_rfl) (e := Extern.MapsClone.clone) (by kernel_rfl), clone_run 89 hb]
  simp only [Result.andThen]
  rw [Oper.upon_value]
  go_wp2
  rw [tass_map]
  simp only [Result.andThen]
  rw [Oper.upon_value]
  go_wp2
  go_ret
  exact ⟨rfl, rfl⟩

set_option maxRecDepth 100000 in
set_option maxHeartbeats 800000 in
theorem there81_nil (w : World) : Calls Tryz.prog 81 #[.pointer none] w fun e w' => e = .returned (.bool false) ∧ w' = w := by
  go_enter Tryz.func81, Tryz.ntmps81
  go_wp2
  go_ret
  exact ⟨rfl, rfl⟩

set_option maxRecDepth 100000 in
set_option maxHeartbeats 800000 in
theorem copy43_nil (w : World) : Calls Tryz.prog 43 #[.pointer none] w fun e w' => e = .returned (.pointer none) ∧ w' = w := by
  go_enter Tryz.func43, Tryz.ntmps43
  go_wp2_with (go_at_call 81; (with_reducible refine (there81_nil _).mono ?_); rintro e w1 ⟨rfl, rfl⟩)
  go_ret
  exact ⟨rfl, rfl⟩

set_option maxRecDepth 100000 in
set_option maxHeartbeats 800000 in
theorem copy43 (d mb : Nat) (D : List (List UInt8 × Fil)) (w : World) (h : Dp w d mb D) :
    Calls Tryz.prog 43 #[.pointer (some ⟨d, 0, none⟩)] w fun e w' => e = .returned (.pointer (some ⟨w.heap.size + 1, 0, none⟩)) ∧ Below w.heap.size w w' := by
  have hcell := h.cell
  obtain ⟨l, ⟨es, clock, hb, _⟩, _⟩ := h.2
  have HH := Lib.hid h
  clear h
  go_enter Tryz.func43, Tryz.ntmps43
  go_wp2_with (first
    | (go_at_call 81; (with_reducible refine (there81 d mb D _ HH.out).mono ?_); rintro e w1 ⟨rfl, rfl⟩)
    | (go_at_call 82; (with_reducible refine (clone82 mb es clock _ hb).mono ?_); rintro e w1 ⟨rfl, rfl⟩))
  go_ret
  exact ⟨by simp, ((Below.refl _ _).alloc (by simp) _).alloc (by simp) _⟩
end Go.Proofs.YtpcipfnahknngaaGreatDoor

/- Contracts of wal on nil, and on a Wal that no one opened. No statement of the seat. -/
namespace Go.Proofs.YtpcipfnahknngaaGreatDoor
open Go.RowKit Go.Maps

set_option maxRecDepth 100000 in
set_option maxHeartbeats 800000 in
theorem there48_nil (w : World) : Calls Tryz.prog 48 #[.pointer none] w fun e w' => e = .returned (.bool false) ∧ w' = w := by
  go_enter Tryz.func48, Tryz.ntmps48
  go_wp2
  go_ret
  exact ⟨rfl, rfl⟩
set_option maxRecDepth 100000 in
set_option maxHeartbeats 800000 in
theorem there48_zero (q : Nat) (w : World) (h0 : w.cell? ⟨q, 0, none⟩ = some (.pointer none)) : Calls Tryz.prog 48 #[.pointer (some ⟨q, 0, none⟩)] w fun e w' => e = .returned (.bool false) ∧ w' = w := by
  go_enter Tryz.func48, Tryz.ntmps48
  go_wp2
  go_ret
  exact ⟨rfl, rfl⟩
set_option maxRecDepth 100000 in
set_option maxHeartbeats 800000 in
theorem there48 (q d : Nat) (w : World) (h0 : w.cell? ⟨q, 0, none⟩ = some (.pointer (some ⟨d, 0, none⟩))) : Calls Tryz.prog 48 #[.pointer (some ⟨q, 0, none⟩)] w fun e w' => e = .returned (.bool true) ∧ w' = w := by
  go_enter Tryz.func48, Tryz.ntmps48
  go_wp2
  go_ret
  exact ⟨rfl, rfl⟩
set_option maxRecDepth 100000 in
set_option maxHeartbeats 800000 in
theorem wappend12_nil (v : Value) (w : World) : Calls Tryz.prog 12 #[.pointer none, v] w fun e w' => e = .returned (.int .i64 1) ∧ w' = w := by
  go_enter Tryz.func12, Tryz.ntmps12
  go_wp2_with (go_at_call 48; (with_reducible refine (there48_nil _).mono ?_); rintro e w1 ⟨rfl, rfl⟩)
  go_ret
  exact ⟨rfl, rfl⟩
set_option maxRecDepth 100000 in
set_option maxHeartbeats 800000 in
theorem wsync13_zero (q : Nat) (w : World) (h0 : w.cell? ⟨q, 0, none⟩ = some (.pointer none)) : Calls Tryz.prog 13 #[.pointer (some ⟨q, 0, none⟩)] w fun e w' => e = .returned (.int .i64 1) ∧ w' = w := by
  go_enter Tryz.func13, Tryz.ntmps13
  go_wp2_with (go_at_call 48; (with_reducible refine (there48_zero q _ h0).mono ?_); rintro e w1 ⟨rfl, rfl⟩)
  go_ret
  exact ⟨rfl, rfl⟩
set_option maxRecDepth 100000 in
set_option maxHeartbeats 800000 in
theorem wcompact14_nil (x : Int) (w : World) : Calls Tryz.prog 14 #[.pointer none, .int .u64 x] w fun e w' => e = .returned (.int .i64 1) ∧ Below w.heap.size w w' := by
  go_enter Tryz.func14, Tryz.ntmps14
  go_wp2_with (go_at_call 48; (with_reducible refine (there48_nil _).mono ?_); rintro e w1 ⟨rfl, rfl⟩)
  go_ret
  exact ⟨rfl, (Below.refl _ _).alloc (Nat.le_refl _) _⟩
set_option maxRecDepth 100000 in
set_option maxHeartbeats 800000 in
theorem wentries15_zero (q : Nat) (w : World) (h0 : w.cell? ⟨q, 0, none⟩ = some (.pointer none)) : Calls Tryz.prog 15 #[.pointer (some ⟨q, 0, none⟩)] w fun e w' => e = .returned (.slice none 0 0) ∧ w' = w := by
  go_enter Tryz.func15, Tryz.ntmps15
  go_wp2_with (go_at_call 48; (with_reducible refine (there48_zero q _ h0).mono ?_); rintro e w1 ⟨rfl, rfl⟩)
  go_ret
  exact ⟨rfl, rfl⟩
set_option maxRecDepth 100000 in
set_option maxHeartbeats 800000 in
theorem wopen11_nil (w : World) : Calls Tryz.prog 11 #[.pointer none] w fun e w' => e = .returned (.tuple #[.pointer none, .int .i64 1]) ∧ w' = w := by
  go_enter Tryz.func11, Tryz.ntmps11
  go_wp2_with (go_at_call 43; (with_reducible refine (copy43_nil _).mono ?_); rintro e w1 ⟨rfl, rfl⟩)
  go_ret2
  exact ⟨rfl, rfl⟩
end Go.Proofs.YtpcipfnahknngaaGreatDoor

/- Bounds that a disk's calls keep. No statement of the seat. -/
namespace Go.Proofs.YtpcipfnahknngaaGreatDoor
open Go.RowKit Go.Maps

theorem getK_mem {α : Type} {k : List UInt8} {x : α} {l : List (List UInt8 × α)} (h : getK k l = some x) : (k, x) ∈ l := by
  unfold getK at h
  cases hf : l.find? (fun p => p.1 == k) with
  | none => rw [hf] at h; cases h
  | some p =>
    rw [hf] at h
    simp only [Option.map_some, Option.some.injEq] at h
    have h1 := List.mem_of_find?_eq_some hf
    have h2 := List.find?_some hf
    simp only [beq_iff_eq] at h2
    obtain ⟨a, b⟩ := p
    simp only at h h2
    subst h h2
    exact h1
theorem mem_insK {α : Type} {p x : List UInt8 × α} {l : List (List UInt8 × α)} (h : p ∈ insK x l) : p = x ∨ p ∈ l := by
  induction l with
  | nil => simpa [insK] using h
  | cons y r ih =>
    unfold insK at h
    split at h
    · simpa using h
    · rcases List.mem_cons.1 h with rfl | h
      · exact Or.inr List.mem_cons_self
      · rcases ih h with h | h
        · exact Or.inl h
        · exact Or.inr (List.mem_cons_of_mem _ h)
theorem insK_len {α : Type} (x : List UInt8 × α) (l : List (List UInt8 × α)) : (insK x l).length = l.length + 1 := by
  induction l with
  | nil => rfl
  | cons y r ih =>
    unfold insK
    split
    · rfl
    · simp [ih]
theorem delK_len {α : Type} (k : List UInt8) (l : List (List UInt8 × α)) : (delK k l).length ≤ l.length := List.length_filter_le _ _
theorem mem_delK {α : Type} {k : List UInt8} {p : List UInt8 × α} {l : List (List UInt8 × α)} (h : p ∈ delK k l) : p ∈ l := (List.mem_filter.1 h).1
theorem mem_putK {α : Type} {k : List UInt8} {x : α} {p : List UInt8 × α} {l : List (List UInt8 × α)} (h : p ∈ putK k x l) : p = (k, x) ∨ p ∈ l := by
  rcases mem_insK h with h | h
  · exact Or.inl h
  · exact Or.inr (mem_delK h)
theorem putK_len {α : Type} (k : List UInt8) (x : α) (l : List (List UInt8 × α)) : (putK k x l).length ≤ l.length + 1 := by
  unfold putK
  rw [insK_len]
  have := delK_len k l
  omega

/-- few files, few loose changes, short names, short files -/
structure Dg (N : Nat) (D : List (List UInt8 × Fil)) : Prop where
  len : D.length ≤ N
  keys : ∀ p ∈ D, p.1.length ≤ 64
  loose : ∀ p ∈ D, p.2.loose.length ≤ N
  now : ∀ p ∈ D, p.2.now.length ≤ 1048576
theorem Dg.nil (N : Nat) : Dg N [] := ⟨Nat.zero_le _, fun p h => by simp at h, fun p h => by simp at h, fun p h => by simp at h⟩
theorem Dg.mono {N M : Nat} {D : List (List UInt8 × Fil)} (h : Dg N D) (hm : N ≤ M) : Dg M D := ⟨Nat.le_trans h.len hm, h.keys, fun p hp => Nat.le_trans (h.loose p hp) hm, h.now⟩
theorem Dg.keysS {N : Nat} {D : List (List UInt8 × Fil)} (h : Dg N D) : ∀ k ∈ keysS D, k.length ≤ 64 := fun k hk => by
  unfold YtpcipfnahknngaaGreatDoor.keysS at hk
  rw [List.mem_mergeSort, List.mem_map] at hk
  obtain ⟨p, hp, rfl⟩ := hk
  exact h.keys p hp
theorem Dg.getLoose {N : Nat} {D : List (List UInt8 × Fil)} (h : Dg N D) (k : List UInt8) : ((getK k D).getD noFil).loose.length ≤ N := by
  cases hg : getK k D with
  | none => exact Nat.zero_le _
  | some f => exact h.loose _ (getK_mem hg)
theorem Dg.getNow {N : Nat} {D : List (List UInt8 × Fil)} (h : Dg N D) (k : List UInt8) : ((getK k D).getD noFil).now.length ≤ 1048576 := by
  cases hg : getK k D with
  | none => exact Nat.zero_le _
  | some f => exact h.now _ (getK_mem hg)
theorem Dg.put {N : Nat} {D : List (List UInt8 × Fil)} (h : Dg N D) (k : List UInt8) (f : Fil) (hk : k.length ≤ 64) (hl : f.loose.length ≤ N + 1) (hn : f.now.length ≤ 1048576) : Dg (N + 1) (putK k f D) := by
  refine ⟨Nat.le_trans (putK_len _ _ _) (by have := h.len; omega), fun p hp => ?_, fun p hp => ?_, fun p hp => ?_⟩ <;> rcases mem_putK hp with rfl | hp
  · exact hk
  · exact h.keys p hp
  · exact hl
  · have := h.loose p hp; omega
  · exact hn
  · exact h.now p hp
theorem Dg.del {N : Nat} {D : List (List UInt8 × Fil)} (h : Dg N D) (k : List UInt8) : Dg N (delK k D) :=
  ⟨Nat.le_trans (delK_len _ _) h.len, fun p hp => h.keys p (mem_delK hp), fun p hp => h.loose p (mem_delK hp), fun p hp => h.now p (mem_delK hp)⟩
theorem badName_len {k : List UInt8} (h : badName k = false) : k.length ≤ 64 := by have := of_decide_eq_false h; omega
theorem Dg.sync {N : Nat} {D : List (List UInt8 × Fil)} (h : Dg N D) (k : List UInt8) : Dg (N + 1) (syncD k D) := by
  unfold syncD
  split
  · exact h.mono (by omega)
  · rename_i hb
    split
    · rename_i f hg
      unfold settled
      split
      · exact h.put k _ (badName_len (by simpa using hb)) (Nat.zero_le _) (h.now _ (getK_mem hg))
      · exact (h.del k).mono (by omega)
    · exact h.mono (by omega)
theorem chgF_loose (f : Fil) (c : Chg) : (chgF f c).loose.length = f.loose.length + 1 := by
  simp [chgF]
theorem Dg.append {N : Nat} {D : List (List UInt8 × Fil)} (h : Dg N D) (k b : List UInt8) : Dg (N + 1) (appendD k b D) := by
  unfold appendD
  split
  · exact h.mono (by omega)
  · rename_i hb
    simp only [Bool.or_eq_true, not_or, Bool.not_eq_true] at hb
    have hl := h.getLoose k
    refine h.put k _ (badName_len hb.1) (by rw [chgF_loose]; omega) ?_
    have hf := hb.2
    unfold fullA at hf
    simp only [Bool.or_eq_false_iff, decide_eq_false_iff_not] at hf
    have hf1 := hf.1
    simp only [chgF]
    split
    · simp
    · split <;> simp <;> omega
theorem Dg.remove {N : Nat} {D : List (List UInt8 × Fil)} (h : Dg N D) (k : List UInt8) : Dg (N + 1) (removeD k D) := by
  unfold removeD
  split
  · exact h.mono (by omega)
  · rename_i hb
    split
    · have hl := h.getLoose k
      refine h.put k _ (badName_len (by simpa using hb)) (by rw [chgF_loose]; omega) ?_
      simp [chgF]
    · exact h.mono (by omega)
theorem Dg.replace {N : Nat} {D : List (List UInt8 × Fil)} (h : Dg N D) (k b : List UInt8) : Dg (N + 1) (replaceD k b D) := by
  unfold replaceD
  split
  · exact h.mono (by omega)
  · rename_i hb
    simp only [Bool.or_eq_true, not_or, Bool.not_eq_true] at hb
    have hl := h.getLoose k
    refine h.put k _ (badName_len hb.1) (by rw [chgF_loose]; omega) ?_
    have hf := hb.2
    unfold fullR at hf
    simp only [Bool.or_eq_false_iff, decide_eq_false_iff_not] at hf
    have hf1 := hf.1
    unfold chgF
    simp
    omega
end Go.Proofs.YtpcipfnahknngaaGreatDoor

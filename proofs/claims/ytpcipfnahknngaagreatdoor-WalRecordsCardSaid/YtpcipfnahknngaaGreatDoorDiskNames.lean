/- Contracts of disk.names and what leans on it. No statement of the seat. -/
import Derived.Test.YtpcipfnahknngaaGreatDoorDiskApp
import Derived.Test.YtpcipfnahknngaaGreatDoorIter
namespace Go.Proofs.YtpcipfnahknngaaGreatDoor
open Go.RowKit Go.Maps

/-- names as cells -/
def sv (l : List (List UInt8)) : List Value := l.map fun k => .string (tx k)
theorem sv_one (l : List (List UInt8)) : ∀ u ∈ sv l, u.oneCell' = true := by
  intro u hu
  simp only [sv, List.mem_map] at hu
  obtain ⟨b, _, rfl⟩ := hu
  rfl
@[simp] theorem sv_length (l : List (List UInt8)) : (sv l).length = l.length := by simp [sv]
theorem sv_get (l : List (List UInt8)) (j : Nat) (h : j < l.length) : (sv l)[j]? = some (.string (tx l[j])) := by simp [sv, h]
@[simp] theorem sv_append (l m : List (List UInt8)) : sv (l ++ m) = sv l ++ sv m := by simp [sv]
/-- the names of D, sorted; those that p takes -/
def keysS {α : Type} (D : List (List UInt8 × α)) : List (List UInt8) := (D.map (·.1)).mergeSort (fun x y => decide (x ≤ y))
def namesS (p : Fil → Bool) (D : List (List UInt8 × Fil)) : List (List UInt8) := (keysS D).filter fun k => p ((getK k D).getD noFil)

theorem strKeys_mpD (l : List (List UInt8 × Value)) : strKeys (mpD l) = l.map (·.1) := by
  unfold strKeys mpD
  simp only [List.map_map]
  rfl

set_option maxRecDepth 100000 in
theorem isNow83 (v : Value) (f : Fil) (w : World) (hv : FilT w v f) : Calls Tryz.prog 83 #[v] w fun e w' => e = .returned (.bool f.isNow) ∧ Below w.heap.size w w' := by
  obtain ⟨sa, sc, na, nc, la, lc, rfl, t1, t2, t3⟩ := hv
  clear t1 t2 t3
  go_enter Tryz.func83, Tryz.ntmps83
  go_wp2
  go_ret
  exact ⟨rfl, (Below.refl _ _).alloc (Nat.le_refl _) _⟩
set_option maxRecDepth 100000 in
theorem loose79 (v : Value) (f : Fil) (w : World) (hv : FilT w v f) : Calls Tryz.prog 79 #[v] w fun e w' => e = .returned (.bool (decide (0 < f.loose.length))) ∧ Below w.heap.size w w' := by
  obtain ⟨sa, sc, na, nc, la, lc, rfl, t1, t2, t3⟩ := hv
  clear t1 t2 t3
  go_enter Tryz.func79, Tryz.ntmps79
  go_wp2
  go_ret
  exact ⟨by simp, (Below.refl _ _).alloc (Nat.le_refl _) _⟩

/-- slices.Sorted(maps.Keys(d.l)) -/
theorem sorted99 (d mb : Nat) (D : List (List UInt8 × Fil)) (w : World) (h : Dp w d mb D) (hn : D.length < 1000000000) :
    Calls Tryz.prog 99 #[.func (.func 116) #[] #[.pointer (some ⟨w.heap.size, 0, none⟩)]] (w.alloc (.cells #[.map (some mb)] 89)) fun e w' => ∃ v, e = .returned v ∧
      w'.ownsRow w.heap.size 9 1 v (keysS D).length (sv (keysS D)) ∧ Below w.heap.size w w' := by
  obtain ⟨l, h1, h2⟩ := h.2
  have hsz : Maps.size (mpD l) = D.length := by
    unfold mpD
    rw [Maps.size_eq, List.length_map]
    exact h2.length
  refine (callsIn_wide.1 (Tryz.slices_Sorted_keys_99_100 mb _ (mpD l) RV w h1 (by rw [hsz]; unfold maxLen; omega) (by rw [hsz]; omega))).mono ?_
  rintro e w' ⟨v, ss, rfl, hp, hown, _, hb⟩
  have hk : (ss.mergeSort fun x y => decide (x ≤ y)) = keysS D := by
    rw [strKeys_mpD, h2.keys] at hp
    exact mergeSort_of_perm hp
  have hl : ss.length = (keysS D).length := by rw [← hk, List.length_mergeSort]
  rw [hk, hl] at hown
  exact ⟨v, rfl, hown.base (by simp), ((Below.refl _ _).alloc (Nat.le_refl _) _).trans (hb.mono (by simp))⟩

/-- a name, in a new block -/
theorem Sv.one (w : World) (k : List UInt8) (g : Nat) (hg : g = w.heap.size) : Sl (w.alloc (.cells #[.string (tx k)] 9)) 1 (.slice (some ⟨g, 0, none⟩) 1 1) 1 [.string (tx k)] := by
  subst hg
  refine ⟨by simp, (fun u hu => by simp only [List.mem_singleton] at hu; subst hu; rfl), some ⟨w.heap.size, 0, none⟩, 1, rfl, Nat.le_refl _, by decide, (fun h => by cases h), Or.inr ⟨w.heap.size, 0, rfl, fun j u hj => ?_⟩⟩
  match j, hj with
  | 0, hj =>
    cases hj
    rw [World.cell?_alloc_at _ _ _ _ rfl]
    rfl
theorem info9 : (Tryz.prog.info? 9).map (fun i => (i.zero, i.size, i.bytes)) = some (some (.string ⟨#[]⟩), 1, 16) := by kernel_rfl
theorem own_below {w w' : World} {B B' : Nat} {e : TypeId} {sz : Nat} {v : Value} {n : Nat} {xs : List Value} (h : w.ownsRow B e sz v n xs) (hb : Below B' w w') (hB : w.heap.size ≤ B') : w'.ownsRow B e sz v n xs := by
  refine ⟨h.1, ?_⟩
  rcases h.2 with h2 | ⟨g, cap, cur, h3, h4, h5, r⟩
  · exact Or.inl h2
  · exact Or.inr ⟨g, cap, cur, h3, h4, (hb.block g (Nat.lt_of_lt_of_le (lt_of_get h5) hB)).trans h5, r⟩
def nf (p : Fil → Bool) (D : List (List UInt8 × Fil)) (ks : List (List UInt8)) (k : Nat) : List (List UInt8) := (ks.take k).filter fun k => p ((getK k D).getD noFil)
theorem nf_yes {p : Fil → Bool} {D : List (List UInt8 × Fil)} {ks : List (List UInt8)} {k : Nat} (h : k < ks.length) (hp : p ((getK ks[k] D).getD noFil) = true) : nf p D ks (k + 1) = nf p D ks k ++ [ks[k]] := by
  unfold nf
  rw [List.take_succ_eq_append_getElem h, List.filter_append]
  simp [hp]
theorem nf_no {p : Fil → Bool} {D : List (List UInt8 × Fil)} {ks : List (List UInt8)} {k : Nat} (h : k < ks.length) (hp : p ((getK ks[k] D).getD noFil) = false) : nf p D ks (k + 1) = nf p D ks k := by
  unfold nf
  rw [List.take_succ_eq_append_getElem h, List.filter_append]
  simp [hp]
theorem nf_all (p : Fil → Bool) (D : List (List UInt8 × Fil)) (ks : List (List UInt8)) : nf p D ks ks.length = ks.filter fun k => p ((getK k D).getD noFil) := by
  unfold nf
  rw [List.take_length]
theorem nf_le (p : Fil → Bool) (D : List (List UInt8 × Fil)) (ks : List (List UInt8)) (k : Nat) : (nf p D ks k).length ≤ ks.length := by
  unfold nf
  refine Nat.le_trans (List.length_filter_le _ _) ?_
  simp; omega

/-! ### names -/

set_option maxRecDepth 100000 in
set_option maxHeartbeats 1600000 in
theorem names78_83 (d mb : Nat) (D : List (List UInt8 × Fil)) (w : World) (h : Dp w d mb D) (hn : D.length < 1000000000) (hk : ∀ k ∈ keysS D, k.length ≤ 64) :
    Calls Tryz.prog 78 #[.pointer (some ⟨d, 0, none⟩), .func (.func 83) #[] #[]] w fun e w' => ∃ v, e = .returned v ∧
      w'.ownsRow w.heap.size 9 1 v (namesS (fun f => f.isNow) D).length (sv (namesS (fun f => f.isNow) D)) ∧ Below w.heap.size w w' := by
  obtain ⟨ks, hks⟩ : ∃ ks, ks = keysS D := ⟨_, rfl⟩
  have hlen : ks.length = D.length := by rw [hks]; unfold keysS; simp
  unfold namesS
  rw [← hks] at hk ⊢
  have HS := Lib.hid hks
  clear hks
  have hc := h.cell
  have HN := Lib.hid hn
  have HL := Lib.hid hlen
  clear hlen
  have hb0 := (Below.refl w.heap.size w).alloc (Nat.le_refl _) (Obj.cells #[Value.map (some mb)] 89)
  have HH := Lib.hid h
  go_enter Tryz.func78, Tryz.ntmps78
  go_wp2_with (first
    | (go_at_call 81; (with_reducible refine (there81 d mb D _ HH.out).mono ?_); rintro e w1 ⟨rfl, rfl⟩)
    | (go_at_call 100; (with_reducible refine (callsIn_wide.1 (Tryz.maps_Keys_100 (some mb) _)).mono ?_); rintro e w1 ⟨rfl, rfl⟩)
    | (go_at_call 99; (with_reducible refine (sorted99 d mb D _ HH.out HN.out).mono ?_); rintro e w1 ⟨v1, rfl, hown, hb1⟩; rw [← HS.out] at hown; obtain ⟨ao, cap, rfl⟩ := own_shape hown))
  have HO := Lib.hid (Sl.of_own hown (sv_one _))
  obtain ⟨_, _, _, _, hv, y3, y4, y6, y5⟩ := HO.out
  cases hv
  have Y5 := Lib.hid y5
  clear y5 y6 HO
  go_loopw [5, 18] (fun v i wr => ∃ k : Nat, k ≤ ks.length ∧ i = .int .i64 k ∧ wr.ownsRow w1.heap.size 9 1 v (nf (fun f => f.isNow) D ks k).length (sv (nf (fun f => f.isNow) D ks k)) ∧ Below w1.heap.size w1 wr) (fun _ i _ => ks.length - (intOf i).toNat)
  case atStart => exact ⟨0, Nat.zero_le _, rfl, World.ownsRow_nil _ _ _ _, Below.refl _ _⟩
  case round =>
    obtain ⟨k, hk1, rfl, hown1, hbel1⟩ := hrel
    have hks9 : ks.length < 1000000000 := by rw [HL.out]; exact HN.out
    by_cases hlt : k < ks.length
    · obtain ⟨g, off, rfl, hcc⟩ := Y5.out.resolve_left (by omega)
      have d1 := hcc k _ (sv_get ks k hlt)
      rw [← hbel1.cell (p := ⟨g, off + k, none⟩) (World.block_lt_of_cell? w1 _ d1)] at d1
      have hDw := h.below (hb1.trans (hbel1.mono hb1.size)) (Nat.le_refl _)
      have hc1 := hDw.cell
      obtain ⟨f, hf⟩ : ∃ f, f = (getK ks[k] D).getD noFil := ⟨_, rfl⟩
      obtain ⟨sa, sc, na, nc, la, lc, hrun, _, hT⟩ := look_run _ mb D hDw.2 ks[k] (by have := hk ks[k] (List.getElem_mem hlt); unfold maxLen; omega)
      rw [← hf] at hrun hT
      obtain ⟨b, hb⟩ : ∃ b, b = (fun f : Fil => f.isNow) f := ⟨_, rfl⟩
      cases b with
      | false =>
        have hs := nf_no hlt (p := fun f => f.isNow) (D := D) (by rw [← hf]; exact hb.symm)
        have HSS := Lib.hid hs
        have HF := Lib.hid hf
        have HB := Lib.hid hb
        clear hs hf hb
        go_wp2_with (first | (go_at_call 83; (with_reducible refine (isNow83 _ _ _ hT).mono ?_); rintro e w2 ⟨rfl, hb2⟩; rw [← HB.out]))
        go_roundw
        case rel => exact ⟨k + 1, by omega, by go_num, by rw [HSS.out]; exact own_below hown1 hb2 (Nat.le_refl _), hbel1.trans (hb2.mono hbel1.size)⟩
        case measure => simp [intOf]; omega
      | true =>
        have hs := nf_yes hlt (p := fun f => f.isNow) (D := D) (by rw [← hf]; exact hb.symm)
        have HSS := Lib.hid hs
        have HF := Lib.hid hf
        have HB := Lib.hid hb
        have hle := nf_le (fun f => f.isNow) D ks k
        clear hs hf hb
        go_wp2_with (first
          | (go_at_call 83; (with_reducible refine (isNow83 _ _ _ hT).mono ?_); rintro e w2 ⟨rfl, hb2⟩; rw [← HB.out])
          | (at_builtin; refine wl_app rfl _ _ _ rfl w1.heap.size 9 _ 1 16 Tryz.underlying66 info9 rfl (by decide) _ _ _ rfl ((own_below hown1 hb2 (Nat.le_refl _)).alloc _) _ 1 [.string (tx ks[k])] rfl (Sv.one _ _ _ rfl) (by unfold maxLen; omega) (by omega) (by have := hbel1.size; have := hb2.size; simp; omega) ?_; intro v2 w3 hown2 hgrow2))
        go_roundw
        case rel =>
          have hbx := hbel1.trans (hb2.mono hbel1.size)
          exact ⟨k + 1, by omega, by go_num, by rw [HSS.out]; simpa [show sv [ks[k]] = [Value.string (tx ks[k])] from rfl] using hown2, (hbx.alloc hbx.size _).grown hgrow2 (by have := hbx.size; simp; omega) (fun b hb => (hown1.lt b hb).1)⟩
        case measure => simp [intOf]; omega
    · have hkl : k = ks.length := by omega
      subst hkl
      go_wp2
      go_ret
      rw [nf_all] at hown1
      exact ⟨_, rfl, hown1.base hb1.size, hb1.trans (hbel1.mono hb1.size)⟩

set_option maxRecDepth 100000 in
set_option maxHeartbeats 1600000 in
theorem names78_79 (d mb : Nat) (D : List (List UInt8 × Fil)) (w : World) (h : Dp w d mb D) (hn : D.length < 1000000000) (hk : ∀ k ∈ keysS D, k.length ≤ 64) :
    Calls Tryz.prog 78 #[.pointer (some ⟨d, 0, none⟩), .func (.func 79) #[] #[]] w fun e w' => ∃ v, e = .returned v ∧
      w'.ownsRow w.heap.size 9 1 v (namesS (fun f => decide (0 < f.loose.length)) D).length (sv (namesS (fun f => decide (0 < f.loose.length)) D)) ∧ Below w.heap.size w w' := by
  obtain ⟨ks, hks⟩ : ∃ ks, ks = keysS D := ⟨_, rfl⟩
  have hlen : ks.length = D.length := by rw [hks]; unfold keysS; simp
  unfold namesS
  rw [← hks] at hk ⊢
  have HS := Lib.hid hks
  clear hks
  have hc := h.cell
  have HN := Lib.hid hn
  have HL := Lib.hid hlen
  clear hlen
  have hb0 := (Below.refl w.heap.size w).alloc (Nat.le_refl _) (Obj.cells #[Value.map (some mb)] 89)
  have HH := Lib.hid h
  go_enter Tryz.func78, Tryz.ntmps78
  go_wp2_with (first
    | (go_at_call 81; (with_reducible refine (there81 d mb D _ HH.out).mono ?_); rintro e w1 ⟨rfl, rfl⟩)
    | (go_at_call 100; (with_reducible refine (callsIn_wide.1 (Tryz.maps_Keys_100 (some mb) _)).mono ?_); rintro e w1 ⟨rfl, rfl⟩)
    | (go_at_call 99; (with_reducible refine (sorted99 d mb D _ HH.out HN.out).mono ?_); rintro e w1 ⟨v1, rfl, hown, hb1⟩; rw [← HS.out] at hown; obtain ⟨ao, cap, rfl⟩ := own_shape hown))
  have HO := Lib.hid (Sl.of_own hown (sv_one _))
  obtain ⟨_, _, _, _, hv, y3, y4, y6, y5⟩ := HO.out
  cases hv
  have Y5 := Lib.hid y5
  clear y5 y6 HO
  go_loopw [5, 18] (fun v i wr => ∃ k : Nat, k ≤ ks.length ∧ i = .int .i64 k ∧ wr.ownsRow w1.heap.size 9 1 v (nf (fun f => decide (0 < f.loose.length)) D ks k).length (sv (nf (fun f => decide (0 < f.loose.length)) D ks k)) ∧ Below w1.heap.size w1 wr) (fun _ i _ => ks.length - (intOf i).toNat)
  case atStart => exact ⟨0, Nat.zero_le _, rfl, World.ownsRow_nil _ _ _ _, Below.refl _ _⟩
  case round =>
    obtain ⟨k, hk1, rfl, hown1, hbel1⟩ := hrel
    have hks9 : ks.length < 1000000000 := by rw [HL.out]; exact HN.out
    by_cases hlt : k < ks.length
    · obtain ⟨g, off, rfl, hcc⟩ := Y5.out.resolve_left (by omega)
      have d1 := hcc k _ (sv_get ks k hlt)
      rw [← hbel1.cell (p := ⟨g, off + k, none⟩) (World.block_lt_of_cell? w1 _ d1)] at d1
      have hDw := h.below (hb1.trans (hbel1.mono hb1.size)) (Nat.le_refl _)
      have hc1 := hDw.cell
      obtain ⟨f, hf⟩ : ∃ f, f = (getK ks[k] D).getD noFil := ⟨_, rfl⟩
      obtain ⟨sa, sc, na, nc, la, lc, hrun, _, hT⟩ := look_run _ mb D hDw.2 ks[k] (by have := hk ks[k] (List.getElem_mem hlt); unfold maxLen; omega)
      rw [← hf] at hrun hT
      obtain ⟨b, hb⟩ : ∃ b, b = (fun f : Fil => decide (0 < f.loose.length)) f := ⟨_, rfl⟩
      cases b with
      | false =>
        have hs := nf_no hlt (p := fun f => decide (0 < f.loose.length)) (D := D) (by rw [← hf]; exact hb.symm)
        have HSS := Lib.hid hs
        have HF := Lib.hid hf
        have HB := Lib.hid hb
        clear hs hf hb
        go_wp2_with (first | (go_at_call 79; (with_reducible refine (loose79 _ _ _ hT).mono ?_); rintro e w2 ⟨rfl, hb2⟩; rw [← HB.out]))
        go_roundw
        case rel => exact ⟨k + 1, by omega, by go_num, by rw [HSS.out]; exact own_below hown1 hb2 (Nat.le_refl _), hbel1.trans (hb2.mono hbel1.size)⟩
        case measure => simp [intOf]; omega
      | true =>
        have hs := nf_yes hlt (p := fun f => decide (0 < f.loose.length)) (D := D) (by rw [← hf]; exact hb.symm)
        have HSS := Lib.hid hs
        have HF := Lib.hid hf
        have HB := Lib.hid hb
        have hle := nf_le (fun f => decide (0 < f.loose.length)) D ks k
        clear hs hf hb
        go_wp2_with (first
          | (go_at_call 79; (with_reducible refine (loose79 _ _ _ hT).mono ?_); rintro e w2 ⟨rfl, hb2⟩; rw [← HB.out])
          | (at_builtin; refine wl_app rfl _ _ _ rfl w1.heap.size 9 _ 1 16 Tryz.underlying66 info9 rfl (by decide) _ _ _ rfl ((own_below hown1 hb2 (Nat.le_refl _)).alloc _) _ 1 [.string (tx ks[k])] rfl (Sv.one _ _ _ rfl) (by unfold maxLen; omega) (by omega) (by have := hbel1.size; have := hb2.size; simp; omega) ?_; intro v2 w3 hown2 hgrow2))
        go_roundw
        case rel =>
          have hbx := hbel1.trans (hb2.mono hbel1.size)
          exact ⟨k + 1, by omega, by go_num, by rw [HSS.out]; simpa [show sv [ks[k]] = [Value.string (tx ks[k])] from rfl] using hown2, (hbx.alloc hbx.size _).grown hgrow2 (by have := hbx.size; simp; omega) (fun b hb => (hown1.lt b hb).1)⟩
        case measure => simp [intOf]; omega
    · have hkl : k = ks.length := by omega
      subst hkl
      go_wp2
      go_ret
      rw [nf_all] at hown1
      exact ⟨_, rfl, hown1.base hb1.size, hb1.trans (hbel1.mono hb1.size)⟩

set_option maxRecDepth 100000 in
theorem names44 (d mb : Nat) (D : List (List UInt8 × Fil)) (w : World) (h : Dp w d mb D) (hn : D.length < 1000000000) (hk : ∀ k ∈ keysS D, k.length ≤ 64) :
    Calls Tryz.prog 44 #[.pointer (some ⟨d, 0, none⟩)] w fun e w' => ∃ v, e = .returned v ∧
      w'.ownsRow w.heap.size 9 1 v (namesS (fun f => f.isNow) D).length (sv (namesS (fun f => f.isNow) D)) ∧ Below w.heap.size w w' := by
  have hr := names78_83 d mb D w h hn hk
  clear h hn hk
  go_enter Tryz.func44, Tryz.ntmps44
  go_wp2_with (go_at_call 78; (with_reducible refine hr.mono ?_); rintro e w1 ⟨v, rfl, hown, hb⟩; obtain ⟨ao, cap, rfl⟩ := own_shape hown)
  go_ret
  exact ⟨_, rfl, hown, hb⟩

set_option maxRecDepth 100000 in
theorem loose33 (d mb : Nat) (D : List (List UInt8 × Fil)) (w : World) (h : Dp w d mb D) (hn : D.length < 1000000000) (hk : ∀ k ∈ keysS D, k.length ≤ 64) :
    Calls Tryz.prog 33 #[.pointer (some ⟨d, 0, none⟩)] w fun e w' => ∃ v, e = .returned v ∧
      w'.ownsRow w.heap.size 9 1 v (namesS (fun f => decide (0 < f.loose.length)) D).length (sv (namesS (fun f => decide (0 < f.loose.length)) D)) ∧ Below w.heap.size w w' := by
  have hr := names78_79 d mb D w h hn hk
  clear h hn hk
  go_enter Tryz.func33, Tryz.ntmps33
  go_wp2_with (go_at_call 78; (with_reducible refine hr.mono ?_); rintro e w1 ⟨v, rfl, hown, hb⟩; obtain ⟨ao, cap, rfl⟩ := own_shape hown)
  go_ret
  exact ⟨_, rfl, hown, hb⟩

def manyS (D : List (List UInt8 × Fil)) : Nat := (namesS (fun f => f.isNow) D).length
theorem manyS_le (D : List (List UInt8 × Fil)) : manyS D ≤ D.length := by
  unfold manyS namesS
  refine Nat.le_trans (List.length_filter_le _ _) ?_
  simp [keysS]
set_option maxRecDepth 100000 in
theorem many73 (d mb : Nat) (D : List (List UInt8 × Fil)) (w : World) (h : Dp w d mb D) (hn : D.length < 1000000000) (hk : ∀ k ∈ keysS D, k.length ≤ 64) :
    Calls Tryz.prog 73 #[.pointer (some ⟨d, 0, none⟩)] w fun e w' => e = .returned (.int .i64 (manyS D)) ∧ Below w.heap.size w w' := by
  have hr := names44 d mb D w h hn hk
  unfold manyS
  clear h hn hk
  go_enter Tryz.func73, Tryz.ntmps73
  go_wp2_with (go_at_call 44; (with_reducible refine hr.mono ?_); rintro e w1 ⟨v, rfl, hown, hb⟩; obtain ⟨ao, cap, rfl⟩ := own_shape hown)
  go_ret
  exact ⟨rfl, hb⟩
end Go.Proofs.YtpcipfnahknngaaGreatDoor

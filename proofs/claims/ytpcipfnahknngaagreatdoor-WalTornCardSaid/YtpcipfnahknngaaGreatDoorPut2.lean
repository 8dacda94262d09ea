/- Contract of wal.put. No statement of the seat. -/
import Derived.Test.YtpcipfnahknngaaGreatDoorPut
namespace Go.Proofs.YtpcipfnahknngaaGreatDoor
open Go.RowKit Go.Maps

theorem info25 : (Tryz.prog.info? 25).map (fun i => (i.zero, i.size, i.bytes)) = some (some (.agg #[.int .u64 0, .int .u64 0, .slice none 0 0]), 3, 40) := by kernel_rfl
def putE (l : List Ent) (x : Ent) : List Ent := l.take (idxN l x.i) ++ [x]

theorem enCells_take (l : List Ent) (us : List Value) (h : us.length = l.length) (k : Nat) (hk : k ≤ l.length) : enCells (l.take k) (us.take k) = (enCells l us).take (k * 3) := by
  have e := enCells_app (l.take k) (us.take k) (by simp; omega) (l.drop k) (us.drop k)
  rw [List.take_append_drop, List.take_append_drop] at e
  rw [e, List.take_left' (by rw [enCells_len _ _ (by simp; omega)]; simp; omega)]
theorem Es.take {w : World} {ao : Option Addr} {cap : Nat} {l : List Ent} (h : Es w (.slice ao l.length cap) l) (k : Nat) (hk : k ≤ l.length) : Es w (.slice ao k cap) (l.take k) := by
  obtain ⟨us, u1, ⟨y1, y2, ao', cap', hv, y3, y4, y7, y5⟩, hT, hu⟩ := h
  cases hv
  have hl : (l.take k).length = k := by simp; omega
  refine ⟨us.take k, by simp; omega, ?_, fun g hg => hT g (by cases ao with | none => cases hg | some a => exact hg), fun j hj => ?_⟩
  · rw [hl]
    refine ⟨by rw [enCells_len _ _ (by simp; omega), hl], ?_, ao, cap, rfl, by omega, y4, y7, ?_⟩
    · rw [enCells_take l us u1 k hk]
      exact fun x hx => y2 x (List.mem_of_mem_take hx)
    · rcases y5 with y5 | ⟨g, off, e, hc⟩
      · exact Or.inl (by omega)
      · refine Or.inr ⟨g, off, e, fun j x hj => hc j x ?_⟩
        rw [enCells_take l us u1 k hk, List.getElem?_take] at hj
        split at hj
        · exact hj
        · cases hj
  · obtain ⟨u, a, b⟩ := hu j (by rw [hl] at hj; omega)
    refine ⟨u, by rw [List.getElem?_take, if_pos (by rw [hl] at hj; exact hj)]; exact a, ?_⟩
    rw [List.getElem_take]
    exact b

theorem enCells_snoc (l : List Ent) (us : List Value) (h : us.length = l.length) (c : Ent) (u : Value) : enCells (l ++ [c]) (us ++ [u]) = enCells l us ++ [.int .u64 c.i, .int .u64 c.t, u] := enCells_app l us h [c] [u]
theorem step_es {ops : Array Oper} {o : Oper} {a : Act} {w : World} {K : Act → World → Prop} {Q : Exit → Act → World → Prop} {E : Prop}
    (hg : o.guard = none) (s x : Operand) (hop : o.op = Op.call { callee := Callee.builtin Builtin.append, args := #[s, x], argTypes := #[35, 35] })
    (la : Option Addr) (lc : Nat) (cs : List Ent) (c : Ent) (u : Value) (g : Nat) (hs : a.eval s = .slice la cs.length cs.length) (hx : a.eval x = .slice (some ⟨g, 0, none⟩) 1 1)
    (hT : Es w (.slice la cs.length lc) cs) (x0 : w.cell? ⟨g, 0, none⟩ = some (.int .u64 c.i)) (x1 : w.cell? ⟨g, 1, none⟩ = some (.int .u64 c.t)) (x2 : w.cell? ⟨g, 2, none⟩ = some u) (hu : BtT w u c.b)
    (hl : cs.length < 1000000000000)
    (hK : ∀ la' lc' w', Es w' (.slice la' (cs ++ [c]).length lc') (cs ++ [c]) → Below w.heap.size w w' → K (a.put o.dst (.slice la' (cs ++ [c]).length lc')) w') :
    if Region.wanted o (yielded ops a.tmps) = true then Oper.wp Tryz.prog o a w K Q else E := by
  obtain ⟨us, u1, ⟨s1, s2, ao, cap, hv, s3, s4, s6, s5⟩, u3, u4⟩ := hT
  cases hv
  obtain ⟨i0, hi, hz0, hz1, hz2⟩ := info_parts info25
  have hone := hu.1.slice
  refine step_append_grows hg s x 35 hop 25 i0 _ 3 40 Tryz.underlying35 hi hz0 hz1 hz2 rfl (by decide) la cs.length cs.length (enCells cs us) hs ?_ s1 ?_ ⟨g, 0, none⟩ 1 1
    [.int .u64 c.i, .int .u64 c.t, u] hx rfl ?_ ?_ (by omega) (by unfold maxLen; omega) (by omega) ?_
  · intro h
    have := s6 h
    omega
  · intro b hb j v hj
    rcases s5 with s5 | ⟨g', off, rfl, s5⟩
    · have : (enCells cs us) = [] := List.eq_nil_of_length_eq_zero (by rw [s1, s5])
      rw [this] at hj; simp at hj
    · cases hb
      have h2 := s5 j v hj
      unfold Addr.add
      split
      · rename_i h3; subst h3; exact h2
      · exact h2
  · intro j v hj
    match j, hj with
    | 0, hj => cases hj; exact x0
    | 1, hj => cases hj; exact x1
    | 2, hj => cases hj; exact x2
  · intro v hv
    simp only [List.mem_cons, List.not_mem_nil, or_false] at hv
    rcases hv with rfl | rfl | rfl
    · rfl
    · rfl
    · exact hone
  · intro v' w' hown hgrow
    have hb := below_grown hgrow
    have hT := Ty.of_own hown
    rw [← enCells_snoc cs us u1 c u] at hown
    have hlen : cs.length + 1 = (cs ++ [c]).length := by simp
    rw [hlen] at hown
    have hS : Sl w' 3 v' (cs ++ [c]).length (enCells (cs ++ [c]) (us ++ [u])) := Sl.of_own hown (by
      rw [enCells_snoc cs us u1 c u]
      intro y hy
      rcases List.mem_append.1 hy with hy | hy
      · exact s2 y hy
      · simp only [List.mem_cons, List.not_mem_nil, or_false] at hy
        rcases hy with rfl | rfl | rfl
        · rfl
        · rfl
        · exact hone)
    obtain ⟨la', lc', hv⟩ := own_shape hown
    subst hv
    refine hK la' lc' w' ⟨us ++ [u], by simp [u1], Sl.of_own hown ?_, hT, ?_⟩ hb
    · exact hS.2.1
    · have hfr : Fr noTypes w w' := Fr.of_below hb (Nat.le_refl _)
      intro k hk
      by_cases hk2 : k < cs.length
      · obtain ⟨y, y1, y2⟩ := u4 k hk2
        refine ⟨y, ?_, ?_⟩
        · rw [List.getElem?_append_left (by omega)]; exact y1
        · rw [List.getElem_append_left hk2]; exact y2.fr hfr id
      · have hk3 : k = cs.length := by simp at hk; omega
        subst hk3
        refine ⟨u, ?_, ?_⟩
        · rw [List.getElem?_append_right (by omega), u1]; simp
        · rw [List.getElem_append_right (by omega)]; simp; exact hu.fr hfr id


set_option maxRecDepth 100000 in
set_option maxHeartbeats 3200000 in
theorem put89 (l : List Ent) (x : Ent) (u : Value) (ao : Option Addr) (cap : Nat) (w : World) (h : Es w (.slice ao l.length cap) l) (hu : Bt w u x.b) (hl : l.length < 1000000000) (hx : x.b.length ≤ 140737488351232) :
    Calls Tryz.prog 89 #[.slice ao l.length cap, .agg #[.int .u64 x.i, .int .u64 x.t, u]] w fun e w' => ∃ ao' cap', e = .returned (.slice ao' (putE l x).length cap') ∧ Es w' (.slice ao' (putE l x).length cap') (putE l x) ∧ Below w.heap.size w w' := by
  obtain ⟨uo, un, uc, rfl⟩ : ∃ uo un uc, u = .slice uo un uc := by
    obtain ⟨_, _, uo, uc, rfl, _⟩ := hu
    exact ⟨_, _, _, rfl⟩
  have hb0 := (Below.refl w.heap.size w).alloc (Nat.le_refl _) (Obj.cells #[Value.int .u64 x.i, Value.int .u64 x.t, Value.slice uo un uc] 25)
  have bX := Box.new w w.heap.size 25 #[Value.int .u64 x.i, Value.int .u64 x.t, Value.slice uo un uc] rfl
  have hidx := index108 l x.i w.heap.size ao cap _ (h.fr (Fr.of_below (M := noTypes) hb0 (Nat.le_refl _)) id id) (bX.cell 0 rfl) hl
  have bX1 : ∀ W, Below (w.heap.size + 1) (w.alloc (Obj.cells #[Value.int .u64 x.i, Value.int .u64 x.t, Value.slice uo un uc] 25)) W → Box W w.heap.size 25 #[Value.int .u64 x.i, Value.int .u64 x.t, Value.slice uo un uc] := fun W hW => bX.below hW (by omega)
  have HBX := Lib.hid bX1
  by_cases hk : idxN l x.i < l.length
  · have e0 : idxI l x.i = (idxN l x.i : Int) := by unfold idxI; rw [if_pos hk]
    rw [e0] at hidx
    obtain ⟨k, hkk⟩ : ∃ k, k = idxN l x.i := ⟨_, rfl⟩
    rw [← hkk] at hidx hk
    have HI := Lib.hid hidx
    have HH := Lib.hid h
    have HU := Lib.hid hu
    have hkc : k ≤ cap := by
      obtain ⟨_, _, ⟨_, _, _, _, hv, y3, _⟩, _⟩ := h
      cases hv; omega
    have HKK := Lib.hid hkk
    clear hidx h hu e0 bX1 bX hkk
    go_enter Tryz.func89, Tryz.ntmps89
    go_wp2_with (first
      | (go_at_call 108; refine HI.out.mono ?_; rintro e w1 ⟨rfl, hb1⟩; have hb2 := hb1.mono (show w.heap.size + 1 ≤ _ by simp); have c2 := (HBX.out _ hb2).cell 2 rfl; have c3 := (HBX.out _ hb2).froz)
      | (go_at_call 56; refine (clone56 _ x.b _ (HU.out.below (hb0.trans (hb2.mono (by omega))) (Nat.le_refl _)) hx).mono ?_; rintro e w3 ⟨v3, rfl, hown3, hb3⟩; obtain ⟨a3, q3, rfl⟩ := own_shape hown3; have hb4 := hb2.trans (hb3.mono (by have := hb2.size; simpa using this)); have c4 := (HBX.out _ hb4).cell 2 rfl; have c5 := (HBX.out _ hb4).froz))
    obtain ⟨W, hW⟩ : ∃ W, W = w3.setCell { block := w.heap.size, off := 2 } (Value.slice a3 x.b.length q3) := ⟨_, rfl⟩
    rw [← hW]
    have bW : Box W w.heap.size 25 #[Value.int .u64 x.i, Value.int .u64 x.t, Value.slice a3 x.b.length q3] := by rw [hW]; exact (HBX.out _ hb4).set 2 _
    have hbW : Below w.heap.size w W := by rw [hW]; exact (hb0.trans (hb4.mono (by omega))).setCell (p := ⟨w.heap.size, 2, none⟩) (Nat.le_refl _) _
    have hEs : Es W (.slice ao k cap) (l.take k) := (HH.out.take k (by omega)).fr (Fr.of_below (M := noTypes) hbW (Nat.le_refl _)) id id
    have hfW : Fr (fun e => e = 25) w3 W := by
      rw [hW]
      refine Fr.setCell (Fr.refl _ w3) _ (fun cur e fz hh => ?_)
      have h2 : w3.heap[w.heap.size]? = some (Obj.cells cur e fz) := hh
      have h3 := HBX.out _ hb4
      unfold Box at h3
      rw [h3] at h2
      cases h2; rfl
    have hu3 : BtT W (.slice a3 x.b.length q3) x.b := (BtT.of_own hown3).fr hfW (by decide)
    have HW := Lib.hid hW
    clear hW c2 c3 c4 c5 hfW hown3
    have k0 := bW.cell 0 rfl
    have k1 := bW.cell 1 rfl
    have k2 := bW.cell 2 rfl
    have hcm : cap ≤ maxLen := by
      obtain ⟨_, _, ⟨_, _, _, _, hv, _, y4, _⟩, _⟩ := HH.out
      cases hv; exact y4
    obtain ⟨R, hR⟩ : ∃ R, R = l.take k := ⟨_, rfl⟩
    have hRl : R.length = k := by rw [hR]; simp; omega
    have hPE : putE l x = R ++ [x] := by unfold putE; rw [← HKK.out, hR]
    rw [← hR] at hEs
    have HPE := Lib.hid hPE
    have hlt : w.heap.size < W.heap.size := bW.lt
    clear hR hPE HKK
    subst hRl
    go_must (go_region_law (first
      | (go_simp; go_at_call 110; (with_reducible refine (clip110 _ _ _ _ hkc hcm).mono ?_); rintro e w5 ⟨rfl, rfl⟩)
      | (refine step_es rfl (.tmp 19) (.tmp 21) rfl ao cap R x (.slice a3 x.b.length q3) W.heap.size (by simp [Act.eval]) (by simp [Act.eval])
          (hEs.fr (Fr.of_below (M := noTypes) (B := W.heap.size) (by repeat (first | exact Below.refl _ _ | refine Below.drew ?_ | refine Below.alloc ?_ (by first | omega | (simp; done) | (simp; omega)) _)) (Nat.le_refl _)) id id)
          (cells3 W.heap.size (B := W.heap.size + 1) (by first | exact (Below.refl _ _).drew | exact Below.refl _ _) (by simp) (by simp)).1
          (cells3 W.heap.size (B := W.heap.size + 1) (by first | exact (Below.refl _ _).drew | exact Below.refl _ _) (by simp) (by simp)).2.1
          (cells3 W.heap.size (B := W.heap.size + 1) (by first | exact (Below.refl _ _).drew | exact Below.refl _ _) (by simp) (by simp)).2.2.1
          (hu3.fr (Fr.of_below (M := noTypes) (B := W.heap.size) (by repeat (first | exact Below.refl _ _ | refine Below.drew ?_ | refine Below.alloc ?_ (by first | omega | (simp; done) | (simp; omega)) _)) (Nat.le_refl _)) id) (by omega) ?_
         intro la' lc' w6 hT6 hb6)))
    all_goals (
      go_wp2
      go_ret
      refine ⟨la', lc', ?_, ?_, ?_⟩
      · rw [HPE.out, List.length_append]; rfl
      · rw [HPE.out]; exact hT6
      · refine hbW.trans (Below.trans ?_ (hb6.mono (by simp; omega)))
        repeat (first | exact Below.refl _ _ | refine Below.drew ?_ | refine Below.alloc ?_ (by first | omega | (simp; done) | (simp; omega)) _))
  · have e0 : idxI l x.i = -1 := by unfold idxI; rw [if_neg hk]
    rw [e0] at hidx
    have hki : idxN l x.i = l.length := Nat.le_antisymm (by unfold idxN; exact (List.takeWhile_sublist _).length_le) (by omega)
    have HKK := Lib.hid hki
    clear hki hk
    have HI := Lib.hid hidx
    have HH := Lib.hid h
    have HU := Lib.hid hu
    have hkc : l.length ≤ cap := by
      obtain ⟨_, _, ⟨_, _, _, _, hv, y3, _⟩, _⟩ := h
      cases hv; omega
    clear hidx h hu e0 bX1 bX
    go_enter Tryz.func89, Tryz.ntmps89
    go_wp2_with (first
      | (go_at_call 108; refine HI.out.mono ?_; rintro e w1 ⟨rfl, hb1⟩; have hb2 := hb1.mono (show w.heap.size + 1 ≤ _ by simp); have c2 := (HBX.out _ hb2).cell 2 rfl; have c3 := (HBX.out _ hb2).froz)
      | (go_at_call 56; refine (clone56 _ x.b _ (HU.out.below (hb0.trans (hb2.mono (by omega))) (Nat.le_refl _)) hx).mono ?_; rintro e w3 ⟨v3, rfl, hown3, hb3⟩; obtain ⟨a3, q3, rfl⟩ := own_shape hown3; have hb4 := hb2.trans (hb3.mono (by have := hb2.size; simpa using this)); have c4 := (HBX.out _ hb4).cell 2 rfl; have c5 := (HBX.out _ hb4).froz))
    obtain ⟨W, hW⟩ : ∃ W, W = w3.setCell { block := w.heap.size, off := 2 } (Value.slice a3 x.b.length q3) := ⟨_, rfl⟩
    rw [← hW]
    have bW : Box W w.heap.size 25 #[Value.int .u64 x.i, Value.int .u64 x.t, Value.slice a3 x.b.length q3] := by rw [hW]; exact (HBX.out _ hb4).set 2 _
    have hbW : Below w.heap.size w W := by rw [hW]; exact (hb0.trans (hb4.mono (by omega))).setCell (p := ⟨w.heap.size, 2, none⟩) (Nat.le_refl _) _
    have hEs : Es W (.slice ao l.length cap) l := HH.out.fr (Fr.of_below (M := noTypes) hbW (Nat.le_refl _)) id id
    have hfW : Fr (fun e => e = 25) w3 W := by
      rw [hW]
      refine Fr.setCell (Fr.refl _ w3) _ (fun cur e fz hh => ?_)
      have h2 : w3.heap[w.heap.size]? = some (Obj.cells cur e fz) := hh
      have h3 := HBX.out _ hb4
      unfold Box at h3
      rw [h3] at h2
      cases h2; rfl
    have hu3 : BtT W (.slice a3 x.b.length q3) x.b := (BtT.of_own hown3).fr hfW (by decide)
    have HW := Lib.hid hW
    clear hW c2 c3 c4 c5 hfW hown3
    have k0 := bW.cell 0 rfl
    have k1 := bW.cell 1 rfl
    have k2 := bW.cell 2 rfl
    have hcm : cap ≤ maxLen := by
      obtain ⟨_, _, ⟨_, _, _, _, hv, _, y4, _⟩, _⟩ := HH.out
      cases hv; exact y4
    have hPE : putE l x = l ++ [x] := by unfold putE; rw [HKK.out, List.take_length]
    have HPE := Lib.hid hPE
    have hlt : w.heap.size < W.heap.size := bW.lt
    clear hPE HKK
    go_must (go_region_law (first
      | (go_simp; go_at_call 110; (with_reducible refine (clip110 _ _ _ _ hkc hcm).mono ?_); rintro e w5 ⟨rfl, rfl⟩)
      | (refine step_es rfl (.tmp 19) (.tmp 21) rfl ao cap l x (.slice a3 x.b.length q3) W.heap.size (by simp [Act.eval]) (by simp [Act.eval])
          (hEs.fr (Fr.of_below (M := noTypes) (B := W.heap.size) (by repeat (first | exact Below.refl _ _ | refine Below.drew ?_ | refine Below.alloc ?_ (by first | omega | (simp; done) | (simp; omega)) _)) (Nat.le_refl _)) id id)
          (cells3 W.heap.size (B := W.heap.size + 1) (by first | exact (Below.refl _ _).drew | exact Below.refl _ _) (by simp) (by simp)).1
          (cells3 W.heap.size (B := W.heap.size + 1) (by first | exact (Below.refl _ _).drew | exact Below.refl _ _) (by simp) (by simp)).2.1
          (cells3 W.heap.size (B := W.heap.size + 1) (by first | exact (Below.refl _ _).drew | exact Below.refl _ _) (by simp) (by simp)).2.2.1
          (hu3.fr (Fr.of_below (M := noTypes) (B := W.heap.size) (by repeat (first | exact Below.refl _ _ | refine Below.drew ?_ | refine Below.alloc ?_ (by first | omega | (simp; done) | (simp; omega)) _)) (Nat.le_refl _)) id) (by omega) ?_
         intro la' lc' w6 hT6 hb6)))
    all_goals (
      go_wp2
      go_ret
      refine ⟨la', lc', ?_, ?_, ?_⟩
      · rw [HPE.out, List.length_append]; rfl
      · rw [HPE.out]; exact hT6
      · refine hbW.trans (Below.trans ?_ (hb6.mono (by simp; omega)))
        repeat (first | exact Below.refl _ _ | refine Below.drew ?_ | refine Below.alloc ?_ (by first | omega | (simp; done) | (simp; omega)) _))
end Go.Proofs.YtpcipfnahknngaaGreatDoor

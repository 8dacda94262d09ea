/- Contract of disk.put that appends. No statement of the seat. -/
import Derived.Test.YtpcipfnahknngaaGreatDoorDiskPut
namespace Go.Proofs.YtpcipfnahknngaaGreatDoor
open Go.RowKit Go.Maps

/-- a box: a block of cells of type t, none frozen -/
def Box (w : World) (g : Nat) (t : TypeId) (xs : Array Value) : Prop := w.heap[g]? = some (Obj.cells xs t (0, 0))
theorem Box.cell {w : World} {g : Nat} {t : TypeId} {xs : Array Value} (h : Box w g t xs) (j : Nat) {u : Value} (hu : xs[j]? = some u) : w.cell? ⟨g, j, none⟩ = some u := by
  rw [cell_of_row w g j xs t (0, 0) h, hu]
theorem Box.froz {w : World} {g : Nat} {t : TypeId} {xs : Array Value} (h : Box w g t xs) (j : Nat) : w.frozen? ⟨g, j, none⟩ = false := by
  unfold Box at h
  simp [World.frozen?, h]
theorem Box.set {w : World} {g : Nat} {t : TypeId} {xs : Array Value} (h : Box w g t xs) (j : Nat) (u : Value) : Box (w.setCell ⟨g, j, none⟩ u) g t (xs.setIfInBounds j u) := heap_setCell_same w g j xs t u h
theorem Box.other {w : World} {g : Nat} {t : TypeId} {xs : Array Value} (h : Box w g t xs) (a : Addr) (u : Value) (hne : g ≠ a.block) : Box (w.setCell a u) g t xs := (Below.heap_setCell _ _ _ _ hne).trans h
theorem Box.below {w w' : World} {g : Nat} {t : TypeId} {xs : Array Value} (h : Box w g t xs) {B : Nat} (hb : Below B w w') (hg : g < B) : Box w' g t xs := (hb.block g hg).trans h
theorem Box.new (w : World) (g : Nat) (t : TypeId) (xs : Array Value) (hg : g = w.heap.size) : Box (w.alloc (.cells xs t)) g t xs := by
  subst hg
  exact heap_alloc_new w _
theorem Box.lt {w : World} {g : Nat} {t : TypeId} {xs : Array Value} (h : Box w g t xs) : g < w.heap.size := lt_of_get h

theorem Bts.two' (g : Nat) (w : World) (u v : Value) (l m : List UInt8) (hg : g = w.heap.size) (hu : Bt w u l) (hv : Bt w v m) :
    Bts (w.alloc (.cells #[u, v] 23)) (.slice (some ⟨g, 0, none⟩) 2 2) [l, m] := by
  subst hg
  exact Bts.two w u v l m hu hv

set_option maxRecDepth 100000 in
set_option maxHeartbeats 3200000 in
theorem put74_app (d mb : Nat) (D : List (List UInt8 × Fil)) (k : List UInt8) (ca : Option Addr) (cc : Nat) (cb : List UInt8) (w : World) (h : Dp w d mb D) (hc : BtT w (.slice ca cb.length cc) cb)
    (hk : k.length ≤ 64) (hn : D.length < maxLen) (hl : ((getK k D).getD noFil).loose.length < 1000000000000) (hl2 : ((getK k D).getD noFil).now.length + cb.length ≤ 140737488351232) :
    Calls Tryz.prog 74 #[.pointer (some ⟨d, 0, none⟩), .string (tx k), .agg #[.bool false, .bool false, .slice ca cb.length cc]] w fun e w' =>
      e = .returned (.tuple #[]) ∧ Dp w' d mb (putK k (chgF ((getK k D).getD noFil) ⟨false, false, cb⟩) D) ∧ Fm mb w w' := by
  have hkm : k.length ≤ maxLen := by unfold maxLen; omega
  obtain ⟨f, hf0⟩ : ∃ f, f = (getK k D).getD noFil := ⟨_, rfl⟩
  have hf := Lib.hid hf0
  have hb1 : Below w.heap.size w (w.alloc (.cells #[.bool false, .bool false, .slice ca cb.length cc] 108)) := (Below.refl _ _).alloc (Nat.le_refl _) _
  have h1 := h.below hb1 (Nat.le_refl _)
  obtain ⟨sa, sc, na, nc, la, lc, hrun, _, hT⟩ := look_run _ mb D h1.2 k hkm
  rw [← hf0] at hrun hT hl hl2 ⊢
  clear hf0
  have hcell := h1.cell
  obtain ⟨hlo1, hlo2⟩ := hT.loose_cap
  obtain ⟨sa', sc', na', nc', la0, lc0, hv, t1, t2, t3⟩ := hT
  cases hv
  have hflat : [f.now, cb].flatten = f.now ++ cb := by simp
  go_enter Tryz.func74, Tryz.ntmps74
  go_wp2_with (fail)
  refine (concat69 _ [f.now, cb] _ (Bts.two' _ _ _ _ _ _ ?_ ?_ ?_) ?_).mono ?_
  · simp
  · exact t2.1.below (B := w.heap.size + 1) ((Below.refl _ _).alloc (by simp) _) (by simp)
  · exact hc.1.below (B := w.heap.size) (((Below.refl _ _).alloc (by simp) _).alloc (by simp) _) (by simp)
  · rw [hflat]; simpa using hl2
  rw [hflat]
  rintro e w1 ⟨v1, rfl, hown, hbw⟩
  obtain ⟨va, vc, rfl⟩ := own_shape hown
  have hbF := Below.trans (((Below.refl (w.heap.size + 1 + 1) ((w.alloc (Obj.cells #[Value.bool false, Value.bool false, Value.slice ca cb.length cc] 108)).alloc (Obj.cells #[Value.slice sa f.sure.length sc, Value.slice na f.now.length nc, Value.bool f.isSure, Value.bool f.isNow, Value.slice la f.loose.length lc] 106))).alloc (by simp) _)) (hbw.mono (by simp))
  have bF : Box w1 (w.heap.size + 1) 106 #[Value.slice sa f.sure.length sc, Value.slice na f.now.length nc, Value.bool f.isSure, Value.bool f.isNow, Value.slice la f.loose.length lc] := (Box.new _ _ _ _ (by simp)).below hbF (by omega)
  have hbC : Below (w.heap.size + 1) (w.alloc (Obj.cells #[Value.bool false, Value.bool false, Value.slice ca cb.length cc] 108)) w1 := ((Below.refl _ _).alloc (by simp) _).trans (hbF.mono (by omega))
  have c1 := bF.cell 1 rfl
  have c3 := bF.cell 3 rfl
  have c5 := bF.froz
  go_wp2
  obtain ⟨W, hW⟩ : ∃ W, W = (w1.setCell { block := w.heap.size + 1, off := 1 } (Value.slice va (f.now ++ cb).length vc)).setCell { block := w.heap.size + 1, off := 3 } (Value.bool true) := ⟨_, rfl⟩
  have hbW : Below (w.heap.size + 1) (w.alloc (Obj.cells #[Value.bool false, Value.bool false, Value.slice ca cb.length cc] 108)) W := by
    rw [hW]
    exact (hbC.setCell (p := ⟨w.heap.size + 1, 1, none⟩) (Nat.le_refl _) _).setCell (p := ⟨w.heap.size + 1, 3, none⟩) (Nat.le_refl _) _
  have hb0W : Below w.heap.size w W := hb1.trans (hbW.mono (by omega))
  have bW : Box W (w.heap.size + 1) 106 #[Value.slice sa f.sure.length sc, Value.slice va (f.now ++ cb).length vc, Value.bool f.isSure, Value.bool true, Value.slice la f.loose.length lc] := by
    rw [hW]; exact (bF.set 1 _).set 3 _
  have hfW : Fr (fun e => e = 106) w1 W := by
    have hset : ∀ (x : World) (xs : Array Value) (_ : Box x (w.heap.size + 1) 106 xs) (j : Nat) (u : Value), Fr (fun e => e = 106) x (x.setCell ⟨w.heap.size + 1, j, none⟩ u) := fun x xs hx j u =>
      Fr.setCell (Fr.refl _ x) _ (fun cur e fz hh => by
        have h2 : x.heap[w.heap.size + 1]? = some (Obj.cells cur e fz) := hh
        unfold Box at hx
        rw [hx] at h2
        cases h2; rfl)
    rw [hW]
    exact (hset _ _ bF 1 _).trans (hset _ _ (bF.set 1 _) 3 _)
  have k0 := bW.cell 0 rfl
  have k1 := bW.cell 1 rfl
  have k2 := bW.cell 2 rfl
  have k3 := bW.cell 3 rfl
  have k4 := bW.cell 4 rfl
  have k5 := bW.froz
  have bC : Box W w.heap.size 108 #[Value.bool false, Value.bool false, Value.slice ca cb.length cc] := (Box.new w _ _ _ rfl).below hbW (by omega)
  have d0 := bC.cell 0 rfl
  have d1 := bC.cell 1 rfl
  have d2 := bC.cell 2 rfl
  have d3 := bC.froz
  have hsz := bW.lt
  have hnow : BtT W (.slice va (f.now ++ cb).length vc) (f.now ++ cb) := (BtT.of_own hown).fr hfW (by decide)
  simp only [List.length_append] at k1 hW
  rw [← hW]
  clear hW c1 c3 c5 hfW bF hown
  go_must (go_region_law (first
    | (go_simp; go_at_call 98; (with_reducible refine (clip98 _ _ _ _ (by assumption) (by assumption)).mono ?_); rintro e w1 ⟨rfl, rfl⟩)
    | (refine step_ch rfl (.tmp 35) (.tmp 37) rfl la lc f.loose ⟨false, false, cb⟩ (.slice ca cb.length cc) W.heap.size (by simp [Act.eval]) (by simp [Act.eval])
        (t3.fr (Fr.of_below (M := noTypes) (B := w.heap.size + 1) (hbW.trans (by repeat (first | exact Below.refl _ _ | refine Below.drew ?_ | refine Below.alloc ?_ (by first | omega | (simp; done) | (simp; omega)) _))) (by first | omega | (simp; done) | (simp; omega))) id id)
        (cells3 W.heap.size (B := W.heap.size + 1) (by first | exact (Below.refl _ _).drew | exact Below.refl _ _) (by simp) (by simp)).1
        (cells3 W.heap.size (B := W.heap.size + 1) (by first | exact (Below.refl _ _).drew | exact Below.refl _ _) (by simp) (by simp)).2.1
        (cells3 W.heap.size (B := W.heap.size + 1) (by first | exact (Below.refl _ _).drew | exact Below.refl _ _) (by simp) (by simp)).2.2.1
        (hc.fr (Fr.of_below (M := noTypes) (B := w.heap.size) (hb0W.trans (by repeat (first | exact Below.refl _ _ | refine Below.drew ?_ | refine Below.alloc ?_ (by first | omega | (simp; done) | (simp; omega)) _))) (by first | omega | (simp; done) | (simp; omega))) id) hl ?_
       intro la' lc' w2 hT2 hb2
       have hbG : Below W.heap.size W w2 :=
        Below.trans (by first | exact ((Below.refl _ _).alloc (by simp) _).drew | exact ((Below.refl _ _).drew).alloc (by simp) _) (hb2.mono (by simp))
       have m0 := (bW.below hbG hsz).cell 0 rfl
       have m1 := (bW.below hbG hsz).cell 1 rfl
       have m2 := (bW.below hbG hsz).cell 2 rfl
       have m3 := (bW.below hbG hsz).cell 3 rfl
       have m4 := (bW.below hbG hsz).cell 4 rfl
       have m5 := (bW.below hbG hsz).froz
       simp only [List.length_append] at m1)))
  all_goals (
    have hb02 : Below w.heap.size w w2 := hb0W.trans (hbG.mono (by omega))
    have hb12 := hbW.trans (hbG.mono (by omega))
    obtain ⟨w4, hrun2, hD4, hf4⟩ := put_end k (chgF f ⟨false, false, cb⟩) h hb02 (q := w.heap.size + 1) (by omega) ⟨_, _, bW.below hbG hsz⟩ hkm hn sa va la' sc vc lc'
      (t1.fr (Fr.of_below (M := noTypes) hb12 (by simp)) id) (hnow.fr (Fr.of_below (M := noTypes) hbG (Nat.le_refl _)) id) hT2
    have hcd := (h.below ((hb02.setCell (p := ⟨w.heap.size + 1, 4, none⟩) (by simp) (.slice la' (f.loose ++ [(⟨false, false, cb⟩ : Chg)]).length lc')).drew) (Nat.le_refl _)).cell
    unfold chgF at hrun2 hD4
    simp only [if_false, Bool.false_eq_true, Bool.not_false, List.length_append, List.length_cons, List.length_nil, Nat.zero_add] at hrun2 hcd
    go_wp2
    go_must (go_region)
    go_end0
    exact ⟨rfl, hD4, hf4⟩)
end Go.Proofs.YtpcipfnahknngaaGreatDoor

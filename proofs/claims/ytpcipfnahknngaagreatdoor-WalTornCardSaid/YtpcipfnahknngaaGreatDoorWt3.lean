/- WalTorn: its calls, as its walk meets them. No statement of the seat. -/
import Derived.Test.YtpcipfnahknngaaGreatDoorWt1
namespace Go.Proofs.YtpcipfnahknngaaGreatDoor
open Go.RowKit Go.Maps

/-- between two entries -/
def TnJ (q d mb : Nat) (w : World) (ls : List (List UInt8)) (sy : Int) (k : Nat) (wr : World) : Prop :=
  ∃ D ss s, Below w.heap.size w wr ∧ WlE w.heap.size wr q d mb D ss (ents ls k) ∧ LogSt D ss (ents ls k) s ∧ (∀ j, j < k → (ls.getD j []).length ≤ 60) ∧ ((k : Int) ≤ s ∨ sy + 1 ≤ s)
/-- the log's row of entries -/
def Lg (q d : Nat) (w : World) (a : List Ent) : Prop := ∃ sv la lc, Box w q 37 #[.pointer (some ⟨d, 0, none⟩), sv, .slice la a.length lc] ∧ Es w (.slice la a.length lc) a
theorem Lg.below {q d : Nat} {w w' : World} {a : List Ent} (h : Lg q d w a) {B : Nat} (hb : Below B w w') (hB : w.heap.size ≤ B) : Lg q d w' a := by
  obtain ⟨sv, la, lc, h1, h2⟩ := h
  exact ⟨sv, la, lc, h1.below hb (Nat.lt_of_lt_of_le h1.lt hB), h2.fr (M := noTypes) (Fr.of_below hb hB) id id⟩
theorem torn_append (q d mb : Nat) (w : World) (ls : List (List UInt8)) (k : Nat) (D D' : Dsk) (ss ss' : List Seg) (s : Nat) (wr : World) (u : Value) (hmb : w.heap.size ≤ mb) (htab : PowTab w) (hn2 : 2 < w.heap.size) (hbw : Below w.heap.size w wr) (hwl : WlE w.heap.size wr q d mb D ss (ents ls k)) (hlg : LogSt D ss (ents ls k) s)
    (hk : k < 40) (hb : ∀ j, j < k + 1 → (ls.getD j []).length ≤ 60) (hu : BtX w.heap.size wr u (ls.getD k [])) (hap : appR [entT ls k] D ss (ents ls k) = (0, D', ss', ents ls (k + 1))) :
    Calls Tryz.prog 12 #[.pointer (some ⟨q, 0, none⟩), .slice (some ⟨wr.heap.size, 0, none⟩) 1 1] (wr.alloc (.cells #[.int .u64 ((k : Int) + 1), .int .u64 ((k : Int) / 3), u] 25)) fun e w' => e = .returned (.int .i64 0) ∧ Below w.heap.size w w' ∧ WlE w.heap.size w' q d mb D' ss' (ents ls (k + 1)) := by
  have hs1 := ents_seqn ls (k + 1) (by omega) hb
  have hs0 := ents_seqn ls k (by omega) (fun j hj => hb j (by omega))
  obtain ⟨dg, _, ok, sl, _⟩ := hlg.dg hs0 (by simp; omega)
  have hx : Okx (entT ls k) := hs1.ok _ (by rw [ents_succ]; simp)
  have bA : Below wr.heap.size wr (wr.alloc (.cells #[.int .u64 ((k : Int) + 1), .int .u64 ((k : Int) / 3), u] 25)) := (Below.refl _ _).alloc (Nat.le_refl _) _
  have bwA := hbw.trans (bA.mono hbw.size)
  have hbox : Box (wr.alloc (.cells #[.int .u64 ((k : Int) + 1), .int .u64 ((k : Int) / 3), u] 25)) wr.heap.size 25 #[.int .u64 ((entT ls k).i : Nat), .int .u64 ((entT ls k).t : Nat), u] := Box.new _ _ _ _ rfl
  have := append12 w.heap.size q d mb 100 D ss (ents ls k) [entT ls k] (some ⟨wr.heap.size, 0, none⟩) 1 _ (hwl.below bA (Nat.le_refl _)) hn2 (EsX.one hbox (hu.fr0 (Fr.of_below bA (Nat.le_refl _)))) (fun x hx2 => by simp at hx2; subst hx2; exact hx.1) (fun x hx2 => (hs0.ok x hx2).1.1)
    (htab.below bwA (Nat.le_refl _)) dg (by omega) ok (by omega) (by simp; omega) (by simp)
  refine this.mono ?_
  rw [hap]
  rintro e w' ⟨rfl, f, lo, hw⟩
  exact ⟨rfl, blw_walk bwA f lo hmb, hw⟩
theorem torn_sync (q d mb : Nat) (w : World) (ls : List (List UInt8)) (k : Nat) (D : Dsk) (ss : List Seg) (s : Nat) (W : World) (hmb : w.heap.size ≤ mb) (htab : PowTab w) (hev : ErrV w) (hn2 : 2 < w.heap.size) (hlg : LogSt D ss (ents ls k) s) (hk : k ≤ 40) (hb : ∀ j, j < k → (ls.getD j []).length ≤ 60) (hbw : Below w.heap.size w W) (hwl : WlE w.heap.size W q d mb D ss (ents ls k)) :
    Calls Tryz.prog 13 #[.pointer (some ⟨q, 0, none⟩)] W fun e w' => e = .returned (.int .i64 0) ∧ Below w.heap.size w w' ∧ WlE w.heap.size w' q d mb (syncW nmT D) ss (ents ls k) := by
  have hs := ents_seqn ls k hk hb
  obtain ⟨dg, _, ok, sl, hnm⟩ := hlg.dg hs (by simp; omega)
  refine (sync13 w.heap.size q d mb 100 D ss (ents ls k) nmT W hwl dg (by omega) (numAt_all _ _ _ _ hnm (htab.below hbw (Nat.le_refl _)) (hev.below hbw (Nat.le_refl _)) hn2)).mono ?_
  rintro e w' ⟨rfl, f, lo, hw⟩
  exact ⟨rfl, blw_walk hbw f lo hmb, hw⟩
theorem torn_crash (q d mb : Nat) (w : World) (ls : List (List UInt8)) (k : Nat) (D : Dsk) (ss : List Seg) (s : Nat) (st : List Int) (sa : Option Addr) (sc : Nat) (W : World) (hmb : w.heap.size ≤ mb) (hlg : LogSt D ss (ents ls k) s) (hk : k ≤ 40) (hb : ∀ j, j < k → (ls.getD j []).length ≤ 60) (hbw : Below w.heap.size w W) (hwl : WlE w.heap.size W q d mb D ss (ents ls k))
    (hst : Sl w 1 (.slice sa st.length sc) st.length (iv st)) (hr : ∀ z ∈ st, z ≤ 9223372036854775807) :
    Calls Tryz.prog 24 #[.pointer (some ⟨d, 0, none⟩), .slice sa st.length sc] W fun e w' => e = .returned (.tuple #[]) ∧ Below w.heap.size w w' ∧ Dp w' d mb (crashT st D) := by
  have hs := ents_seqn ls k hk hb
  obtain ⟨dg, tn, ok, sl, hnm⟩ := hlg.dg hs (by simp; omega)
  obtain ⟨_, _, _, _, hwl⟩ := hwl
  refine (crash24 d mb 100 D st sa sc W hwl.disk dg (by omega) tn (hst.below hbw (Nat.le_refl _)) hr).mono ?_
  rintro e w' ⟨rfl, hd, f⟩
  exact ⟨rfl, blw_disk hbw f hmb, hd⟩
theorem torn_open1 (d mb : Nat) (w : World) (l : List Ent) (D : Dsk) (s : Nat) (W : World) (hmb : w.heap.size ≤ mb) (htab : PowTab w) (hev : ErrV w) (hn2 : 2 < w.heap.size) (hcr : CrSt D l s) (hs : Seqn l) (hl : l.length ≤ 40) (hbw : Below w.heap.size w W) (hd : Dp W d mb D) :
    Calls Tryz.prog 11 #[.pointer (some ⟨d, 0, none⟩)] W fun e w' => ∃ q2, e = .returned (.tuple #[.pointer (some ⟨q2, 0, none⟩), .int .i64 0]) ∧ Below w.heap.size w w' ∧ WlE w.heap.size w' q2 d mb (openT nmT D).1 (openT nmT D).2.1 (openT nmT D).2.2 := by
  obtain ⟨dg, hnm⟩ := hcr.dg hs hl
  refine (open11 w.heap.size d mb 100 D nmT W hd hbw.size trivial hn2 (htab.below hbw (Nat.le_refl _)) dg (by omega) (numAt_all _ _ _ _ hnm (htab.below hbw (Nat.le_refl _)) (hev.below hbw (Nat.le_refl _)) hn2)).mono ?_
  rintro e w' ⟨q2, rfl, _, f, lo, hw⟩
  exact ⟨q2, rfl, blw_walk hbw f lo hmb, hw⟩
theorem torn_open2 (d mb q2 : Nat) (w : World) (l a : List Ent) (D : Dsk) (ss : List Seg) (s : Nat) (gs : List (List Ent)) (W : World) (hmb : w.heap.size ≤ mb) (htab : PowTab w) (hev : ErrV w) (hn2 : 2 < w.heap.size) (hop : OpSt D ss a l s gs) (hs : Seqn l) (hbw : Below w.heap.size w W) (hwl : WlE w.heap.size W q2 d mb D ss a) :
    Calls Tryz.prog 11 #[.pointer (some ⟨d, 0, none⟩)] W fun e w' => ∃ q3, e = .returned (.tuple #[.pointer (some ⟨q3, 0, none⟩), .int .i64 0]) ∧ Below w.heap.size w w' ∧ Lg q2 d w' a ∧ Lg q3 d w' a ∧ Dp w' d mb D := by
  obtain ⟨dg, hnm⟩ := hop.dg hs
  have hag := hop.again hs
  obtain ⟨sa, sc, la, lc, hwl⟩ := hwl
  have hsz : 2 < W.heap.size := Nat.lt_of_lt_of_le hn2 hbw.size
  refine (open11 W.heap.size d mb 100 D nmT W hwl.disk (Nat.le_refl _) trivial hsz (htab.below hbw (Nat.le_refl _)) dg (by omega) (numAt_all _ _ _ _ hnm (htab.below hbw (Nat.le_refl _)) (hev.below hbw (Nat.le_refl _)) hsz)).mono ?_
  rw [hag]
  rintro e w' ⟨q3, rfl, _, f, lo, sa3, sc3, la3, lc3, hw⟩
  refine ⟨q3, rfl, blw_walk hbw f (lo.mono hbw.size) hmb, ⟨.slice sa ss.length sc, la, lc, ?_, hwl.es.fr f (by unfold walT; decide) (by unfold walT; decide)⟩, ⟨_, la3, lc3, hw.box, hw.es⟩, hw.disk⟩
  exact (lo.block q2 _ 37 (0, 0) hwl.box.lt hwl.box).trans hwl.box
theorem torn_entries (q d : Nat) (a : List Ent) (W : World) (h : Lg q d W a) (hs : Seqn a) :
    Calls Tryz.prog 15 #[.pointer (some ⟨q, 0, none⟩)] W fun e w' => ∃ ao cap, e = .returned (.slice ao a.length cap) ∧ EsO W.heap.size w' (.slice ao a.length cap) a ∧ Below W.heap.size W w' := by
  obtain ⟨sv, la, lc, h1, h2⟩ := h
  exact entries15 q d sv a la lc W h1 h2 (by have := hs.1; omega) (fun e he => by have := (hs.ok e he).2.2; omega)
theorem torn_loose (d mb : Nat) (l a : List Ent) (D : Dsk) (ss : List Seg) (s : Nat) (gs : List (List Ent)) (W : World) (hop : OpSt D ss a l s gs) (hs : Seqn l) (hd : Dp W d mb D) :
    Calls Tryz.prog 33 #[.pointer (some ⟨d, 0, none⟩)] W fun e w' => ∃ ao cap, e = .returned (.slice ao 0 cap) ∧ Below W.heap.size W w' := by
  obtain ⟨dg, _⟩ := hop.dg hs
  have h := loose33 d mb D W hd (by have := dg.len; omega) dg.keysS
  have hl : namesS (fun f => decide (0 < f.loose.length)) D = [] := hop.loose
  rw [hl] at h
  refine h.mono ?_
  rintro e w' ⟨v, rfl, ho, hb⟩
  obtain ⟨ao, cap, rfl⟩ := own_shape ho
  exact ⟨ao, cap, rfl, hb⟩
end Go.Proofs.YtpcipfnahknngaaGreatDoor

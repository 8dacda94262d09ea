/- Contract of known. No statement of the seat. -/
import Derived.Test.YtpcipfnahknngaaGreatDoorKn
namespace Go.Proofs.YtpcipfnahknngaaGreatDoor
open Go.RowKit Go.Maps

/-- entries with no body, laid in a block -/
theorem Es.lit {w : World} {g : Nat} (l : List Ent) (hb : Box w g 25 (enCells l (l.map fun _ => Value.slice none 0 0)).toArray) (hl : l.length ≤ maxLen) (hnil : ∀ k (h : k < l.length), (l[k]).b = []) : Es w (.slice (some ⟨g, 0, none⟩) l.length l.length) l := by
  have hlen : (l.map fun _ => Value.slice none 0 0).length = l.length := by simp
  refine ⟨l.map fun _ => Value.slice none 0 0, hlen, ⟨enCells_len l _ hlen, ?_, some ⟨g, 0, none⟩, l.length, rfl, Nat.le_refl _, hl, (fun h => by cases h), Or.inr ⟨g, 0, rfl, fun j u hj => ?_⟩⟩, fun g2 hg2 => ?_, fun k hk => ?_⟩
  · refine enCells_one l _ hlen fun u hu => ?_
    simp only [List.mem_map] at hu
    obtain ⟨_, _, rfl⟩ := hu
    rfl
  · rw [Nat.zero_add]
    refine hb.cell j ?_
    simpa using hj
  · cases hg2
    exact ⟨_, _, hb⟩
  · refine ⟨.slice none 0 0, by simp [hk], ?_⟩
    rw [hnil k hk]
    exact BtT.nil _

theorem known_app1 (n0 q d mb : Nat) (w : World) (h : WlE n0 w q d mb [] [] []) (hn2 : 2 < n0) (htab : PowTab w) (g : Nat)
    (hbx : Box w g 25 #[.int .u64 1, .int .u64 1, .slice none 0 0, .int .u64 2, .int .u64 1, .slice none 0 0, .int .u64 3, .int .u64 1, .slice none 0 0, .int .u64 2, .int .u64 2, .slice none 0 0])
    (D4 : List (List UInt8 × Fil)) (ss4 : List Seg) (he : appR kArg [] [] [] = (0, D4, ss4, kL)) :
    Calls Tryz.prog 12 #[.pointer (some ⟨q, 0, none⟩), .slice (some ⟨g, 0, none⟩) 4 4] w fun e w' => e = .returned (.int .i64 0) ∧ Fr walT w w' ∧ Lo n0 mb w w' ∧ WlE n0 w' q d mb D4 ss4 kL := by
  have hE : Es w (.slice (some ⟨g, 0, none⟩) kArg.length kArg.length) kArg := Es.lit kArg hbx (by decide) (by
    intro k hk
    have : ∀ x ∈ kArg, x.b = [] := by simp [kArg]
    exact this _ (List.getElem_mem hk))
  have ok : ∀ x ∈ kArg, x.ok := by
    intro x hx
    simp only [kArg, List.mem_cons, List.not_mem_nil, or_false] at hx
    rcases hx with rfl | rfl | rfl | rfl <;> exact ⟨by simp, by simp, by simp⟩
  have := append12 n0 q d mb 0 [] [] [] kArg (some ⟨g, 0, none⟩) 4 w h hn2 hE.x ok (fun x hx => by simp at hx) htab (Dg.nil 0) (by decide) (fun s hs => by simp at hs) (by decide) (by decide) (by decide)
  rw [he] at this
  exact this
theorem known_app2 (n0 q d mb : Nat) (D4 : List (List UInt8 × Fil)) (ss4 : List Seg) (w : World) (h : WlE n0 w q d mb D4 ss4 kL) (hn2 : 2 < n0) (htab : PowTab w) (hg : Dg 8 D4) (hok : SgOk ss4) (hss : ss4.length = 1) (g : Nat)
    (hbx : Box w g 25 #[.int .u64 5, .int .u64 0, .slice none 0 0]) :
    Calls Tryz.prog 12 #[.pointer (some ⟨q, 0, none⟩), .slice (some ⟨g, 0, none⟩) 1 1] w fun e w' => e = .returned (.int .i64 2) ∧ Fr walT w w' ∧ Lo n0 mb w w' ∧ WlE n0 w' q d mb D4 ss4 kL := by
  have hE : Es w (.slice (some ⟨g, 0, none⟩) [(⟨5, 0, []⟩ : Ent)].length [(⟨5, 0, []⟩ : Ent)].length) [⟨5, 0, []⟩] := Es.lit [⟨5, 0, []⟩] hbx (by decide) (by
    intro k hk
    have : ∀ x ∈ [(⟨5, 0, []⟩ : Ent)], x.b = [] := by simp
    exact this _ (List.getElem_mem hk))
  have := append12 n0 q d mb 8 D4 ss4 kL [⟨5, 0, []⟩] (some ⟨g, 0, none⟩) 1 w h hn2 hE.x (fun x hx => by simp at hx; subst hx; exact ⟨by simp, by simp, by simp⟩)
    (fun x hx => by simp [kL] at hx; rcases hx with rfl | rfl <;> simp) htab hg (by decide) hok (by omega) (by decide) (by decide)
  rw [kArg_two] at this
  exact this
theorem PowTab.size {w : World} (h : PowTab w) : 2 < w.heap.size := by
  unfold PowTab Lib.TabIs World.var? at h
  rw [pow_named] at h
  simp only [Option.bind_some] at h
  cases hc : w.heap[2]? with
  | none => rw [hc] at h; simp at h
  | some o => exact lt_of_get hc

theorem EsO.two {B : Nat} {w : World} {ao : Option Addr} {cap : Nat} (h : EsO B w (.slice ao kL.length cap) kL) : ∃ g, ao = some ⟨g, 0, none⟩ ∧ w.cell? ⟨g, 1, none⟩ = some (.int .u64 1) ∧ w.cell? ⟨g, 3, none⟩ = some (.int .u64 2) ∧ w.cell? ⟨g, 4, none⟩ = some (.int .u64 2) := by
  obtain ⟨us, h1, h2, h3⟩ := h
  obtain ⟨g, rfl⟩ : ∃ g, ao = some ⟨g, 0, none⟩ := by
    rcases h2.2 with ⟨e, _⟩ | ⟨g, _, _, e, _⟩
    · simp [kL] at e
    · cases e; exact ⟨g, rfl⟩
  obtain ⟨u0, e0, _⟩ := h3 0 (by decide)
  obtain ⟨u1, e1, _⟩ := h3 1 (by decide)
  have a0 := enCells_at kL us h1 0 (by decide) _ e0
  have a1 := enCells_at kL us h1 1 (by decide) _ e1
  exact ⟨g, rfl, (h2.cellAt 1 (by decide)).trans a0.2.1, (h2.cellAt 3 (by decide)).trans a1.1, (h2.cellAt 4 (by decide)).trans a1.2.1⟩

theorem known_ents (n0 q d mb : Nat) (D : List (List UInt8 × Fil)) (ss : List Seg) (w : World) (h : WlE n0 w q d mb D ss kL) :
    Calls Tryz.prog 15 #[.pointer (some ⟨q, 0, none⟩)] w fun e w' => ∃ ao cap, e = .returned (.slice ao 2 cap) ∧ EsO w.heap.size w' (.slice ao kL.length cap) kL ∧ Below w.heap.size w w' := by
  obtain ⟨sa, sc, la, lc, h⟩ := h
  exact entries15 q d _ kL la lc w h.box h.es (by decide) (fun e he => by simp [kL] at he; rcases he with rfl | rfl <;> simp)
theorem known_comp (n0 q d mb : Nat) (D : List (List UInt8 × Fil)) (ss : List Seg) (w : World) (h : WlE n0 w q d mb D ss kL) (hss : ss.length = 1) :
    Calls Tryz.prog 14 #[.pointer (some ⟨q, 0, none⟩), .int .u64 9] w fun e w' => e = .returned (.int .i64 0) ∧ Below w.heap.size w w' := by
  obtain ⟨sa, sc, la, lc, h⟩ := h
  exact compact14_short q d _ _ _ _ 9 w h.box (by omega)

set_option maxRecDepth 100000 in
set_option maxHeartbeats 6400000 in
theorem known6 (w : World) (htab : PowTab w) : Calls Tryz.prog 6 #[] w fun e w' => e = .returned (.bool true) ∧ Fr walT w w' ∧ Below w.heap.size w w' := by
  obtain ⟨D4, ss4, hap, hg4, hok4, hss4⟩ := kArg_app
  have hn2 := htab.size
  have HT := Lib.hid htab
  have HAP := Lib.hid hap
  have HG4 := Lib.hid hg4
  have HOK4 := Lib.hid hok4
  have HSS4 := Lib.hid hss4
  have HN2 := Lib.hid hn2
  clear htab hap hg4 hok4 hss4 hn2
  go_enter Tryz.func6, Tryz.ntmps6
  go_wp2_with (first
    | (go_at_call 18; refine (new18 _).mono ?_; rintro e w1 ⟨rfl, hD1, b1⟩)
    | (go_at_call 11; refine (open11_new w.heap.size _ _ _ hD1 b1.size trivial).mono ?_; rintro e w2 ⟨q, rfl, hW2, b2⟩)
    | (go_at_call 12; refine (known_app1 w.heap.size q _ _ _ (hW2.below ((Below.refl _ _).alloc (Nat.le_refl _) _) (Nat.le_refl _)) HN2.out (((HT.out.below b1 (Nat.le_refl _)).below b2 (Nat.le_refl _)).below ((Below.refl _ _).alloc (Nat.le_refl _) _) (Nat.le_refl _)) w2.heap.size (Box.new _ _ _ _ rfl) D4 ss4 HAP.out).mono ?_; rintro e w3 ⟨rfl, f3, lo3, hW3⟩
       have b02 := b1.trans (b2.mono b1.size)
       have bA : Below w.heap.size w _ := b02.alloc b02.size (Obj.cells #[.int .u64 1, .int .u64 1, .slice none 0 0, .int .u64 2, .int .u64 1, .slice none 0 0, .int .u64 3, .int .u64 1, .slice none 0 0, .int .u64 2, .int .u64 2, .slice none 0 0] 25)
       have F3 : Hid (Fr walT w w3) := Lib.hid ((Fr.of_below bA (Nat.le_refl _)).trans f3)
       have L3 : Hid (Lo w.heap.size w.heap.size w w3) := Lib.hid ((Lo.of_below bA (Nat.le_refl _)).trans lo3)
       clear f3 lo3 hW2 bA b02 b2 b1)
    | (go_at_call 15; refine (known_ents _ _ _ _ _ _ _ hW3).mono ?_; rintro e w4 ⟨a4, c4, rfl, hE4, b4⟩
       obtain ⟨g4, rfl, k1, k3, k4⟩ := hE4.two
       have hW4 := hW3.below b4 (Nat.le_refl _))
    | (go_at_call 12; refine (known_app2 w.heap.size q _ _ D4 ss4 _ (hW4.below ((Below.refl _ _).alloc (Nat.le_refl _) _) (Nat.le_refl _)) HN2.out (((HT.out.lo L3.out HN2.out).below b4 (Nat.le_refl _)).below ((Below.refl _ _).alloc (Nat.le_refl _) _) (Nat.le_refl _)) HG4.out HOK4.out HSS4.out w4.heap.size (Box.new _ _ _ _ rfl)).mono ?_; rintro e w5 ⟨rfl, f5, lo5, hW5⟩
       have bA : Below w4.heap.size w4 _ := (Below.refl _ _).alloc (Nat.le_refl _) (Obj.cells #[.int .u64 5, .int .u64 0, .slice none 0 0] 25)
       have F5 : Hid (Fr walT w w5) := Lib.hid (((F3.out.trans (Fr.of_below b4 (Nat.le_refl _))).trans (Fr.of_below bA (Nat.le_refl _))).trans f5)
       have L5 : Hid (Lo w.heap.size w.heap.size w w5) := Lib.hid (((L3.out.trans (Lo.blw b4 (Nat.le_refl _))).trans (Lo.blw bA (Nat.le_refl _))).trans lo5)
       clear f5 lo5 bA)
    | (go_at_call 14; refine (known_comp _ _ _ _ _ _ _ hW5 HSS4.out).mono ?_; rintro e w6 ⟨rfl, b6⟩)
    | (go_at_call 15; refine (known_ents _ _ _ _ _ _ _ (hW5.below b6 (Nat.le_refl _))).mono ?_; rintro e w7 ⟨a7, c7, rfl, hE7, b7⟩))
  go_ret
  have f := (F5.out.trans (Fr.of_below b6 (Nat.le_refl _))).trans (Fr.of_below b7 (Nat.le_refl _))
  have lo := (L5.out.trans (Lo.blw b6 (Nat.le_refl _))).trans (Lo.blw b7 (Nat.le_refl _))
  exact ⟨rfl, f, f.os, f.tape, f.output, f.size, fun g hg => lo.all (Nat.le_refl _) g hg hg⟩
end Go.Proofs.YtpcipfnahknngaaGreatDoor

/- Contract of wal.Sync. No statement of the seat. -/
import Derived.Test.YtpcipfnahknngaaGreatDoorOpn
namespace Go.Proofs.YtpcipfnahknngaaGreatDoor
open Go.RowKit Go.Maps

def syncL (nm : List UInt8 → Nat) : List (List UInt8) → Dsk → Dsk
  | [], D => D
  | k :: ks, D => if 0 < nm k then syncL nm ks (syncD k D) else syncL nm ks D
def looseS (D : Dsk) : List (List UInt8) := namesS (fun f => decide (0 < f.loose.length)) D
def syncW (nm : List UInt8 → Nat) (D : Dsk) : Dsk := syncL nm (looseS D) D
theorem looseS_le (D : Dsk) : (looseS D).length ≤ D.length := by
  unfold looseS namesS
  refine Nat.le_trans (List.length_filter_le _ _) ?_
  unfold keysS
  rw [List.length_mergeSort, List.length_map]
  exact Nat.le_refl _

/-- between two files -/
def SyJ (n0 q d mb N : Nat) (ss : List Seg) (l : List Ent) (sa : Option Addr) (sc : Nat) (la : Option Addr) (lc : Nat) (w : World) (nm : List UInt8 → Nat) (ks : List (List UInt8)) (F : Dsk) (k : Nat) (wr : World) : Prop :=
  ∃ D, Fr noTypes w wr ∧ Lo n0 mb w wr ∧ Wl n0 wr q d mb D ss l sa sc la lc ∧ Dg (N + k) D ∧ syncL nm (ks.drop k) D = F

set_option maxRecDepth 100000 in
set_option maxHeartbeats 6400000 in
theorem sync13 (n0 q d mb N : Nat) (D : Dsk) (ss : List Seg) (l : List Ent) (nm : List UInt8 → Nat) (w : World) (h : WlE n0 w q d mb D ss l) (hg : Dg N D) (hN : N ≤ 100000)
    (hnum : ∀ k ∈ looseS D, NumAt n0 mb w nm k) :
    Calls Tryz.prog 13 #[.pointer (some ⟨q, 0, none⟩)] w fun e w' => e = .returned (.int .i64 0) ∧ Fr noTypes w w' ∧ Lo n0 mb w w' ∧ WlE n0 w' q d mb (syncW nm D) ss l := by
  obtain ⟨sa, sc, la, lc, h⟩ := h
  have hmb := h.lowm
  have H := Lib.hid h
  have HG := Lib.hid hg
  have HNUM := Lib.hid hnum
  have hth := there48 q d w (h.box.cell 0 rfl)
  have HTH := Lib.hid hth
  have c0 := h.box.cell 0 rfl
  have hks : (looseS D).length ≤ N := Nat.le_trans (looseS_le D) hg.len
  have hl33 := loose33 d mb D w h.disk (by have := hg.len; omega) hg.keysS
  obtain ⟨ks, hke⟩ : ∃ ks, ks = looseS D := ⟨_, rfl⟩
  obtain ⟨F, hF⟩ : ∃ F, syncW nm D = F := ⟨_, rfl⟩
  have HF0 : Hid (syncL nm ks D = F) := Lib.hid (by rw [← hF, hke]; rfl)
  have e33 : namesS (fun f => decide (0 < f.loose.length)) D = ks := hke.symm
  rw [e33] at hl33
  rw [← hke] at hks
  have HL := Lib.hid hl33
  have HKE := Lib.hid hke
  rw [hF]
  clear h hg hnum hth hl33 hke hF e33
  go_enter Tryz.func13, Tryz.ntmps13
  go_wp2_with (first
    | (go_at_call 48; refine HTH.out.mono ?_; rintro e w1 ⟨rfl, hw1⟩; have hw2 := hw1.symm; subst hw2)
    | (go_at_call 33; refine HL.out.mono ?_; rintro e w2 ⟨v2, rfl, own2, b2⟩; obtain ⟨a2, q2, rfl⟩ := own_shape own2))
  have HW := Lib.hid (H.out.below b2 (Nat.le_refl _))
  have OWN := Lib.hid own2
  have B02 := Lib.hid b2
  have NUM2 : Hid (∀ k ∈ ks, NumAt n0 mb w2 nm k) := Lib.hid (fun k hk => by
    have h1 := HNUM.out k (by rw [← HKE.out]; exact hk)
    exact ⟨h1.1, fun w' hl => h1.2 w' ((Lo.blw b2 (Nat.le_refl _)).trans hl)⟩)
  clear own2 b2 c0
  go_loopw [14] (fun i wr => ∃ (k : Nat), k ≤ ks.length ∧ i = .int .i64 k ∧ SyJ n0 q d mb N ss l sa sc la lc w2 nm ks F k wr) (fun i _ => ks.length - (intOf i).toNat)
  case atStart => exact ⟨0, Nat.zero_le _, rfl, D, Fr.refl _ _, Lo.refl _ _ _, HW.out, HG.out, HF0.out⟩
  case round =>
    obtain ⟨k, hk, rfl, D', hfr, hlo, hwl, hdg, hop⟩ := hrel
    by_cases hlt : k < ks.length
    · have hrow := Sl.of_own (own_fr OWN.out hfr id) (sv_one ks)
      obtain ⟨_, _, ao, cap, hv, _, _, _, hcell⟩ := hrow
      cases hv
      obtain ⟨g, off, rfl, hcc⟩ := hcell.resolve_left (by omega)
      have c0 := hcc k _ (sv_get ks k hlt)
      obtain ⟨hz1, hz2⟩ := NUM2.out _ (List.getElem_mem hlt)
      rw [List.drop_eq_getElem_cons hlt] at hop
      obtain ⟨f, hf⟩ : ∃ f, f = ks[k] := ⟨_, rfl⟩
      rw [← hf] at c0 hz1 hz2 hop
      have hz3 := hz2 wr hlo
      obtain ⟨z, hz⟩ : ∃ z, z = nm f := ⟨_, rfl⟩
      rw [← hz] at hz1 hz3
      have HZ3 := Lib.hid hz3
      have HZ := Lib.hid hz
      have HOP := Lib.hid hop
      have HFR := Lib.hid hfr
      have HLO := Lib.hid hlo
      have HWL := Lib.hid hwl
      have HDG := Lib.hid hdg
      clear hcell hcc hz2 hz3 hop hf hz hfr hlo hwl hdg
      by_cases h0 : 0 < z
      · have h1 : decide ((0 : Int) < (z : Int)) = true := decide_eq_true (by omega)
        have h2 : decide (0 < z) = true := decide_eq_true h0
        have HZ0 := Lib.hid h0
        clear h0
        go_wp2_with (first
          | (go_at_call 45; refine HZ3.out.mono ?_; rintro e w3 ⟨rfl, b3⟩; have q3 := (HWL.out.below b3 (Nat.le_refl _)).box.cell 0 rfl)
          | (go_at_call 28; refine (sync28 d mb D' f _ (HWL.out.below b3 (Nat.le_refl _)).disk (by have := HDG.out.len; unfold maxLen; omega)).mono ?_; rintro e w5 ⟨rfl, hd5, f5⟩))
        go_roundw
        case rel =>
          refine ⟨k + 1, by omega, by go_num, _, (HFR.out.trans (Fr.of_below b3 (Nat.le_refl _))).trans f5.fr, (HLO.out.trans (Lo.blw b3 (Nat.le_refl _))).trans (f5.lo hmb), (HWL.out.below b3 (Nat.le_refl _)).disked f5.fr hd5, (HDG.out.sync f).mono (by omega), ?_⟩
          have := HOP.out
          unfold syncL at this
          rw [if_pos (by rw [← HZ.out]; exact HZ0.out)] at this
          exact this
        case measure => simp [intOf]; omega
      · have h1 : decide ((0 : Int) < (z : Int)) = false := decide_eq_false (by omega)
        have h2 : decide (0 < z) = false := decide_eq_false h0
        have HZ0 := Lib.hid h0
        clear h0
        go_wp2_with (go_at_call 45; refine HZ3.out.mono ?_; rintro e w3 ⟨rfl, b3⟩)
        go_roundw
        case rel =>
          refine ⟨k + 1, by omega, by go_num, _, HFR.out.trans (Fr.of_below b3 (Nat.le_refl _)), HLO.out.trans (Lo.blw b3 (Nat.le_refl _)), HWL.out.below b3 (Nat.le_refl _), HDG.out.mono (by omega), ?_⟩
          have := HOP.out
          unfold syncL at this
          rw [if_neg (by rw [← HZ.out]; exact HZ0.out)] at this
          exact this
        case measure => simp [intOf]; omega
    · have hkl : ks.drop k = [] := List.drop_of_length_le (by omega)
      rw [hkl] at hop
      have HOP := Lib.hid hop
      have HX := Lib.hid (And.intro hfr (And.intro hlo hwl))
      clear hkl hop hfr hlo hwl hdg
      go_wp2
      go_ret
      have e : F = D' := HOP.out.symm
      rw [e]
      exact ⟨rfl, (Fr.of_below B02.out (Nat.le_refl _)).trans HX.out.1, (Lo.blw B02.out (Nat.le_refl _)).trans HX.out.2.1, sa, sc, la, lc, HX.out.2.2⟩
end Go.Proofs.YtpcipfnahknngaaGreatDoor

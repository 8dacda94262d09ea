/- Contract of wal.Open. No statement of the seat. -/
import Derived.Test.YtpcipfnahknngaaGreatDoorRd47
import Derived.Test.YtpcipfnahknngaaGreatDoorOp0
namespace Go.Proofs.YtpcipfnahknngaaGreatDoor
open Go.RowKit Go.Maps

abbrev Dsk := List (List UInt8 × Fil)
/-- the bytes of a segment -/
def segB (n : Nat) (D : Dsk) : List UInt8 := ((getK (segName n) D).getD noFil).now
/-- what opening makes of the files, one by one -/
def openS (nm : List UInt8 → Nat) : List (List UInt8) → Bool → Dsk → List Seg → List Ent → Dsk × List Seg × List Ent
  | [], _, D, ss, l => (D, ss, l)
  | k :: ks, cut, D, ss, l =>
    if nm k = 0 then openS nm ks cut D ss l
    else if cut = true then openS nm ks true (syncD k (removeD k D)) ss l
    else openS nm ks (readR (nm k) (segB (nm k) D) (scanT (segB (nm k) D) 0 [] l) D ss).1 (readR (nm k) (segB (nm k) D) (scanT (segB (nm k) D) 0 [] l) D ss).2.1 (readR (nm k) (segB (nm k) D) (scanT (segB (nm k) D) 0 [] l) D ss).2.2 (scanT (segB (nm k) D) 0 [] l).2.2
def openT (nm : List UInt8 → Nat) (D : Dsk) : Dsk × List Seg × List Ent := openS nm (namesS (fun f => f.isNow) D) false D [] []

theorem scanT_len (b : List UInt8) (k : Nat) (at_ : List Nat) (l : List Ent) (hk : k ≤ b.length) : (scanT b k at_ l).2.2.length ≤ l.length + (b.length - k) ∧ (scanT b k at_ l).2.1.length ≤ at_.length + (b.length - k) := by
  cases h : firstT (b.drop k) with
  | none => rw [scanT_none h]; simp
  | some p =>
    obtain ⟨r, m⟩ := p
    have hm := firstT_le h
    have hkm : k + m ≤ b.length := by have := hm.2.1; simp at this; omega
    cases hp : parseT r with
    | none => rw [scanT_bad h hp]; simp
    | some e =>
      cases hf : fitsT l e with
      | false => rw [scanT_no h hp hf]; simp
      | true =>
        rw [scanT_yes h hp hf]
        have h1 := scanT_len b (k + m) (at_ ++ [e.i]) (putE l e) hkm
        have h2 := putE_len l e
        have h3 : (at_ ++ [e.i]).length = at_.length + 1 := by simp
        omega
termination_by b.length - k
decreasing_by omega
theorem readR_dg {N n : Nat} {b : List UInt8} {R : Nat × List Nat × List Ent} {D : Dsk} {ss : List Seg} (h : Dg N D) : Dg (N + 2) (readR n b R D ss).2.1 := by
  unfold readR
  split
  · exact h.mono (by omega)
  · split
    · exact (h.replace _ _).sync _
    · exact (h.remove _).sync _
theorem readR_len {n : Nat} {b : List UInt8} {R : Nat × List Nat × List Ent} {D : Dsk} {ss : List Seg} : (readR n b R D ss).2.2.length ≤ ss.length + 1 := by
  unfold readR
  split
  · simp
  · split <;> simp

/-- what number tells of the name k, in whatever comes of w -/
def NumAt (n0 mb : Nat) (w : World) (nm : List UInt8 → Nat) (k : List UInt8) : Prop :=
  nm k ≤ 99999999 ∧ ∀ w', Lo n0 mb w w' → Calls Tryz.prog 45 #[.string (tx k)] w' fun e w2 => e = .returned (.int .i64 (nm k)) ∧ Below w'.heap.size w' w2

/-- between two files -/
def OpJ (n0 q d mb N : Nat) (w : World) (nm : List UInt8 → Nat) (ks : List (List UInt8)) (F : Dsk × List Seg × List Ent) (k : Nat) (cut : Bool) (wr : World) : Prop :=
  ∃ D ss l, Fr walT w wr ∧ Lo n0 mb w wr ∧ WlE n0 wr q d mb D ss l ∧ Dg (N + 2 * k) D ∧ ss.length ≤ k ∧ l.length ≤ 1048576 * k ∧ openS nm (ks.drop k) cut D ss l = F

set_option maxRecDepth 100000 in
set_option maxHeartbeats 6400000 in
theorem open11 (n0 d mb N : Nat) (D : Dsk) (nm : List UInt8 → Nat) (w : World) (h : Dp w d mb D) (hn0 : n0 ≤ w.heap.size) (hmb : LowM n0 mb) (hn2 : 2 < n0) (htab : PowTab w) (hg : Dg N D) (hN : N ≤ 300)
    (hnum : ∀ k ∈ namesS (fun f => f.isNow) D, NumAt n0 mb w nm k) :
    Calls Tryz.prog 11 #[.pointer (some ⟨d, 0, none⟩)] w fun e w' => ∃ q, e = .returned (.tuple #[.pointer (some ⟨q, 0, none⟩), .int .i64 0]) ∧ w.heap.size ≤ q ∧ Fr walT w w' ∧ Lo n0 mb w w' ∧ WlE n0 w' q d mb (openT nm D).1 (openT nm D).2.1 (openT nm D).2.2 := by
  have HD := Lib.hid h
  have HG := Lib.hid hg
  have HTAB := Lib.hid htab
  have HNUM := Lib.hid hnum
  have hks : (namesS (fun f => f.isNow) D).length ≤ N := Nat.le_trans (manyS_le D) hg.len
  obtain ⟨ks, hke⟩ : ∃ ks, ks = namesS (fun f => f.isNow) D := ⟨_, rfl⟩
  obtain ⟨F, hF⟩ : ∃ F, openT nm D = F := ⟨_, rfl⟩
  rw [← hke] at hks
  have HF0 : Hid (openS nm ks false D [] [] = F) := Lib.hid (by rw [← hF, hke]; rfl)
  have hnames := fun W (hb : Below w.heap.size w W) => names44 d mb D W (HD.out.below hb (Nat.le_refl _)) (by have := HG.out.len; omega) HG.out.keysS
  rw [← hke] at hnames
  have HNM := Lib.hid hnames
  have HKE := Lib.hid hke
  rw [hF]
  clear h hg htab hnum hnames hF hke
  go_enter Tryz.func11, Tryz.ntmps11
  go_wp2_with (first
    | (go_at_call 43; refine (copy43 d mb D _ HD.out).mono ?_; rintro e w1 ⟨rfl, b1⟩)
    | (go_at_call 44; refine (HNM.out _ (b1.alloc b1.size _)).mono ?_; rintro e w2 ⟨v2, rfl, own2, b2⟩; obtain ⟨a2, q2, rfl⟩ := own_shape own2))
  have bA : Below w.heap.size w (w1.alloc (.cells #[.pointer (some ⟨d, 0, none⟩), .slice none 0 0, .slice none 0 0] 37)) := b1.alloc b1.size _
  have b02 : Below w.heap.size w w2 := bA.trans (b2.mono bA.size)
  have hbx : Box w2 w1.heap.size 37 #[.pointer (some ⟨d, 0, none⟩), .slice none 0 0, .slice none 0 0] := (Box.new w1 _ 37 _ rfl).below b2 (by simp)
  have hW : WlE n0 w2 w1.heap.size d mb D [] [] := ⟨none, 0, none, 0, hbx, HD.out.below b02 (Nat.le_refl _), Nat.le_trans hn0 b1.size, hmb, Sg.nil _ _, Es.nil _⟩
  have hq1 : w.heap.size ≤ w1.heap.size := b1.size
  have HW := Lib.hid hW
  have OWN := Lib.hid own2
  have B02 := Lib.hid b02
  have HT2 := Lib.hid (HTAB.out.below b02 (Nat.le_refl _))
  have NUM2 : Hid (∀ k ∈ ks, NumAt n0 mb w2 nm k) := Lib.hid (fun k hk => by
    have h1 := HNUM.out k (by rw [← HKE.out]; exact hk)
    exact ⟨h1.1, fun w' hl => h1.2 w' ((Lo.blw b02 (Nat.le_refl _)).trans hl)⟩)
  clear hW hbx own2 b02 bA b1 b2
  go_loopw [5, 18] (fun c i wr => ∃ (k : Nat) (cut : Bool), k ≤ ks.length ∧ i = .int .i64 k ∧ c = .bool cut ∧ OpJ n0 w1.heap.size d mb N w2 nm ks F k cut wr) (fun _ i _ => ks.length - (intOf i).toNat)
  case atStart => exact ⟨0, false, Nat.zero_le _, rfl, rfl, D, [], [], Fr.refl _ _, Lo.refl _ _ _, HW.out, HG.out, Nat.le_refl _, Nat.zero_le _, HF0.out⟩
  case round =>
    obtain ⟨k, cut, hk, rfl, rfl, D', ss, l, hfr, hlo, hwl, hdg, hsl, hll, hop⟩ := hrel
    by_cases hlt : k < ks.length
    · have hrow := Sl.of_own (own_fr OWN.out hfr (by unfold walT; decide)) (sv_one ks)
      obtain ⟨_, _, ao, cap, hv, _, _, _, hcell⟩ := hrow
      cases hv
      obtain ⟨g, off, rfl, hcc⟩ := hcell.resolve_left (by omega)
      have c0 := hcc k _ (sv_get ks k hlt)
      obtain ⟨hz1, hz2⟩ := NUM2.out _ (List.getElem_mem hlt)
      rw [List.drop_eq_getElem_cons hlt] at hop
      obtain ⟨f, hf⟩ : ∃ f, f = ks[k] := ⟨_, rfl⟩
      rw [← hf] at c0 hz1 hz2 hop
      have hz3 := hz2 wr hlo
      obtain ⟨z, hz⟩ : ∃ z, z = nm f := ⟨_, rfl⟩
      rw [← hz] at hz1 hz3
      have HZ3 := Lib.hid hz3
      have HZ := Lib.hid hz
      have HOP := Lib.hid hop
      have HFR := Lib.hid hfr
      have HLO := Lib.hid hlo
      have HWL := Lib.hid hwl
      have HDG := Lib.hid hdg
      have TAB : Hid (PowTab wr) := Lib.hid (HT2.out.lo hlo hn2)
      have d0 : Hid (∀ w3, Below wr.heap.size wr w3 → Fr walT w2 w3 ∧ Lo n0 mb w2 w3 ∧ WlE n0 w3 w1.heap.size d mb D' ss l ∧ PowTab w3) := Lib.hid (fun w3 hb =>
        ⟨HFR.out.trans (Fr.of_below hb (Nat.le_refl _)), HLO.out.trans (Lo.blw hb (Nat.le_refl _)), HWL.out.below hb (Nat.le_refl _), TAB.out.below hb (Nat.le_refl _)⟩)
      clear hcell hcc hz2 hz3 hop hf hz hfr hlo hwl hdg
      by_cases h0 : z = 0
      · have h1 : ((z : Int) == 0) = true := by rw [beq_iff_eq]; omega
        have HZ0 := Lib.hid h0
        clear h0
        go_wp2_with (go_at_call 45; refine HZ3.out.mono ?_; rintro e w3 ⟨rfl, b3⟩)
        go_roundw
        case rel =>
          obtain ⟨x1, x2, x3, _⟩ := d0.out _ b3
          refine ⟨k + 1, cut, by omega, by go_num, rfl, D', ss, l, x1, x2, x3, HDG.out.mono (by omega), by omega, by omega, ?_⟩
          have := HOP.out
          unfold openS at this
          rw [if_pos (by rw [← HZ.out]; exact HZ0.out)] at this
          exact this
        case measure => simp [intOf]; omega
      · have h1 : ((z : Int) == 0) = false := by rw [beq_eq_false_iff_ne]; omega
        have HZ0 := Lib.hid h0
        clear h0
        cases cut with
        | true =>
          have hrm : Hid (∀ w3, Below wr.heap.size wr w3 → Calls Tryz.prog 46 #[.pointer (some ⟨d, 0, none⟩), .string (tx f)] w3 fun e w' => e = .returned (.int .i64 (removeE f D')) ∧ Dp w' d mb (removeD f D') ∧ Fm mb w3 w') := Lib.hid (fun w3 hb => by
            obtain ⟨_, _, ⟨_, _, _, _, x3⟩, _⟩ := d0.out _ hb
            exact remove46 d mb D' f w3 x3.disk (by have := HDG.out.len; omega) (by have := HDG.out.getLoose f; omega))
          go_wp2_with (first
            | (go_at_call 45; refine HZ3.out.mono ?_; rintro e w3 ⟨rfl, b3⟩)
            | (go_at_call 46; refine (hrm.out _ b3).mono ?_; rintro e w4 ⟨rfl, hd4, f4⟩; have HD4 := Lib.hid hd4; have F4 := Lib.hid f4; clear hd4 f4)
            | (go_at_call 28; refine (sync28 d mb _ f _ HD4.out (by have := (HDG.out.remove f).len; unfold maxLen; omega)).mono ?_; rintro e w5 ⟨rfl, hd5, f5⟩))
          go_roundw
          case rel =>
            obtain ⟨x1, x2, ⟨sa, sc, la, lc, x3⟩, _⟩ := d0.out _ b3
            have f45 := F4.out.trans f5
            refine ⟨k + 1, true, by omega, by go_num, rfl, _, ss, l, x1.trans (f45.fr.mono fun _ => False.elim), x2.trans (f45.lo hmb), ⟨sa, sc, la, lc, x3.disked f45.fr hd5⟩, ((HDG.out.remove f).sync f).mono (by omega), by omega, by omega, ?_⟩
            have := HOP.out
            unfold openS at this
            rw [if_neg (by rw [← HZ.out]; exact HZ0.out), if_pos rfl] at this
            exact this
          case measure => simp [intOf]; omega
        | false =>
          have hrd : Hid (∀ w3, Below wr.heap.size wr w3 → Calls Tryz.prog 47 #[.pointer (some ⟨w1.heap.size, 0, none⟩), .int .i64 z] w3 fun e w' => e = .returned (.bool (readR z (segB z D') (scanT (segB z D') 0 [] l) D' ss).1) ∧ Fr walT w3 w' ∧ Lo n0 mb w3 w' ∧
              WlE n0 w' w1.heap.size d mb (readR z (segB z D') (scanT (segB z D') 0 [] l) D' ss).2.1 (readR z (segB z D') (scanT (segB z D') 0 [] l) D' ss).2.2 (scanT (segB z D') 0 [] l).2.2) := Lib.hid (fun w3 hb => by
            obtain ⟨_, _, x3, x4⟩ := d0.out _ hb
            exact read47 n0 w1.heap.size d mb (N + 2 * k) z D' ss l (segB z D') _ w3 x3 rfl rfl hn2 x4 HDG.out (by omega) hz1 (by omega) (by omega) _ (fun w' y1 y2 y3 => ⟨rfl, y1, y2, y3⟩))
          go_wp2_with (first
            | (go_at_call 45; refine HZ3.out.mono ?_; rintro e w3 ⟨rfl, b3⟩)
            | (go_at_call 47; refine (hrd.out _ b3).mono ?_; rintro e w4 ⟨rfl, f4, l4, hwl4⟩))
          go_roundw
          case rel =>
            obtain ⟨x1, x2, _, _⟩ := d0.out _ b3
            refine ⟨k + 1, _, by omega, by go_num, rfl, _, _, _, x1.trans f4, x2.trans l4, hwl4, (readR_dg HDG.out).mono (by omega), ?_, ?_, ?_⟩
            · have := @readR_len z (segB z D') (scanT (segB z D') 0 [] l) D' ss
              omega
            · have h2 := (scanT_len (segB z D') 0 [] l (Nat.zero_le _)).1
              have h3 : (segB z D').length ≤ 1048576 := HDG.out.getNow _
              omega
            · have := HOP.out
              unfold openS at this
              rw [if_neg (by rw [← HZ.out]; exact HZ0.out), if_neg (by decide), ← HZ.out] at this
              exact this
          case measure => simp [intOf]; omega
    · have hkl : ks.drop k = [] := List.drop_of_length_le (by omega)
      rw [hkl] at hop
      have HOP := Lib.hid hop
      have HX := Lib.hid (And.intro hfr (And.intro hlo hwl))
      clear hkl hop hfr hlo hwl hdg
      go_wp2
      go_ret2
      have e : F = (D', ss, l) := HOP.out.symm
      rw [e]
      exact ⟨_, rfl, hq1, (Fr.of_below B02.out (Nat.le_refl _)).trans HX.out.1, (Lo.blw B02.out (Nat.le_refl _)).trans HX.out.2.1, HX.out.2.2⟩
end Go.Proofs.YtpcipfnahknngaaGreatDoor

/- Contract of disk.Crash. No statement of the seat. -/
import Derived.Test.YtpcipfnahknngaaGreatDoorCra
namespace Go.Proofs.YtpcipfnahknngaaGreatDoor
open Go.RowKit Go.Maps

/-- between two files -/
def CrJ (d mb N : Nat) (st : List Int) (w : World) (ks : List (List UInt8)) (F : Dsk) (k : Nat) (wr : World) : Prop :=
  ∃ D, Fm mb w wr ∧ Dp wr d mb D ∧ Dg (N + k) D ∧ Tn D ∧ crashL st k (ks.drop k) D = F

/-- between two changes of a file -/
def CrI (g8 : Nat) (fl : Fil) (nn jj rest : Nat) (wx wy : World) : Prop :=
  ∃ now is na nc, Below wx.heap.size wx wy ∧ Box wy g8 106 #[.slice none 0 0, .slice na now.length nc, .bool false, .bool is, .slice none 0 0] ∧ BtT wy (.slice na now.length nc) now ∧ tornS (fl.loose.take jj) fl.sure fl.isSure nn = (now, is, rest) ∧ rest ≤ nn

set_option maxRecDepth 1000000 in
set_option maxHeartbeats 6400000 in
theorem crash24 (d mb N : Nat) (D : Dsk) (st : List Int) (sa : Option Addr) (sc : Nat) (w : World) (h : Dp w d mb D) (hg : Dg N D) (hN : N ≤ 100000) (ht : Tn D) (hst : Sl w 1 (.slice sa st.length sc) st.length (iv st)) (hr : ∀ z ∈ st, z ≤ 9223372036854775807) :
    Calls Tryz.prog 24 #[.pointer (some ⟨d, 0, none⟩), .slice sa st.length sc] w fun e w' => e = .returned (.tuple #[]) ∧ Dp w' d mb (crashT st D) ∧ Fm mb w w' := by
  have hks : (looseS D).length ≤ N := Nat.le_trans (looseS_le D) hg.len
  have hl33 := loose33 d mb D w h (by have := hg.len; omega) hg.keysS
  have hl64 := loose_len64 hg
  have HD := Lib.hid h
  have HG := Lib.hid hg
  have HT := Lib.hid ht
  have HST := Lib.hid hst
  have HR := Lib.hid hr
  obtain ⟨ks, hke⟩ : ∃ ks, ks = looseS D := ⟨_, rfl⟩
  obtain ⟨F, hF⟩ : ∃ F, crashT st D = F := ⟨_, rfl⟩
  have HF0 : Hid (crashL st 0 ks D = F) := Lib.hid (by rw [← hF, hke]; rfl)
  have e33 : namesS (fun f => decide (0 < f.loose.length)) D = ks := hke.symm
  rw [e33] at hl33
  rw [← hke] at hks hl64
  have HL := Lib.hid hl33
  have H64 := Lib.hid hl64
  have hsc : st.length ≤ sc ∧ sc ≤ maxLen := by
    obtain ⟨_, _, ao, cap, hv, h3, h4, _⟩ := hst
    cases hv
    exact ⟨h3, h4⟩
  obtain ⟨hsc1, hsc2⟩ := hsc
  unfold maxLen at hsc2
  rw [hF]
  clear h hg ht hst hr hl33 hke hF e33 hl64
  go_enter Tryz.func24, Tryz.ntmps24
  go_wp2_with (go_at_call 33; refine HL.out.mono ?_; rintro e w2 ⟨v2, rfl, own2, b2⟩; obtain ⟨a2, q2, rfl⟩ := own_shape own2)
  have OWN := Lib.hid own2
  have B02 := Lib.hid b2
  have HD2 := Lib.hid (HD.out.below b2 (Nat.le_refl _))
  have HST2 := Lib.hid (HST.out.fr0 (Fr.of_below b2 (Nat.le_refl _)))
  clear own2 b2
  go_loopw [15] (fun i wr => ∃ (k : Nat), k ≤ ks.length ∧ i = .int .i64 k ∧ CrJ d mb N st w2 ks F k wr) (fun i _ => ks.length - (intOf i).toNat)
  case atStart => exact ⟨0, Nat.zero_le _, rfl, D, Fm.refl _ _, HD2.out, HG.out, HT.out, HF0.out⟩
  case round =>
    obtain ⟨k, hk, rfl, D', hfm, hdp, hdg, htn, hop⟩ := hrel
    by_cases hlt : k < ks.length
    · have hrow := Sl.of_own (own_fr OWN.out hfm.fr id) (sv_one ks)
      obtain ⟨_, _, ao, cap, hv, _, _, _, hcell⟩ := hrow
      cases hv
      obtain ⟨g, off, rfl, hcc⟩ := hcell.resolve_left (by omega)
      have c0 := hcc k _ (sv_get ks k hlt)
      have hf64 := H64.out _ (List.getElem_mem hlt)
      rw [List.drop_eq_getElem_cons hlt] at hop
      obtain ⟨f, hf⟩ : ∃ f, f = ks[k] := ⟨_, rfl⟩
      rw [← hf] at c0 hf64 hop
      obtain ⟨nn, hnn⟩ : ∃ nn, nn = stayN st k := ⟨_, rfl⟩
      have HNN := Lib.hid hnn
      have HOP := Lib.hid hop
      have HFM := Lib.hid hfm
      have HDP := Lib.hid hdp
      have HDG := Lib.hid hdg
      have HTN := Lib.hid htn
      have HSTR := Lib.hid (HST2.out.fr0 hfm.fr)
      have cm := hdp.cell
      clear hcell hcc hop hf hfm hdp hdg htn hnn
      go_upto_if 23 with fail
      go_cut [6] (fun s6 wx => s6 = .int .i64 nn ∧ wx = wr)
      case first =>
        by_cases hks2 : k < st.length
        · obtain ⟨_, _, ao2, cap2, hv2, _, _, _, hcell2⟩ := HSTR.out
          cases hv2
          obtain ⟨g2, off2, rfl, hcc2⟩ := hcell2.resolve_left (by omega)
          have c2 := hcc2 k _ (iv_get st k hks2)
          obtain ⟨z, hz⟩ : ∃ z, z = st[k] := ⟨_, rfl⟩
          have hz2 := HR.out _ (List.getElem_mem hks2)
          rw [← hz] at c2 hz2
          have hnz : (nn : Int) = max 0 z := by
            rw [HNN.out]
            unfold stayN
            rw [List.getElem?_eq_getElem hks2, ← hz]
            simp
            omega
          have HNZ := Lib.hid hnz
          clear hcell2 hcc2 hz hnz
          go_wp2_with fail
          go_meet
          exact ⟨by rw [HNZ.out], rfl⟩
        · have hnz : nn = 0 := by
            rw [HNN.out]
            unfold stayN
            rw [List.getElem?_eq_none (by omega)]
            rfl
          have HNZ := Lib.hid hnz
          clear hnz
          go_wp2_with fail
          go_meet
          exact ⟨by rw [HNZ.out]; rfl, rfl⟩
      case rest =>
      obtain ⟨rfl, hwx⟩ := hcut
      rename World => wx
      subst hwx
      have hdp := HDP.out
      obtain ⟨va, vc, na, nc, la, lc, hrun, _, hT⟩ := look_run _ mb D' hdp.2 f (by unfold maxLen; omega)
      obtain ⟨fl, hfl⟩ : ∃ fl, fl = (getK f D').getD noFil := ⟨_, rfl⟩
      rw [← hfl] at hrun hT
      have HFL := Lib.hid hfl
      obtain ⟨hlc1, hlc2⟩ := hT.loose_cap
      unfold maxLen at hlc2
      have HTT := Lib.hid hT
      clear hdp hfl hT
      go_wp2_with fail
      have hT := HTT.out
      obtain ⟨_, _, _, _, _, _, hv, t1, t2, t3⟩ := hT
      cases hv
      obtain ⟨wz, hwz⟩ : ∃ wz, wz = (wx.alloc (.cells #[.slice va fl.sure.length vc, .slice na fl.now.length nc, .bool fl.isSure, .bool fl.isNow, .slice la fl.loose.length lc] 106)).alloc (.cells #[.slice none 0 0, .slice va fl.sure.length vc, .bool false, .bool fl.isSure, .slice none 0 0] 106) := ⟨_, rfl⟩
      rw [← hwz]
      have bz : Below wx.heap.size wx wz := by rw [hwz]; exact ((Below.refl _ _).alloc (Nat.le_refl _) _).alloc (by simp) _
      have xz : Box wz (wx.heap.size + 1) 106 #[.slice none 0 0, .slice va fl.sure.length vc, .bool false, .bool fl.isSure, .slice none 0 0] := by rw [hwz]; exact Box.new _ _ _ _ (by simp)
      have HZ : Hid (CrI (wx.heap.size + 1) fl nn 0 nn wx wz) := Lib.hid ⟨fl.sure, fl.isSure, va, vc, bz, xz, t1.fr (Fr.of_below (M := noTypes) bz (Nat.le_refl _)) id, rfl, Nat.le_refl _⟩
      have hnn63 : nn ≤ 9223372036854775807 := by
        rw [HNN.out]
        unfold stayN
        cases he : st[k]? with
        | none => simp
        | some z =>
          have h2 := HR.out z (List.mem_of_getElem? he)
          simp
          omega
      have T3 := Lib.hid t3
      clear t1 t2 t3 bz xz hwz hrun c0 cm
      go_loopw [6, 43] (fun s6 j wy => ∃ (jj rest : Nat), jj ≤ fl.loose.length ∧ j = .int .i64 jj ∧ s6 = .int .i64 rest ∧ CrI (wx.heap.size + 1) fl nn jj rest wx wy) (fun _ j _ => fl.loose.length - (intOf j).toNat)
      case atStart => exact ⟨0, nn, Nat.zero_le _, rfl, rfl, HZ.out⟩
      case round =>
        obtain ⟨jj, rest, hjj, rfl, rfl, now, is, na2, nc2, hb, hx, hbt, htorn, hrest⟩ := hrel
        by_cases hjl : jj < fl.loose.length
        · obtain ⟨gl, ol, ca, cc, rfl, e0, e1, e2, ebt⟩ := (T3.out.fr (Fr.of_below (M := noTypes) hb (Nat.le_refl _)) id id).at_ jj hjl
          have hstep := tornS_take fl.loose fl.sure fl.isSure nn jj hjl
          rw [htorn] at hstep
          obtain ⟨c, hc⟩ : ∃ c, c = fl.loose[jj] := ⟨_, rfl⟩
          rw [← hc] at e0 e1 e2 ebt hstep
          have x1 := hx.cell 1 rfl
          have x3 := hx.cell 3 rfl
          have xf := hx.froz
          have xl := hx.lt
          have HB := Lib.hid hb
          have HX := Lib.hid hx
          have HBT := Lib.hid hbt
          have HEB := Lib.hid ebt
          have HSTEP := Lib.hid hstep
          clear hc hb hx hbt htorn ebt hstep
          by_cases hr0 : rest = 0
          · have hz : ((rest : Int) == 0) = true := by rw [beq_iff_eq]; omega
            have HR0 := Lib.hid hr0
            clear hr0
            go_wp2_with fail
            go_roundw
            case rel =>
              have ba : Below wr.heap.size wr (wr.alloc (.cells #[.bool c.whole, .bool c.gone, .slice ca c.b.length cc] 108)) := (Below.refl _ _).alloc (Nat.le_refl _) _
              refine ⟨jj + 1, rest, by omega, by go_num, rfl, now, is, na2, nc2, HB.out.trans (ba.mono HB.out.size), HX.out.below ba xl, HBT.out.fr (Fr.of_below (M := noTypes) ba (Nat.le_refl _)) id, ?_, hrest⟩
              rw [HSTEP.out]
              unfold tornStep
              rw [if_pos HR0.out]
            case measure => simp [intOf]; omega
          · have hz : ((rest : Int) == 0) = false := by rw [beq_eq_false_iff_ne]; omega
            have hr1 : (1 : Int) ≤ (rest : Int) := by omega
            have hr2 : 1 ≤ rest := by omega
            have hlc : c.b.length ≤ cc ∧ cc ≤ maxLen := by
              obtain ⟨_, _, _, _, hv, y3, y4, _⟩ := HEB.out.1
              cases hv
              exact ⟨y3, y4⟩
            obtain ⟨hl1, hl2⟩ := hlc
            unfold maxLen at hl2
            have HR0 := Lib.hid hr0
            clear hr0
            cases hw : c.whole with
            | true =>
              rw [hw] at e0
              have HW := Lib.hid hw
              clear hw
              go_wp2_with fail
              obtain ⟨wq, hwq⟩ : ∃ wq, wq = wr.alloc (.cells #[.bool true, .bool c.gone, .slice ca c.b.length cc] 108) := ⟨_, rfl⟩
              have bq : Below wr.heap.size wr wq := by rw [hwq]; exact (Below.refl _ _).alloc (Nat.le_refl _) _
              have xc : Box wq wr.heap.size 108 #[.bool true, .bool c.gone, .slice ca c.b.length cc] := by rw [hwq]; exact Box.new _ _ _ _ rfl
              have xq := HX.out.below bq xl
              have c1 := xc.cell 1 rfl
              have c2 := xc.cell 2 rfl
              have q1 := xq.cell 1 rfl
              have q3 := xq.cell 3 rfl
              have qf := xq.froz
              have hne : wr.heap.size ≠ wx.heap.size + 1 := by omega
              have hbq : Hid (Below wx.heap.size wx wq) := Lib.hid (HB.out.trans (bq.mono HB.out.size))
              have EBQ := Lib.hid (HEB.out.fr (Fr.of_below (M := noTypes) bq (Nat.le_refl _)) id)
              have XQ := Lib.hid xq
              have s1 : IntKind.i64.wrap ((rest : Int) - 1) = (rest : Int) - 1 := IntWalk.i64_in _ (by omega)
              rw [← hwq]
              clear hwq bq xc xq x1 x3 xf e0 e1 e2
              go_region_law (fail)
              all_goals (
                go_wp2_with fail
                go_roundw
                case rel =>
                  have f1 := box_fr (show Box wq.drew _ _ _ from XQ.out) 1 (.slice ca c.b.length cc)
                  have y1 := (show Box wq.drew _ _ _ from XQ.out).set 1 (.slice ca c.b.length cc)
                  have f2 := box_fr y1 3 (.bool !c.gone)
                  refine ⟨jj + 1, rest - 1, by omega, by go_num, by congr 1; omega, c.b, !c.gone, ca, cc, ((hbq.out.drew).setCell (by simp) _).setCell (by simp) _, y1.set 3 _, ((show BtT wq.drew _ _ from EBQ.out).fr f1 (by decide)).fr f2 (by decide), ?_, by omega⟩
                  rw [HSTEP.out]
                  unfold tornStep
                  rw [if_neg HR0.out, if_pos HW.out]
                case measure => simp [intOf]; omega)
            | false =>
              rw [hw] at e0
              have HW := Lib.hid hw
              clear hw
              obtain ⟨m, hmd⟩ : ∃ m : Nat, m = min rest c.b.length := ⟨_, rfl⟩
              have hmi : min (rest : Int) (c.b.length : Int) = (m : Int) := by omega
              have hm1 : m ≤ rest := by omega
              have hm2 : m ≤ c.b.length := by omega
              have HMD := Lib.hid hmd
              have HMI := Lib.hid hmi
              clear hmd hmi
              go_wp2_with fail
              rw [HMI.out]
              obtain ⟨wq, hwq⟩ : ∃ wq, wq = wr.alloc (.cells #[.bool false, .bool c.gone, .slice ca c.b.length cc] 108) := ⟨_, rfl⟩
              have bq : Below wr.heap.size wr wq := by rw [hwq]; exact (Below.refl _ _).alloc (Nat.le_refl _) _
              have xc : Box wq wr.heap.size 108 #[.bool false, .bool c.gone, .slice ca c.b.length cc] := by rw [hwq]; exact Box.new _ _ _ _ rfl
              have xq := HX.out.below bq xl
              have c2 := xc.cell 2 rfl
              have q1 := xq.cell 1 rfl
              have qf := xq.froz
              have hbq : Hid (Below wx.heap.size wx wq) := Lib.hid (HB.out.trans (bq.mono HB.out.size))
              have EBQ := Lib.hid (HEB.out.fr (Fr.of_below (M := noTypes) bq (Nat.le_refl _)) id)
              have NBQ := Lib.hid (HBT.out.fr (Fr.of_below (M := noTypes) bq (Nat.le_refl _)) id)
              have XQ := Lib.hid xq
              have XL := Lib.hid xq.lt
              have hlt2 : now.length ≤ 1048576 ∧ now.length + m ≤ 1048576 := by
                have z1 := HTN.out.get f jj nn
                have z2 := HTN.out.get f (jj + 1) nn
                rw [← HFL.out] at z1 z2
                rw [HSTEP.out] at z2
                unfold tornStep at z2
                rw [if_neg HR0.out, if_neg (by rw [HW.out]; decide), ← HMD.out] at z2
                simp at z2
                omega
              obtain ⟨r, hrd⟩ : ∃ r, r = now ++ c.b.take m := ⟨_, rfl⟩
              have HRD := Lib.hid hrd
              clear hrd
              have HCAT : Hid (Calls Tryz.prog 69 #[.slice (some ⟨wq.heap.size, 0, none⟩) 2 2] ((wq.alloc (.cells #[.slice na2 now.length nc2, .slice ca m cc] 23)).drew) fun e w' => ∃ v1 v2, e = .returned (.slice v1 r.length v2) ∧ BtT w' (.slice v1 r.length v2) r ∧ Below wq.heap.size wq w') := Lib.hid (by
                have hrd := HRD.out
                subst hrd
                have hfl2 : [now, c.b.take m].flatten = now ++ c.b.take m := by simp
                have hbl : (c.b.take m).length = m := by simp; omega
                have hcm : Bt wq (.slice ca m cc) (c.b.take m) := by
                  obtain ⟨z1, z2, ao, cap, hv, z3, z4, z6, z5⟩ := EBQ.out.1
                  cases hv
                  refine ⟨by simp, bv_one _, ca, cc, by rw [hbl], by rw [hbl]; omega, z4, z6, ?_⟩
                  rw [hbl]
                  rcases z5 with z5 | ⟨g', off', e, z5⟩
                  · exact Or.inl (by omega)
                  · refine Or.inr ⟨g', off', e, fun j y hj => z5 j y ?_⟩
                    have hjl2 := (List.getElem?_eq_some_iff.1 hj).1
                    rw [bv_length] at hjl2
                    rw [bv_get _ j hjl2] at hj
                    rw [bv_get c.b j (by omega), ← hj]
                    simp
                refine (concat69 _ [now, c.b.take m] _ (show Bts ((wq.alloc (.cells #[.slice na2 now.length nc2, .slice ca m cc] 23)).drew) _ _ from Bts.two' _ wq _ _ _ _ rfl NBQ.out.1 hcm) (by rw [hfl2, List.length_append, hbl]; omega)).mono ?_
                rw [hfl2]
                rintro e w' ⟨v', rfl, ho, hb'⟩
                obtain ⟨v1, v2, rfl⟩ := own_shape ho
                exact ⟨v1, v2, rfl, BtT.of_own ho, ((Below.refl _ _).alloc (Nat.le_refl _) _).drew.trans (hb'.mono (by simp))⟩)
              have s1 : IntKind.i64.wrap ((rest : Int) - (m : Int)) = (rest : Int) - (m : Int) := IntWalk.i64_in _ (by omega)
              have t1 : (0 : Int) ≤ (m : Int) := by omega
              have t2 : (m : Int) ≤ (cc : Int) := by omega
              rw [← hwq]
              clear hwq bq xc xq x1 x3 xf e0 e1 e2
              go_region_law ((go_simp; go_at_call 69; (with_reducible refine HCAT.out.mono ?_); rintro e w5 ⟨v1, v2, rfl, hbt5, b5⟩; have x5 := XQ.out.below b5 XL.out; have z5 := x5.cell 1 rfl; have f5 := x5.froz))
              all_goals (
                go_wp2_with fail
                go_roundw
                case rel =>
                  refine ⟨jj + 1, rest - m, by omega, by go_num, by congr 1; omega, r, is, v1, v2, (hbq.out.trans (b5.mono hbq.out.size)).setCell (by simp) _, x5.set 1 _, hbt5.fr (box_fr x5 1 _) (by decide), ?_, by omega⟩
                  rw [HSTEP.out]
                  unfold tornStep
                  rw [if_neg HR0.out, if_neg (by rw [HW.out]; decide), ← HMD.out, HRD.out]
                case measure => simp [intOf]; omega)
        · have hje : jj = fl.loose.length := by omega
          rw [hje, List.take_length] at htorn
          have x0 := hx.cell 0 rfl
          have x1 := hx.cell 1 rfl
          have x2 := hx.cell 2 rfl
          have x3 := hx.cell 3 rfl
          have x4 := hx.cell 4 rfl
          have hset := settle70 d mb D' f ⟨[], now, false, is, []⟩ (.agg #[.slice none 0 0, .slice na2 now.length nc2, .bool false, .bool is, .slice none 0 0]) wr (HDP.out.below hb (Nat.le_refl _)) ⟨none, 0, na2, nc2, none, 0, rfl, BtT.nil _, hbt, ChT.nil _⟩ hf64 (by have := HDG.out.len; unfold maxLen; omega)
          have HSET := Lib.hid hset
          have HT := Lib.hid htorn
          have HB := Lib.hid hb
          clear hset htorn hb hx hbt
          go_wp2_with (go_at_call 70; refine HSET.out.mono ?_; rintro e w5 ⟨rfl, hd5, f5⟩)
          go_roundw
          case rel =>
            have hD1 : settled f ⟨[], now, false, is, []⟩ D' = crash1 f nn D' := by
              unfold crash1
              rw [← HFL.out, HT.out]
            refine ⟨k + 1, by omega, by go_num, _, (HFM.out.trans (Fm.of_below HB.out (Nat.le_refl _))).trans f5, hd5, ?_, ?_, ?_⟩
            · rw [hD1]
              exact HDG.out.crash1 HTN.out f nn hf64
            · rw [hD1]
              exact HTN.out.crash1 f nn
            · rw [hD1, HNN.out]
              exact HOP.out
          case measure => simp [intOf]; omega
    · have hkl : ks.drop k = [] := List.drop_of_length_le (by omega)
      rw [hkl] at hop
      have HOP := Lib.hid hop
      have HX := Lib.hid (And.intro hfm hdp)
      clear hkl hop hfm hdp hdg htn
      go_wp2
      have e : F = D' := HOP.out.symm
      rw [e]
      go_end0
      exact ⟨rfl, HX.out.2, (Fm.of_below B02.out (Nat.le_refl _)).trans HX.out.1⟩
end Go.Proofs.YtpcipfnahknngaaGreatDoor

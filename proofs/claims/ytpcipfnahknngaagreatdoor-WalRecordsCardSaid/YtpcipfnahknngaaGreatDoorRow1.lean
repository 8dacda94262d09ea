/- The tied card of WalRecords. -/
import Derived.Test.YtpcipfnahknngaaGreatDoorCards
import Derived.Test.YtpcipfnahknngaaGreatDoorTie
import Derived.Test.YtpcipfnahknngaaGreatDoorWr6
import Derived.ProofKit
import Derived.WideKeyArgs
import Derived.LaidMore
import Derived.OpenShut
import Derived.Stop.Joined
import Derived.Lib.SmallJoins
import Derived.Lib.LaidTab
namespace Go.Proofs.YtpcipfnahknngaaGreatDoor
open Go.ChangeShapes Go.WideShapes Go.ChangeAt Go.RowKit Go.Joins

theorem ownK : ownKnob Tryz.prog.godebug = none := by kernel_rfl
theorem laidOutK : laidOutB Tryz.prog = true := by kernel_rfl
theorem g0T : (Tryz.prog.globals[2]?).map (·.type) = some 209 := by kernel_rfl
abbrev laid5 : List (String × DataW Unit) := Rows.walRecordsRow.laid
theorem door_met (os : Os) (args : Array Value) : laidMetH Tryz.prog laid5 ((World.doorLaid Tryz.prog 400 os).forCall (fun _ _ => 0) ⟨#[], args, []⟩).memory :=
  laidMetH_of_parts3 (fuel := 8) (laidMet_of_run' 8 (by kernel_rfl) (by kernel_rfl)) (by kernel_rfl) (by kernel_rfl)
/-- the table of the powers of ten, out of the row's condition -/
theorem pow_of_laid {W : World} (h : laidMetH Tryz.prog laid5 W) : PowTab W := by
  rw [MakeChecks.laidMetH_plain _ _ _ (by kernel_rfl)] at h
  obtain ⟨ps, ⟨g0, t0, cs0, f0, p0, q0, hg0, ht0, hv0, hd0, ⟨g1, t1, cs1, f1, p1, q1, hg1, ht1, hv1, hd1, ⟨g2, t2, cs2, f2, p2, q2, hg2, ht2, hv2, hd2, _, _⟩, _⟩, _⟩, _, _⟩ := h
  obtain rfl := Option.some.inj (pow_named.symm.trans hg2)
  obtain rfl := Option.some.inj (g0T.symm.trans ht2)
  unfold PowTab Lib.TabIs
  rw [hv2]
  have hk : DataW.trod _ Tryz.prog W _ _ _ f2 209 cs2.toList = some (Lib.tabData .u64 Lib.pow10Tab, p2) := hd2
  rw [← Lib.cells_of_tab Tryz.underlying209 Tryz.underlying22 (by kernel_rfl) (by kernel_rfl) hk]

/-- an argument of bytes -/
theorem bytes_of {H : Type} {enc : TypeId × Value → H} {W : World} {fuel : Nat} {v : Value} {y : DataW H × List MemPlace} (h : DataW.trod enc Tryz.prog W 0 (fun _ => true) true fuel 23 [v] = some y) : ∃ b, Bt W v b := by
  rcases open_ints Tryz.underlying23 Tryz.underlying5 (by kernel_rfl) h with ⟨hcs, _⟩ | ⟨a, l, c, zs, hcs, _, hl, hm, hz, _, hcell, hwz⟩
  · cases hcs
    exact ⟨[], Bt.nil W⟩
  · cases hcs
    simp only [if_true] at hz
    have hlen : ((zs.take l).map fun z => UInt8.ofNat z.toNat).length = l := by simp; omega
    refine ⟨(zs.take l).map fun z => UInt8.ofNat z.toNat, by simp, bv_one _, some a, c, by rw [hlen], by rw [hlen]; exact hl, hm, (fun h => by cases h), ?_⟩
    rw [hlen]
    by_cases h0 : l = 0
    · exact Or.inl h0
    · right
      have h1 := hcell 0 (by omega)
      have hsp : a.spot = none := by
        have h2 : a.add 0 = a := by simp [Addr.add]
        rw [h2] at h1
        unfold World.cell? at h1
        split at h1
        · split at h1
          · cases h1
          · rename_i hs
            simpa using hs
        · cases h1
      obtain ⟨ab, ao, asp⟩ := a
      simp only at hsp
      subst hsp
      refine ⟨ab, ao, rfl, fun j u hj => ?_⟩
      have hjl : j < l := by
        have := (List.getElem?_eq_some_iff.1 hj).1
        simp at this; omega
      rw [bv_get _ j (by rw [hlen]; exact hjl)] at hj
      cases hj
      have h2 := hcell j (by omega)
      have h3 : (⟨ab, ao, none⟩ : Addr).add j = ⟨ab, ao + j, none⟩ := by
        unfold Addr.add
        split
        · rename_i e; subst e; rfl
        · rfl
      rw [h3] at h2
      rw [h2]
      have hjz : j < zs.length := by omega
      have hz2 : zs.getD j 0 = zs[j] := by simp [List.getD, hjz]
      have hwf := hwz _ (List.getElem_mem hjz)
      rw [hz2]
      have hr : 0 ≤ zs[j] ∧ zs[j] < 256 := by
        have e1 : IntKind.u8.min = 0 := by decide
        have e2 : IntKind.u8.max = 255 := by decide
        simp [Lit.wf, e1, e2] at hwf
        omega
      simp
      omega

set_option maxRecDepth 100000 in
theorem records_lifted (os : Os) (started : os.Started) (H : Type) (enc : TypeId × Value → H) :
    ReturnsInHanded {} Tryz.checked os 3 .any (fun w args => (Rows.walRecordsSpec.pre enc Tryz.prog Tryz.f3 [] false w args ∧ laidMetH Tryz.prog laid5 w) ∧ sizedMet enc Tryz.prog Tryz.f3 (OpenSpec.ofChange Rows.walRecordsSpec) false w args)
      (Rows.walRecordsSpec.post enc Tryz.prog Tryz.f3 false true false false) := by
  refine returnsInHanded_of_change_and (C := Tryz.checked) (X := fun w _ => laidMetH Tryz.prog laid5 w) (fun _ _ _ hh h => h.of_heap hh) ownK started (by kernel_rfl) Tryz.func3
    (ChangeSpec.witness_shaped (enc := enc) (C := Tryz.checked) (os := os) (X := fun w _ => laidMetH Tryz.prog laid5 w) false (World.doorLaid Tryz.prog 400 os) #[.agg #[.int .u64 0, .int .u64 0, .slice none 0 0], .slice none 0 0] 8 rfl (World.shaped_of_RefB (by kernel_rfl) (by kernel_rfl)) (by kernel_rfl) (by kernel_rfl) (by kernel_rfl) (door_met os _)) ?_
  intro W base args ds gs before hval0 hW _ _ hL _
  have hval : ∀ (j : Nat) t v, Tryz.f3.params[j]? = some t → args[j]? = some v → Value.okWide Tryz.prog W .any base t v := hval0
  have hW' := hW
  obtain ⟨p, q, hA0, hV, rfl, hfz, hnd⟩ := hW
  have hA : DataW.TrodAll enc Tryz.prog W 0 (fun _ => true) true Tryz.f3.params.toList args.toList ds p := hA0
  rw [Tryz.params3] at hA hval
  obtain ⟨v0, v1, d0, d1, p0, p1, rfl, rfl, rfl, h0, h1⟩ := trodAll_two hA
  obtain ⟨rfl, rfl⟩ := trodVars_none hV
  have htab := pow_of_laid hL
  obtain ⟨f0, f1, f2, y0, y1, y2, n, rfl, _, _, k0, k1, k2⟩ := open_agg3 Tryz.underlying25 (by kernel_rfl) (by kernel_rfl) (hval 0 25 v0 rfl rfl) h0
  obtain ⟨i, hi1, _, hi2⟩ := DataW.trod_int Tryz.underlying22 k0
  obtain ⟨t, ht1, _, ht2⟩ := DataW.trod_int Tryz.underlying22 k1
  obtain ⟨eb, heb⟩ := bytes_of k2
  obtain ⟨a9, l9, c9, rfl⟩ := okWide_slice Tryz.underlying23 (hval 1 23 v1 rfl rfl)
  obtain ⟨m, k3⟩ := h1
  obtain ⟨b, hb⟩ := bytes_of k3
  have h1 : DataW.Trod enc Tryz.prog W 0 (fun _ => true) true 23 (.slice a9 l9 c9) d1 p1 := ⟨m, k3⟩
  cases hi1
  cases ht1
  have hlt0 : ∀ x ∈ p0, x.block < W.heap.size := fun x hx => hW'.lt x (by simp only [List.append_nil]; exact List.mem_append_left _ hx)
  have hlt1 : ∀ x ∈ p1, x.block < W.heap.size := fun x hx => hW'.lt x (by simp only [List.append_nil]; exact List.mem_append_right _ hx)
  have hir : 0 ≤ i ∧ i < 18446744073709551616 := by
    have e1 : IntKind.u64.min = 0 := by decide
    have e2 : IntKind.u64.max = 18446744073709551615 := by decide
    simp [Lit.wf, e1, e2] at hi2
    omega
  have htr : 0 ≤ t ∧ t < 18446744073709551616 := by
    have e1 : IntKind.u64.min = 0 := by decide
    have e2 : IntKind.u64.max = 18446744073709551615 := by decide
    simp [Lit.wf, e1, e2] at ht2
    omega
  have ei : i = ((i.toNat : Nat) : Int) := by omega
  have et : t = ((t.toNat : Nat) : Int) := by omega
  have hcall : Calls Tryz.prog 3 #[.agg #[.int .u64 ((i.toNat : Nat) : Int), .int .u64 ((t.toNat : Nat) : Int), f2], .slice a9 l9 c9] W fun e w' => e = .returned (.bool true) ∧ Fr walT W w' ∧ Lo W.heap.size W w' := by
    by_cases hlen : eb.length ≤ 3000
    · exact records3 ⟨i.toNat, t.toNat, eb⟩ f2 (.slice a9 l9 c9) b W ⟨by simp only; omega, by simp only; omega, by simp only; omega⟩ heb hb htab
    · exact records3_out ⟨i.toNat, t.toNat, eb⟩ f2 (.slice a9 l9 c9) b W heb hb htab (Or.inl (by simp only; omega))
  rw [← ei, ← et] at hcall
  refine hcall.mono fun e W' ⟨he, hf, hlo⟩ => ?_
  subst he
  have hB : Below W.heap.size W W' := ⟨hf.os, hf.tape, hf.output, hf.size, fun g hg => hlo.block g hg hg⟩
  refine ⟨_, rfl, _, _, _, [], p0 ++ p1, [], hW', ?_, ?_, ?_, hB.frame _, fun h => by cases h⟩
  · exact trodAll_mk1 (shut_bool Tryz.underlying4 true)
  · exact trodAll_mk2 (WideElems.Trod_stays (P := Tryz.prog) laidOutK (by kernel_rfl) (of_decide_eq_true (by kernel_rfl)) h0 (fun x hx => hB.same (hlt0 x hx)) (fun x hx => by simpa using hlt0 x hx))
      (WideElems.Trod_stays (P := Tryz.prog) laidOutK (by kernel_rfl) (of_decide_eq_true (by kernel_rfl)) h1 (fun x hx => hB.same (hlt1 x hx)) (fun x hx => by simpa using hlt1 x hx))
  · rfl

theorem records_holds : Rows.WalRecordsSaid :=
  OpenClaim.holds_of_wide 3 Tryz.f3 rfl rfl rfl rfl rfl rfl rfl ⟨rfl, rfl, rfl, rfl, rfl⟩ rfl rfl rfl rfl rfl (by kernel_rfl) Tryz.func3 (by kernel_rfl)
    (of_decide_eq_true (by kernel_rfl)) (by unfold Func.isWrapper; rw [if_neg (of_decide_eq_false (by kernel_rfl))]; exact ⟨rfl, rfl⟩)
    (fun os started H enc _ => records_lifted os started H enc)

/-- THE TIED CARD. -/
theorem walRecords_card : Rows.WalRecordsCardSaid :=
  Claim7.holds_tied_plain_at .later [] [.data, .data, .data, .sentinel, .sentinel] true (true, "31e55806a63a1f705881196d9a2972aa90e968ade327d23860d969b738058ffa") true
    records_holds (fun _ h => by cases h) (by kernel_rfl) (fun _ h => by cases h) walRecords_row_tie rfl ⟨rfl, rfl⟩ (by kernel_rfl) rfl
    (fun f fn hf hfn => by
      obtain rfl : f = 3 := Option.some.inj ((show Tryz.prog.funcNamed "ringer/ringerlaw10.WalRecords" = some 3 by kernel_rfl).symm.trans hf) |>.symm
      obtain rfl : fn = Tryz.f3 := (Option.some.inj (Tryz.func3.symm.trans hfn)).symm
      exact ⟨by kernel_rfl, fun j t ht => by
        rw [Tryz.params3] at ht
        rcases j with _ | _ | j
        · have h3 : t = 25 := by simpa using ht.symm
          subst h3
          exact (show Tryz.prog.wantsStandIn 25 = false by kernel_rfl)
        · have h3 : t = 23 := by simpa using ht.symm
          subst h3
          exact (show Tryz.prog.wantsStandIn 23 = false by kernel_rfl)
        · simp at ht⟩)
    (by kernel_rfl)
#print axioms walRecords_card
end Go.Proofs.YtpcipfnahknngaaGreatDoor

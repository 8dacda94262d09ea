/- The tied card of WalTorn: whatever the input, the law returns true and the arguments read as they did. No condition but the row own cells (the laid package variables). -/
import Derived.Test.YtpcipfnahknngaaGreatDoorOpa
import Derived.Test.YtpcipfnahknngaaGreatDoorWt2
namespace Go.Proofs.YtpcipfnahknngaaGreatDoor
open Go.ChangeShapes Go.WideShapes Go.ChangeAt Go.RowKit Go.Joins Go.Maps

theorem ownKT : ownKnob Tryz.prog.godebug = none := by kernel_rfl
theorem laidOutKT : laidOutB Tryz.prog = true := by kernel_rfl
theorem door_metT (os : Os) (args : Array Value) : laidMetH Tryz.prog laidT ((World.doorLaid Tryz.prog 400 os).forCall (fun _ _ => 0) ⟨#[], args, []⟩).memory :=
  laidMetH_of_parts3 (fuel := 8) (laidMet_of_run' 8 (by kernel_rfl) (by kernel_rfl)) (by kernel_rfl) (by kernel_rfl)

set_option maxRecDepth 100000 in
theorem torn_lifted (os : Os) (started : os.Started) (H : Type) (enc : TypeId × Value → H) :
    ReturnsInHanded {} Tryz.checked os 5 .any (fun w args => (Rows.walTornSpec.pre enc Tryz.prog Tryz.f5 [] false w args ∧ laidMetH Tryz.prog laidT w) ∧ sizedMet enc Tryz.prog Tryz.f5 (OpenSpec.ofChange Rows.walTornSpec) false w args)
      (Rows.walTornSpec.post enc Tryz.prog Tryz.f5 false true false false) := by
  refine returnsInHanded_of_change_and (C := Tryz.checked) (X := fun w _ => laidMetH Tryz.prog laidT w) (fun _ _ _ hh h => h.of_heap hh) ownKT started (by kernel_rfl) Tryz.func5
    (ChangeSpec.witness_shaped (enc := enc) (C := Tryz.checked) (os := os) (X := fun w _ => laidMetH Tryz.prog laidT w) false (World.doorLaid Tryz.prog 400 os) #[.slice none 0 0, .int .i64 0, .slice none 0 0] 8 rfl (World.shaped_of_RefB (by kernel_rfl) (by kernel_rfl)) (by kernel_rfl) (by kernel_rfl) (by kernel_rfl) (door_metT os _)) ?_
  intro W base args ds gs before hval0 hW _ _ hL _
  have hval : ∀ (j : Nat) t v, Tryz.f5.params[j]? = some t → args[j]? = some v → Value.okWide Tryz.prog W .any base t v := hval0
  have hW' := hW
  obtain ⟨p, q, hA0, hV, rfl, hfz, hnd⟩ := hW
  have hA : DataW.TrodAll enc Tryz.prog W 0 (fun _ => true) true Tryz.f5.params.toList args.toList ds p := hA0
  rw [Tryz.params5] at hA hval
  obtain ⟨v0, v1, v2, d0, d1, d2, p0, p1, p2, rfl, rfl, rfl, h0, h1, h2⟩ := trodAll_three hA
  obtain ⟨rfl, rfl⟩ := trodVars_none hV
  obtain ⟨htab, hev⟩ := vars_of_laid hL
  obtain ⟨a0, l0, c0, rfl⟩ := okWide_slice Tryz.underlying65 (hval 0 65 v0 rfl rfl)
  obtain ⟨sy, rfl⟩ := okWide_int Tryz.underlying3 (hval 1 3 v1 rfl rfl)
  obtain ⟨a2, l2, c2, rfl⟩ := okWide_slice Tryz.underlying54 (hval 2 54 v2 rfl rfl)
  obtain ⟨m0, k0⟩ := h0
  obtain ⟨m1, k1⟩ := h1
  obtain ⟨m2, k2⟩ := h2
  obtain ⟨ls, la, lc, hv0, hls⟩ := rowsOf k0
  obtain ⟨z, hz1, _, hz2⟩ := DataW.trod_int Tryz.underlying3 k1
  obtain ⟨st, sa, sc, hv2, hst, hr⟩ := intsOf k2
  have h0 : DataW.Trod enc Tryz.prog W 0 (fun _ => true) true 65 (.slice a0 l0 c0) d0 p0 := ⟨m0, k0⟩
  have h1 : DataW.Trod enc Tryz.prog W 0 (fun _ => true) true 3 (.int .i64 sy) d1 p1 := ⟨m1, k1⟩
  have h2 : DataW.Trod enc Tryz.prog W 0 (fun _ => true) true 54 (.slice a2 l2 c2) d2 p2 := ⟨m2, k2⟩
  cases hz1
  cases hv0
  cases hv2
  have hlt0 : ∀ x ∈ p0, x.block < W.heap.size := fun x hx => hW'.lt x (by simp only [List.append_nil]; exact List.mem_append_left _ (List.mem_append_left _ hx))
  have hlt1 : ∀ x ∈ p1, x.block < W.heap.size := fun x hx => hW'.lt x (by simp only [List.append_nil]; exact List.mem_append_left _ (List.mem_append_right _ hx))
  have hlt2 : ∀ x ∈ p2, x.block < W.heap.size := fun x hx => hW'.lt x (by simp only [List.append_nil]; exact List.mem_append_right _ hx)
  have hsr : -9223372036854775808 ≤ sy ∧ sy ≤ 9223372036854775807 := by
    have e1 : IntKind.i64.min = -9223372036854775808 := by decide
    have e2 : IntKind.i64.max = 9223372036854775807 := by decide
    simp [Lit.wf, e1, e2] at hz2
    omega
  have hcall : Calls Tryz.prog 5 #[.slice a0 ls.length c0, .int .i64 sy, .slice a2 st.length c2] W fun e w' => e = .returned (.bool true) ∧ Below W.heap.size W w' :=
    torn5 ls sy st a0 c0 a2 c2 W hls hst hr hsr.1 hsr.2 htab hev
  refine hcall.mono fun e W' ⟨he, hB⟩ => ?_
  subst he
  refine ⟨_, rfl, _, _, _, [], p0 ++ (p1 ++ p2), [], hW', ?_, ?_, ?_, hB.frame _, fun h => by cases h⟩
  · exact trodAll_mk1 (shut_bool Tryz.underlying4 true)
  · exact trodAll_mk3 (WideElems.Trod_stays (P := Tryz.prog) laidOutKT (by kernel_rfl) (of_decide_eq_true (by kernel_rfl)) h0 (fun x hx => hB.same (hlt0 x hx)) (fun x hx => by simpa using hlt0 x hx))
      (WideElems.Trod_stays (P := Tryz.prog) laidOutKT (by kernel_rfl) (of_decide_eq_true (by kernel_rfl)) h1 (fun x hx => hB.same (hlt1 x hx)) (fun x hx => by simpa using hlt1 x hx))
      (WideElems.Trod_stays (P := Tryz.prog) laidOutKT (by kernel_rfl) (of_decide_eq_true (by kernel_rfl)) h2 (fun x hx => hB.same (hlt2 x hx)) (fun x hx => by simpa using hlt2 x hx))
  · rfl

theorem torn_holds : Rows.WalTornSaid :=
  OpenClaim.holds_of_wide 5 Tryz.f5 rfl rfl rfl rfl rfl rfl rfl ⟨rfl, rfl, rfl, rfl, rfl⟩ rfl rfl rfl rfl rfl (by kernel_rfl) Tryz.func5 (by kernel_rfl)
    (of_decide_eq_true (by kernel_rfl)) (by unfold Func.isWrapper; rw [if_neg (of_decide_eq_false (by kernel_rfl))]; exact ⟨rfl, rfl⟩)
    (fun os started H enc _ => torn_lifted os started H enc)

/-- THE TIED CARD. -/
theorem walTorn_card : Rows.WalTornCardSaid :=
  Claim7.holds_tied_plain_at .later [] [.data, .data, .data, .sentinel, .sentinel] true (true, "31e55806a63a1f705881196d9a2972aa90e968ade327d23860d969b738058ffa") true
    torn_holds (fun _ h => by cases h) (by kernel_rfl) (fun _ h => by cases h) walTorn_row_tie rfl ⟨rfl, rfl⟩ (by kernel_rfl) rfl
    (fun f fn hf hfn => by
      obtain rfl : f = 5 := Option.some.inj ((show Tryz.prog.funcNamed "ringer/ringerlaw10.WalTorn" = some 5 by kernel_rfl).symm.trans hf) |>.symm
      obtain rfl : fn = Tryz.f5 := (Option.some.inj (Tryz.func5.symm.trans hfn)).symm
      exact ⟨by kernel_rfl, fun j t ht => by
        rw [Tryz.params5] at ht
        rcases j with _ | _ | _ | j
        · have h3 : t = 65 := by simpa using ht.symm
          subst h3
          exact (show Tryz.prog.wantsStandIn 65 = false by kernel_rfl)
        · have h3 : t = 3 := by simpa using ht.symm
          subst h3
          exact (show Tryz.prog.wantsStandIn 3 = false by kernel_rfl)
        · have h3 : t = 54 := by simpa using ht.symm
          subst h3
          exact (show Tryz.prog.wantsStandIn 54 = false by kernel_rfl)
        · simp at ht⟩)
    (by kernel_rfl)
#print axioms walTorn_card
end Go.Proofs.YtpcipfnahknngaaGreatDoor

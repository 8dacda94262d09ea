/- WalRecords: the call. -/
import Derived.Test.YtpcipfnahknngaaGreatDoorWr5
namespace Go.Proofs.YtpcipfnahknngaaGreatDoor
open Go.RowKit Go.Maps

set_option maxRecDepth 100000 in
set_option maxHeartbeats 6400000 in
theorem records3 (x : Ent) (u v : Value) (b : List UInt8) (w : World) (hx : x.ok) (hu : Bt w u x.b) (hv : Bt w v b) (htab : PowTab w) :
    Calls Tryz.prog 3 #[.agg #[.int .u64 x.i, .int .u64 x.t, u], v] w fun e w' => e = .returned (.bool true) ∧ Fr walT w w' ∧ Lo w.heap.size w w' := by
  by_cases hout : ¬ (x.b.length ≤ 300 ∨ 1990 ≤ x.b.length ∧ x.b.length ≤ 3000) ∨ 300 < b.length
  · exact records3_out x u v b w hu hv htab hout
  · have hu0 := hu
    have hv0 := hv
    obtain ⟨y1, y2, uo, uc, rfl, y3, y4, y7, y5⟩ := hu0
    obtain ⟨z1, z2, vo, vc, rfl, z3, z4, z7, z5⟩ := hv0
    clear y1 y2 y3 y4 y7 y5 z1 z2 z3 z4 z7 z5
    have b0 : Below w.heap.size w (w.alloc (Obj.cells #[Value.int .u64 x.i, Value.int .u64 x.t, Value.slice uo x.b.length uc] 25)) := (Below.refl _ _).alloc (Nat.le_refl _) _
    have hk := known6 _ (htab.below b0 (Nat.le_refl _))
    have hbx := Box.new w w.heap.size 25 #[Value.int .u64 x.i, Value.int .u64 x.t, Value.slice uo x.b.length uc] rfl
    have HK6 := Lib.hid hk
    have HBX := Lib.hid hbx
    have HB0 := Lib.hid b0
    have HU := Lib.hid hu
    have HV := Lib.hid hv
    have HX := Lib.hid hx
    have h1 : x.b.length ≤ 300 ∨ 1990 ≤ x.b.length ∧ x.b.length ≤ 3000 := Decidable.not_not.1 fun h => hout (Or.inl h)
    have h2 : b.length ≤ 300 := by omega
    have H1 := Lib.hid h1
    clear hk hbx b0 htab hu hv hx h1 hout
    go_enter Tryz.func3, Tryz.ntmps3
    go_upto_region 3 with (go_at_call 6; refine HK6.out.mono ?_; rintro e w1 ⟨rfl, f1, lo1⟩; have hb1 := HBX.out.fr f1 (by unfold walT; decide); have c2 := hb1.cell 2 rfl)
    rename_i kk hkk _ _
    have HK := Lib.hid hkk
    clear hkk
    go_wp2
    all_goals first
      | (exfalso; have := H1.out; omega)
      | (refine HK.out _ _ ?_
         refine tail3 x uo uc vo vc b w.heap.size _ _ _ _ _ _ _ _ _ _ _ _ _ _ _ _ _ _ _ _ _ _ _ _ _ _ _ _ _ _ _ _ _ _ _ _ _ _ _ _ _ _ _ _ _ _ _ _ _ _ _ _ _ _ _ _ _ _ _ _ _ _ _ _ _ _ _ _ _ _ _ _ _ _ _ _ _ _ _ _ _ _ _ _ _ _ _ _ _ _ _ _ _ _ _ _ _ _ _ _ _ _ _ _ _ _ _ _ _ _ _ _ _ _ _ _ _ _ _ _ _ _ _ _ _ _ _ _ _ _ _ _ _ _ _ _ _ _ hb1 HX.out (((HU.out.below HB0.out (Nat.le_refl _)).lo lo1)) ((HV.out.below HB0.out (Nat.le_refl _)).lo lo1) h2 (by have := H1.out; omega) ?_
         intro w' hb
         exact ⟨rfl, ((Fr.of_below HB0.out (Nat.le_refl _)).trans f1).trans (Fr.of_below hb (Nat.le_refl _)), ((Lo.blw HB0.out (Nat.le_refl _)).trans (lo1.mono (by simp))).trans (Lo.blw hb (Nat.le_refl _))⟩)
end Go.Proofs.YtpcipfnahknngaaGreatDoor

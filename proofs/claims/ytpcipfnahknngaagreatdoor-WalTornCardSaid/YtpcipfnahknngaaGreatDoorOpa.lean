/- Arguments out of what a row's condition reads: bytes, rows of bytes, rows of ints, the two errors of strconv. No statement of the seat. -/
import Derived.Test.YtpcipfnahknngaaGreatDoorCards
import Derived.Test.YtpcipfnahknngaaGreatDoorTie
import Derived.Test.YtpcipfnahknngaaGreatDoorWt1
import Derived.ProofKit
import Derived.WideKeyArgs
import Derived.LaidMore
import Derived.OpenShut
import Derived.Stop.Joined
import Derived.Lib.SmallJoins
import Derived.Lib.LaidTab
import Derived.Deep.Slices
namespace Go.Proofs.YtpcipfnahknngaaGreatDoor
open Go.ChangeShapes Go.WideShapes Go.ChangeAt Go.RowKit Go.Joins Go.Maps Go.Deep

theorem spot_of_cell {w : World} {a : Addr} {x : Value} (h : w.cell? a = some x) : a.spot = none := by
  unfold World.cell? at h
  split at h
  · split at h
    · cases h
    · rename_i hs
      simpa using hs
  · cases h
theorem add_plain (g o j : Nat) : (⟨g, o, none⟩ : Addr).add j = ⟨g, o + j, none⟩ := by
  unfold Addr.add
  split
  · rename_i e; subst e; rfl
  · rfl
/-- an argument of bytes -/
theorem bytesOf {H : Type} {enc : TypeId × Value → H} {W : World} {fuel : Nat} {v : Value} {y : DataW H × List MemPlace} (h : DataW.trod enc Tryz.prog W 0 (fun _ => true) true fuel 23 [v] = some y) : ∃ b, Bt W v b := by
  rcases open_ints Tryz.underlying23 Tryz.underlying5 (by kernel_rfl) h with ⟨hcs, _⟩ | ⟨a, l, c, zs, hcs, _, hl, hm, hz, _, hcell, hwz⟩
  · cases hcs
    exact ⟨[], Bt.nil W⟩
  · cases hcs
    simp only [if_true] at hz
    have hlen : ((zs.take l).map fun z => UInt8.ofNat z.toNat).length = l := by simp; omega
    refine ⟨(zs.take l).map fun z => UInt8.ofNat z.toNat, by simp, bv_one _, some a, c, by rw [hlen], by rw [hlen]; exact hl, hm, (fun h => by cases h), ?_⟩
    rw [hlen]
    by_cases h0 : l = 0
    · exact Or.inl h0
    · right
      have h1 := hcell 0 (by omega)
      have hsp := spot_of_cell h1
      obtain ⟨ab, ao, asp⟩ := a
      have hsp2 : asp = none := by
        have h2 : (⟨ab, ao, asp⟩ : Addr).add 0 = ⟨ab, ao, asp⟩ := by simp [Addr.add]
        rw [h2] at hsp
        exact hsp
      subst hsp2
      refine ⟨ab, ao, rfl, fun j u hj => ?_⟩
      have hjl : j < l := by
        have := (List.getElem?_eq_some_iff.1 hj).1
        simp at this; omega
      rw [bv_get _ j (by rw [hlen]; exact hjl)] at hj
      cases hj
      have h2 := hcell j (by omega)
      rw [add_plain] at h2
      rw [h2]
      have hjz : j < zs.length := by omega
      have hz2 : zs.getD j 0 = zs[j] := by simp [List.getD, hjz]
      have hwf := hwz _ (List.getElem_mem hjz)
      rw [hz2]
      have hr : 0 ≤ zs[j] ∧ zs[j] < 256 := by
        have e1 : IntKind.u8.min = 0 := by decide
        have e2 : IntKind.u8.max = 255 := by decide
        simp [Lit.wf, e1, e2] at hwf
        omega
      simp
      omega
/-- .. of ints -/
theorem intsOf {H : Type} {enc : TypeId × Value → H} {W : World} {fuel : Nat} {v : Value} {y : DataW H × List MemPlace} (h : DataW.trod enc Tryz.prog W 0 (fun _ => true) true fuel 54 [v] = some y) :
    ∃ (st : List Int) (sa : Option Addr) (sc : Nat), v = .slice sa st.length sc ∧ Sl W 1 v st.length (iv st) ∧ ∀ z ∈ st, z ≤ 9223372036854775807 := by
  rcases open_ints Tryz.underlying54 Tryz.underlying3 (by kernel_rfl) h with ⟨hcs, _⟩ | ⟨a, l, c, zs, hcs, _, hl, hm, hz, _, hcell, hwz⟩
  · cases hcs
    exact ⟨[], none, 0, rfl, Sl.nil W 1, fun z hz => by simp at hz⟩
  · cases hcs
    simp only [if_true] at hz
    have hlen : (zs.take l).length = l := by simp; omega
    refine ⟨zs.take l, some a, c, by rw [hlen], ⟨by simp [iv], fun u hu => ?_, some a, c, by rw [hlen], by rw [hlen]; exact hl, hm, (fun h => by cases h), ?_⟩, fun z hz => ?_⟩
    · obtain ⟨z, _, rfl⟩ := List.mem_map.1 hu
      rfl
    · rw [hlen]
      by_cases h0 : l = 0
      · exact Or.inl h0
      · right
        have h1 := hcell 0 (by omega)
        have hsp := spot_of_cell h1
        obtain ⟨ab, ao, asp⟩ := a
        have hsp2 : asp = none := by
          have h2 : (⟨ab, ao, asp⟩ : Addr).add 0 = ⟨ab, ao, asp⟩ := by simp [Addr.add]
          rw [h2] at hsp
          exact hsp
        subst hsp2
        refine ⟨ab, ao, rfl, fun j u hj => ?_⟩
        have hjl : j < l := by
          have := (List.getElem?_eq_some_iff.1 hj).1
          simp at this; omega
        have h2 := hcell j (by omega)
        rw [add_plain] at h2
        rw [h2, ← hj]
        have hjz : j < zs.length := by omega
        rw [iv_get _ j (by rw [hlen]; exact hjl)]
        simp [List.getD, hjz]
    · have hwf := hwz z (List.mem_of_mem_take hz)
      have e2 : IntKind.i64.max = 9223372036854775807 := by decide
      simp [Lit.wf, e2] at hwf
      omega
/-- .. of rows of bytes -/
theorem rowsOf {H : Type} {enc : TypeId × Value → H} {W : World} {fuel : Nat} {v : Value} {y : DataW H × List MemPlace} (h : DataW.trod enc Tryz.prog W 0 (fun _ => true) true fuel 65 [v] = some y) :
    ∃ (ls : List (List UInt8)) (la : Option Addr) (lc : Nat), v = .slice la ls.length lc ∧ Bts W v ls := by
  rcases open_slice1 Tryz.underlying65 (by kernel_rfl) h with ⟨hcs, _⟩ | ⟨a, len, cap, m, n, V, D, Pl, hcs, _, hl, hm, hmm, _, hV⟩
  · cases hcs
    exact ⟨[], none, 0, rfl, [], Sl.nil W 1, fun k hk => by simp at hk⟩
  · cases hcs
    simp only [if_true] at hmm
    subst hmm
    obtain ⟨B, hB⟩ := choose_lt (α := List UInt8) (p := fun i b => Bt W (V i) b) (n := m) (fun i hi => bytesOf (hV i hi).2)
    have hll : ((List.range len).map B).length = len := by simp
    refine ⟨(List.range len).map B, some a, m, by rw [hll], (List.range len).map V, ⟨by simp, fun u hu => ?_, some a, m, by rw [hll], by rw [hll]; exact hl, hm, (fun h => by cases h), ?_⟩, fun k hk => ?_⟩
    · obtain ⟨i, hi, rfl⟩ := List.mem_map.1 hu
      obtain ⟨_, _, _, _, hv, _⟩ := hB i (by have := List.mem_range.1 hi; omega)
      rw [hv]
      rfl
    · rw [hll]
      by_cases h0 : len = 0
      · exact Or.inl h0
      · right
        have h1 := (hV 0 (by omega)).1
        have hsp := spot_of_cell h1
        obtain ⟨ab, ao, asp⟩ := a
        have hsp2 : asp = none := by
          have h2 : (⟨ab, ao, asp⟩ : Addr).add 0 = ⟨ab, ao, asp⟩ := by simp [Addr.add]
          rw [h2] at hsp
          exact hsp
        subst hsp2
        refine ⟨ab, ao, rfl, fun j u hj => ?_⟩
        have hjl : j < len := by
          have := (List.getElem?_eq_some_iff.1 hj).1
          simpa using this
        have h2 := (hV j (by omega)).1
        rw [add_plain] at h2
        rw [h2, ← hj]
        simp [hjl]
    · rw [hll] at hk
      exact ⟨V k, by simp [hk], by simpa using hB k (by omega)⟩
theorem gType0 : (Tryz.prog.globals[0]?).map (·.type) = some 127 := by kernel_rfl
theorem gType1 : (Tryz.prog.globals[1]?).map (·.type) = some 127 := by kernel_rfl
theorem gType2 : (Tryz.prog.globals[2]?).map (·.type) = some 209 := by kernel_rfl
theorem gName0 : Tryz.prog.globalNamed "strconv.ErrSyntax" = some 0 := by kernel_rfl
theorem gName1 : Tryz.prog.globalNamed "strconv.ErrRange" = some 1 := by kernel_rfl
abbrev laidT : List (String × DataW Unit) := Rows.walTornRow.laid
/-- the table of the powers of ten, and strconv's two errors, out of a row's condition -/
theorem vars_of_laid {W : World} (h : laidMetH Tryz.prog laidT W) : PowTab W ∧ ErrV W := by
  rw [MakeChecks.laidMetH_plain _ _ _ (by kernel_rfl)] at h
  obtain ⟨ps, ⟨g0, t0, cs0, f0, p0, q0, hg0, ht0, hv0, hd0, ⟨g1, t1, cs1, f1, p1, q1, hg1, ht1, hv1, hd1, ⟨g2, t2, cs2, f2, p2, q2, hg2, ht2, hv2, hd2, ⟨g3, t3, cs3, f3, p3, q3, hg3, ht3, hv3, hd3, ⟨g4, t4, cs4, f4, p4, q4, hg4, ht4, hv4, hd4, hz⟩, _⟩, _⟩, _⟩, _⟩, _, _⟩ := h
  obtain rfl := Option.some.inj (pow_named.symm.trans hg2)
  obtain rfl := Option.some.inj (gType2.symm.trans ht2)
  obtain rfl := Option.some.inj (gName1.symm.trans hg3)
  obtain rfl := Option.some.inj (gType1.symm.trans ht3)
  obtain rfl := Option.some.inj (gName0.symm.trans hg4)
  obtain rfl := Option.some.inj (gType0.symm.trans ht4)
  refine ⟨?_, ?_, ?_⟩
  · unfold PowTab Lib.TabIs
    rw [hv2]
    have hk : DataW.trod _ Tryz.prog W _ _ _ f2 209 cs2.toList = some (Lib.tabData .u64 Lib.pow10Tab, p2) := hd2
    rw [← Lib.cells_of_tab Tryz.underlying209 Tryz.underlying22 (by kernel_rfl) (by kernel_rfl) hk]
  · obtain ⟨_, u, v, hcs, _⟩ := iface_of_trod Tryz.underlying127 hd4
    refine ⟨u, v, (World.var?_cell gName0 hv4 0).trans ?_⟩
    rw [← Array.getElem?_toList, hcs]
    rfl
  · obtain ⟨_, u, v, hcs, _⟩ := iface_of_trod Tryz.underlying127 hd3
    refine ⟨u, v, (World.var?_cell gName1 hv3 0).trans ?_⟩
    rw [← Array.getElem?_toList, hcs]
    rfl
end Go.Proofs.YtpcipfnahknngaaGreatDoor

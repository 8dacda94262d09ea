/- Contract of wal.name. No statement of the seat. -/
import Derived.Test.YtpcipfnahknngaaGreatDoorMaCrc
import Derived.Test.YtpcipfnahknngaaGreatDoorShelf
namespace Go.Proofs.YtpcipfnahknngaaGreatDoor
open Go.RowKit

/-- a segment's name -/
def segName (n : Nat) : List UInt8 := [108, 111, 103, 46] ++ (Lib.itoa (100000000 + n)).drop 1
theorem itoa9 (n : Nat) (hn : n ≤ 99999999) : (Lib.itoa (100000000 + n)).length = 9 := by
  unfold Lib.itoa
  rw [if_neg (by omega), Lib.decDigits_length]
  exact Lib.nDigits_unique 8 _ (by omega) (by omega)
theorem below_growN (w : World) (k : Nat) (os : Array Obj) : Below w.heap.size w (Sort.grow (w.drewN k) os) := by
  refine ⟨rfl, rfl, rfl, ?_, fun i hi => ?_⟩
  · simp [Sort.grow, World.drewN]
  · simp [Sort.grow, World.drewN, Array.getElem?_append_left hi]

set_option maxRecDepth 100000 in
set_option maxHeartbeats 1600000 in
theorem name52 (n : Nat) (hn : n ≤ 99999999) (w : World) (htab : Lib.TabIs Tryz.prog w "internal/strconv.uint64pow10" .u64 Lib.pow10Tab) :
    Calls Tryz.prog 52 #[.int .i64 n] w fun e w' => e = .returned (.string (tx (segName n))) ∧ Below w.heap.size w w' := by
  have h9 := itoa9 n hn
  have H9 := Lib.hid h9
  have h := Tryz.strconv_Itoa (100000000 + n) (by omega) (by omega) w htab
  go_enter Tryz.func52, Tryz.ntmps52
  go_wp2_with (go_at_call 93; refine h.mono ?_; rintro e w1 ⟨rfl, k, os, rfl⟩)
  go_ret
  refine ⟨?_, below_growN _ _ _⟩
  show Ending.returned (Value.string _) = _
  congr 2
  obtain ⟨l, hl⟩ : ∃ l, l = Lib.itoa (100000000 + n) := ⟨_, rfl⟩
  unfold segName
  rw [← hl] at h9 ⊢
  have h8 : (l.drop 1).take 8 = l.drop 1 := List.take_of_length_le (by rw [List.length_drop, h9]; exact Nat.le_refl _)
  apply ByteArray.ext
  simp [tx, List.extract_toArray, h8]
end Go.Proofs.YtpcipfnahknngaaGreatDoor

/- The doubling row: ranks and weights, reckoned. -/
import Derived.Test.YthiddkhonklbkaaH5
set_option linter.unusedVariables false
set_option linter.unusedSimpArgs false
set_option maxRecDepth 100000
set_option maxHeartbeats 4000000
namespace Go.Proofs.Ythiddkhonklbkaa
open Go Go.Aw
def nameZ (i : Int) : List UInt8 := [97, 46, UInt8.ofNat (65 + i / 26).toNat, UInt8.ofNat (65 + i % 26).toNat]
def v0 : Val := ⟨0, 0, [], [], []⟩
def fieldsZ (i : Int) : List SField := [⟨1, 1, nameZ (i + 1), [97], false, v0⟩, ⟨2, 1, nameZ (i + 1), [98], false, v0⟩]
def structZ (k i : Int) : SStruct := ⟨4, nameZ i, if i < k then fieldsZ i else []⟩
def strsZ (k : Int) (n : Nat) : List SStruct := (List.range n).map fun i : Nat => structZ k (i : Int)
def schZ (k : Nat) : Schema := ⟨strsZ k (k + 1), [], []⟩
def wantZ (k : Int) : Int := if k < 19 then IntKind.wrap .i64 (IntKind.wrap .i64 (1 * 2 ^ (min (k + 1).toNat (IntKind.bits .i64))) - 1) else 1000000
def checkZ (k : Nat) : Bool := (getK (nameZ 0) (weightsL (schZ k))).getD 0 == (if 1000000 < wantZ k then 1000000 else wantZ k) && (getK (nameZ 0) (hasL (schZ k))).getD 0 == (k : Int) + 1
theorem strsZ_succ (k : Int) (n : Nat) : strsZ k (n + 1) = strsZ k n ++ [structZ k n] := by
  unfold strsZ
  rw [List.range_succ, List.map_append]; rfl
theorem okSc_Z (k : Nat) (hk : k ≤ 1000) : okSc (schZ k) := by
  refine ⟨by simp [schZ, strsZ]; omega, fun x hx => ?_⟩
  simp only [schZ, strsZ, List.mem_map] at hx
  obtain ⟨i, _, rfl⟩ := hx
  unfold structZ
  simp only
  split
  · refine ⟨by simp [fieldsZ], fun f hf => ?_⟩
    simp [fieldsZ] at hf
    rcases hf with rfl | rfl <;> simp [nameZ]
  · exact ⟨by simp, fun f hf => by cases hf⟩
end Go.Proofs.Ythiddkhonklbkaa

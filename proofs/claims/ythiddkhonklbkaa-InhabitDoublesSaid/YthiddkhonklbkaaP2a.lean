/- The doubling row, reckoned: k from 1 to 31. -/
import Derived.Test.YthiddkhonklbkaaP1
set_option maxRecDepth 100000
set_option maxHeartbeats 4000000
namespace Go.Proofs.Ythiddkhonklbkaa
open Go Go.Aw
theorem check1 : checkZ 1 = true := by kernel_rfl
theorem check2 : checkZ 2 = true := by kernel_rfl
theorem check3 : checkZ 3 = true := by kernel_rfl
theorem check4 : checkZ 4 = true := by kernel_rfl
theorem check5 : checkZ 5 = true := by kernel_rfl
theorem check6 : checkZ 6 = true := by kernel_rfl
theorem check7 : checkZ 7 = true := by kernel_rfl
theorem check8 : checkZ 8 = true := by kernel_rfl
theorem check9 : checkZ 9 = true := by kernel_rfl
theorem check10 : checkZ 10 = true := by kernel_rfl
theorem check11 : checkZ 11 = true := by kernel_rfl
theorem check12 : checkZ 12 = true := by kernel_rfl
theorem check13 : checkZ 13 = true := by kernel_rfl
theorem check14 : checkZ 14 = true := by kernel_rfl
theorem check15 : checkZ 15 = true := by kernel_rfl
theorem check16 : checkZ 16 = true := by kernel_rfl
theorem check17 : checkZ 17 = true := by kernel_rfl
theorem check18 : checkZ 18 = true := by kernel_rfl
theorem check19 : checkZ 19 = true := by kernel_rfl
theorem check20 : checkZ 20 = true := by kernel_rfl
theorem check21 : checkZ 21 = true := by kernel_rfl
theorem check22 : checkZ 22 = true := by kernel_rfl
theorem check23 : checkZ 23 = true := by kernel_rfl
theorem check24 : checkZ 24 = true := by kernel_rfl
theorem check25 : checkZ 25 = true := by kernel_rfl
theorem check26 : checkZ 26 = true := by kernel_rfl
theorem check27 : checkZ 27 = true := by kernel_rfl
theorem check28 : checkZ 28 = true := by kernel_rfl
theorem check29 : checkZ 29 = true := by kernel_rfl
theorem check30 : checkZ 30 = true := by kernel_rfl
theorem check31 : checkZ 31 = true := by kernel_rfl
end Go.Proofs.Ythiddkhonklbkaa

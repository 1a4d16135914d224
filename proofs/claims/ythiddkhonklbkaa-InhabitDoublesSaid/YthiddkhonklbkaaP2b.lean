/- The doubling row, reckoned: k from 32 to 40. -/
import Derived.Test.YthiddkhonklbkaaP1
set_option maxRecDepth 100000
set_option maxHeartbeats 4000000
namespace Go.Proofs.Ythiddkhonklbkaa
open Go Go.Aw
theorem check32 : checkZ 32 = true := by kernel_rfl
theorem check33 : checkZ 33 = true := by kernel_rfl
theorem check34 : checkZ 34 = true := by kernel_rfl
theorem check35 : checkZ 35 = true := by kernel_rfl
theorem check36 : checkZ 36 = true := by kernel_rfl
theorem check37 : checkZ 37 = true := by kernel_rfl
theorem check38 : checkZ 38 = true := by kernel_rfl
theorem check39 : checkZ 39 = true := by kernel_rfl
theorem check40 : checkZ 40 = true := by kernel_rfl
end Go.Proofs.Ythiddkhonklbkaa

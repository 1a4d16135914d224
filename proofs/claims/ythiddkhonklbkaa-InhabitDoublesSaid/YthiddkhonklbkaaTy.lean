/- The types of this seat, as far as the operations ask. -/
import Derived.Test.YthiddkhonklbkaaAw34
import Derived.KernelRfl
import Derived.Test.YthiddkhonklbkaaRows
set_option linter.unusedVariables false
set_option linter.unusedSimpArgs false
namespace Go.Proofs.Ythiddkhonklbkaa
open Go Go.Aw

def ti2 : TI := ⟨.int Go.IntKind.i64, 1, 8, [Go.Value.int Go.IntKind.i64 0]⟩
theorem tf2 : ti2.fits Try.prog 2 where
  ex := ⟨Try.t2, _, _, info_of Try.type2, Try.underlying2, rfl, rfl, rfl, rfl, rfl, fun _ => rfl⟩
  len := rfl
  one := by decide
  pos := by decide
def ti3 : TI := ⟨.int Go.IntKind.i64, 1, 8, [Go.Value.int Go.IntKind.i64 0]⟩
theorem tf3 : ti3.fits Try.prog 3 where
  ex := ⟨Try.t3, _, _, info_of Try.type3, Try.underlying3, rfl, rfl, rfl, rfl, rfl, fun _ => rfl⟩
  len := rfl
  one := by decide
  pos := by decide
def ti4 : TI := ⟨.bool, 1, 1, [Go.Value.bool false]⟩
theorem tf4 : ti4.fits Try.prog 4 where
  ex := ⟨Try.t4, _, _, info_of Try.type4, Try.underlying4, rfl, rfl, rfl, rfl, rfl, fun _ => rfl⟩
  len := rfl
  one := by decide
  pos := by decide
def ti5 : TI := ⟨.int Go.IntKind.u8, 1, 1, [Go.Value.int Go.IntKind.u8 0]⟩
theorem tf5 : ti5.fits Try.prog 5 where
  ex := ⟨Try.t5, _, _, info_of Try.type5, Try.underlying5, rfl, rfl, rfl, rfl, rfl, fun _ => rfl⟩
  len := rfl
  one := by decide
  pos := by decide
def ti6 : TI := ⟨.int Go.IntKind.u8, 1, 1, [Go.Value.int Go.IntKind.u8 0]⟩
theorem tf6 : ti6.fits Try.prog 6 where
  ex := ⟨Try.t6, _, _, info_of Try.type6, Try.underlying6, rfl, rfl, rfl, rfl, rfl, fun _ => rfl⟩
  len := rfl
  one := by decide
  pos := by decide
def ti7 : TI := ⟨.st [(0, 2), (1, 3), (2, 4), (3, 6)], 4, 24, [Go.Value.int Go.IntKind.i64 0, Go.Value.int Go.IntKind.i64 0, Go.Value.bool false, Go.Value.int Go.IntKind.u8 0]⟩
theorem tf7 : ti7.fits Try.prog 7 where
  ex := ⟨Try.t7, _, _, info_of Try.type7, Try.underlying7, rfl, rfl, rfl, rfl, ⟨_, rfl, rfl, [(0, 1), (1, 1), (2, 1), (3, 1)], by kernel_rfl⟩, fun h => by cases h⟩
  len := rfl
  one := by decide
  pos := by decide
def ti8 : TI := ⟨.st [(0, 2), (1, 3), (2, 4), (3, 6)], 4, 24, [Go.Value.int Go.IntKind.i64 0, Go.Value.int Go.IntKind.i64 0, Go.Value.bool false, Go.Value.int Go.IntKind.u8 0]⟩
theorem tf8 : ti8.fits Try.prog 8 where
  ex := ⟨Try.t8, _, _, info_of Try.type8, Try.underlying8, rfl, rfl, rfl, rfl, ⟨_, rfl, rfl, [(0, 1), (1, 1), (2, 1), (3, 1)], by kernel_rfl⟩, fun h => by cases h⟩
  len := rfl
  one := by decide
  pos := by decide
def ti9 : TI := ⟨.str, 1, 16, [Go.Value.string { data := #[] }]⟩
theorem tf9 : ti9.fits Try.prog 9 where
  ex := ⟨Try.t9, _, _, info_of Try.type9, Try.underlying9, rfl, rfl, rfl, rfl, rfl, fun _ => rfl⟩
  len := rfl
  one := by decide
  pos := by decide
def ti10 : TI := ⟨.str, 1, 16, [Go.Value.string { data := #[] }]⟩
theorem tf10 : ti10.fits Try.prog 10 where
  ex := ⟨Try.t10, _, _, info_of Try.type10, Try.underlying10, rfl, rfl, rfl, rfl, rfl, fun _ => rfl⟩
  len := rfl
  one := by decide
  pos := by decide
def ti11 : TI := ⟨.str, 1, 16, [Go.Value.string { data := #[] }]⟩
theorem tf11 : ti11.fits Try.prog 11 where
  ex := ⟨Try.t11, _, _, info_of Try.type11, Try.underlying11, rfl, rfl, rfl, rfl, rfl, fun _ => rfl⟩
  len := rfl
  one := by decide
  pos := by decide
def ti12 : TI := ⟨.int Go.IntKind.u64, 1, 8, [Go.Value.int Go.IntKind.u64 0]⟩
theorem tf12 : ti12.fits Try.prog 12 where
  ex := ⟨Try.t12, _, _, info_of Try.type12, Try.underlying12, rfl, rfl, rfl, rfl, rfl, fun _ => rfl⟩
  len := rfl
  one := by decide
  pos := by decide
def ti13 : TI := ⟨.st [(0, 9), (1, 12)], 2, 24, [Go.Value.string { data := #[] }, Go.Value.int Go.IntKind.u64 0]⟩
theorem tf13 : ti13.fits Try.prog 13 where
  ex := ⟨Try.t13, _, _, info_of Try.type13, Try.underlying13, rfl, rfl, rfl, rfl, ⟨_, rfl, rfl, [(0, 1), (1, 1)], by kernel_rfl⟩, fun h => by cases h⟩
  len := rfl
  one := by decide
  pos := by decide
def ti14 : TI := ⟨.st [(0, 9), (1, 12)], 2, 24, [Go.Value.string { data := #[] }, Go.Value.int Go.IntKind.u64 0]⟩
theorem tf14 : ti14.fits Try.prog 14 where
  ex := ⟨Try.t14, _, _, info_of Try.type14, Try.underlying14, rfl, rfl, rfl, rfl, ⟨_, rfl, rfl, [(0, 1), (1, 1)], by kernel_rfl⟩, fun h => by cases h⟩
  len := rfl
  one := by decide
  pos := by decide
def ti15 : TI := ⟨.ptr 177, 1, 8, [Go.Value.pointer none]⟩
theorem tf15 : ti15.fits Try.prog 15 where
  ex := ⟨Try.t15, _, _, info_of Try.type15, Try.underlying15, rfl, rfl, rfl, rfl, rfl, fun _ => rfl⟩
  len := rfl
  one := by decide
  pos := by decide
def ti16 : TI := ⟨.ptr 180, 1, 8, [Go.Value.pointer none]⟩
theorem tf16 : ti16.fits Try.prog 16 where
  ex := ⟨Try.t16, _, _, info_of Try.type16, Try.underlying16, rfl, rfl, rfl, rfl, rfl, fun _ => rfl⟩
  len := rfl
  one := by decide
  pos := by decide
def ti17 : TI := ⟨.ptr 190, 1, 8, [Go.Value.pointer none]⟩
theorem tf17 : ti17.fits Try.prog 17 where
  ex := ⟨Try.t17, _, _, info_of Try.type17, Try.underlying17, rfl, rfl, rfl, rfl, rfl, fun _ => rfl⟩
  len := rfl
  one := by decide
  pos := by decide
def ti18 : TI := ⟨.st [(0, 17)], 1, 8, [Go.Value.pointer none]⟩
theorem tf18 : ti18.fits Try.prog 18 where
  ex := ⟨Try.t18, _, _, info_of Try.type18, Try.underlying18, rfl, rfl, rfl, rfl, ⟨_, rfl, rfl, [(0, 1)], by kernel_rfl⟩, fun h => by cases h⟩
  len := rfl
  one := by decide
  pos := by decide
def ti19 : TI := ⟨.st [(0, 17)], 1, 8, [Go.Value.pointer none]⟩
theorem tf19 : ti19.fits Try.prog 19 where
  ex := ⟨Try.t19, _, _, info_of Try.type19, Try.underlying19, rfl, rfl, rfl, rfl, ⟨_, rfl, rfl, [(0, 1)], by kernel_rfl⟩, fun h => by cases h⟩
  len := rfl
  one := by decide
  pos := by decide
def ti21 : TI := ⟨.int Go.IntKind.i32, 1, 4, [Go.Value.int Go.IntKind.i32 0]⟩
theorem tf21 : ti21.fits Try.prog 21 where
  ex := ⟨Try.t21, _, _, info_of Try.type21, Try.underlying21, rfl, rfl, rfl, rfl, rfl, fun _ => rfl⟩
  len := rfl
  one := by decide
  pos := by decide
def ti22 : TI := ⟨.sl 64, 1, 24, [Go.Value.slice none 0 0]⟩
theorem tf22 : ti22.fits Try.prog 22 where
  ex := ⟨Try.t22, _, _, info_of Try.type22, Try.underlying22, rfl, rfl, rfl, rfl, rfl, fun _ => rfl⟩
  len := rfl
  one := by decide
  pos := by decide
def ti24 : TI := ⟨.sl 34, 1, 24, [Go.Value.slice none 0 0]⟩
theorem tf24 : ti24.fits Try.prog 24 where
  ex := ⟨Try.t24, _, _, info_of Try.type24, Try.underlying24, rfl, rfl, rfl, rfl, rfl, fun _ => rfl⟩
  len := rfl
  one := by decide
  pos := by decide
def ti25 : TI := ⟨.sl 84, 1, 24, [Go.Value.slice none 0 0]⟩
theorem tf25 : ti25.fits Try.prog 25 where
  ex := ⟨Try.t25, _, _, info_of Try.type25, Try.underlying25, rfl, rfl, rfl, rfl, rfl, fun _ => rfl⟩
  len := rfl
  one := by decide
  pos := by decide
def ti26 : TI := ⟨.sl 193, 1, 24, [Go.Value.slice none 0 0]⟩
theorem tf26 : ti26.fits Try.prog 26 where
  ex := ⟨Try.t26, _, _, info_of Try.type26, Try.underlying26, rfl, rfl, rfl, rfl, rfl, fun _ => rfl⟩
  len := rfl
  one := by decide
  pos := by decide
def ti27 : TI := ⟨.st [(0, 24), (1, 25), (2, 26)], 3, 72, [Go.Value.slice none 0 0, Go.Value.slice none 0 0, Go.Value.slice none 0 0]⟩
theorem tf27 : ti27.fits Try.prog 27 where
  ex := ⟨Try.t27, _, _, info_of Try.type27, Try.underlying27, rfl, rfl, rfl, rfl, ⟨_, rfl, rfl, [(0, 1), (1, 1), (2, 1)], by kernel_rfl⟩, fun h => by cases h⟩
  len := rfl
  one := by decide
  pos := by decide
def ti28 : TI := ⟨.st [(0, 24), (1, 25), (2, 26)], 3, 72, [Go.Value.slice none 0 0, Go.Value.slice none 0 0, Go.Value.slice none 0 0]⟩
theorem tf28 : ti28.fits Try.prog 28 where
  ex := ⟨Try.t28, _, _, info_of Try.type28, Try.underlying28, rfl, rfl, rfl, rfl, ⟨_, rfl, rfl, [(0, 1), (1, 1), (2, 1)], by kernel_rfl⟩, fun h => by cases h⟩
  len := rfl
  one := by decide
  pos := by decide
def ti30 : TI := ⟨.map 9 3, 1, 8, [Go.Value.map none]⟩
theorem tf30 : ti30.fits Try.prog 30 where
  ex := ⟨Try.t30, _, _, info_of Try.type30, Try.underlying30, rfl, rfl, rfl, rfl, rfl, fun _ => rfl⟩
  len := rfl
  one := by decide
  pos := by decide
def ti32 : TI := ⟨.sl 47, 1, 24, [Go.Value.slice none 0 0]⟩
theorem tf32 : ti32.fits Try.prog 32 where
  ex := ⟨Try.t32, _, _, info_of Try.type32, Try.underlying32, rfl, rfl, rfl, rfl, rfl, fun _ => rfl⟩
  len := rfl
  one := by decide
  pos := by decide
def ti33 : TI := ⟨.st [(0, 3), (1, 9), (2, 32)], 3, 48, [Go.Value.int Go.IntKind.i64 0, Go.Value.string { data := #[] }, Go.Value.slice none 0 0]⟩
theorem tf33 : ti33.fits Try.prog 33 where
  ex := ⟨Try.t33, _, _, info_of Try.type33, Try.underlying33, rfl, rfl, rfl, rfl, ⟨_, rfl, rfl, [(0, 1), (1, 1), (2, 1)], by kernel_rfl⟩, fun h => by cases h⟩
  len := rfl
  one := by decide
  pos := by decide
def ti34 : TI := ⟨.st [(0, 3), (1, 9), (2, 32)], 3, 48, [Go.Value.int Go.IntKind.i64 0, Go.Value.string { data := #[] }, Go.Value.slice none 0 0]⟩
theorem tf34 : ti34.fits Try.prog 34 where
  ex := ⟨Try.t34, _, _, info_of Try.type34, Try.underlying34, rfl, rfl, rfl, rfl, ⟨_, rfl, rfl, [(0, 1), (1, 1), (2, 1)], by kernel_rfl⟩, fun h => by cases h⟩
  len := rfl
  one := by decide
  pos := by decide
def ti36 : TI := ⟨.sl 39, 1, 24, [Go.Value.slice none 0 0]⟩
theorem tf36 : ti36.fits Try.prog 36 where
  ex := ⟨Try.t36, _, _, info_of Try.type36, Try.underlying36, rfl, rfl, rfl, rfl, rfl, fun _ => rfl⟩
  len := rfl
  one := by decide
  pos := by decide
def ti37 : TI := ⟨.sl 3, 1, 24, [Go.Value.slice none 0 0]⟩
theorem tf37 : ti37.fits Try.prog 37 where
  ex := ⟨Try.t37, _, _, info_of Try.type37, Try.underlying37, rfl, rfl, rfl, rfl, rfl, fun _ => rfl⟩
  len := rfl
  one := by decide
  pos := by decide
def ti38 : TI := ⟨.st [(0, 3), (1, 2), (2, 9), (3, 36), (4, 37)], 5, 80, [Go.Value.int Go.IntKind.i64 0, Go.Value.int Go.IntKind.i64 0, Go.Value.string { data := #[] }, Go.Value.slice none 0 0, Go.Value.slice none 0 0]⟩
theorem tf38 : ti38.fits Try.prog 38 where
  ex := ⟨Try.t38, _, _, info_of Try.type38, Try.underlying38, rfl, rfl, rfl, rfl, ⟨_, rfl, rfl, [(0, 1), (1, 1), (2, 1), (3, 1), (4, 1)], by kernel_rfl⟩, fun h => by cases h⟩
  len := rfl
  one := by decide
  pos := by decide
def ti39 : TI := ⟨.st [(0, 3), (1, 2), (2, 9), (3, 36), (4, 37)], 5, 80, [Go.Value.int Go.IntKind.i64 0, Go.Value.int Go.IntKind.i64 0, Go.Value.string { data := #[] }, Go.Value.slice none 0 0, Go.Value.slice none 0 0]⟩
theorem tf39 : ti39.fits Try.prog 39 where
  ex := ⟨Try.t39, _, _, info_of Try.type39, Try.underlying39, rfl, rfl, rfl, rfl, ⟨_, rfl, rfl, [(0, 1), (1, 1), (2, 1), (3, 1), (4, 1)], by kernel_rfl⟩, fun h => by cases h⟩
  len := rfl
  one := by decide
  pos := by decide
def ti46 : TI := ⟨.st [(0, 3), (1, 3), (2, 9), (3, 9), (4, 4), (5, 39)], 10, 136, [Go.Value.int Go.IntKind.i64 0, Go.Value.int Go.IntKind.i64 0, Go.Value.string { data := #[] }, Go.Value.string { data := #[] }, Go.Value.bool false, Go.Value.int Go.IntKind.i64 0, Go.Value.int Go.IntKind.i64 0, Go.Value.string { data := #[] }, Go.Value.slice none 0 0, Go.Value.slice none 0 0]⟩
theorem tf46 : ti46.fits Try.prog 46 where
  ex := ⟨Try.t46, _, _, info_of Try.type46, Try.underlying46, rfl, rfl, rfl, rfl, ⟨_, rfl, rfl, [(0, 1), (1, 1), (2, 1), (3, 1), (4, 1), (5, 5)], by kernel_rfl⟩, fun h => by cases h⟩
  len := rfl
  one := by decide
  pos := by decide
def ti47 : TI := ⟨.st [(0, 3), (1, 3), (2, 9), (3, 9), (4, 4), (5, 39)], 10, 136, [Go.Value.int Go.IntKind.i64 0, Go.Value.int Go.IntKind.i64 0, Go.Value.string { data := #[] }, Go.Value.string { data := #[] }, Go.Value.bool false, Go.Value.int Go.IntKind.i64 0, Go.Value.int Go.IntKind.i64 0, Go.Value.string { data := #[] }, Go.Value.slice none 0 0, Go.Value.slice none 0 0]⟩
theorem tf47 : ti47.fits Try.prog 47 where
  ex := ⟨Try.t47, _, _, info_of Try.type47, Try.underlying47, rfl, rfl, rfl, rfl, ⟨_, rfl, rfl, [(0, 1), (1, 1), (2, 1), (3, 1), (4, 1), (5, 5)], by kernel_rfl⟩, fun h => by cases h⟩
  len := rfl
  one := by decide
  pos := by decide
def ti50 : TI := ⟨.sl 5, 1, 24, [Go.Value.slice none 0 0]⟩
theorem tf50 : ti50.fits Try.prog 50 where
  ex := ⟨Try.t50, _, _, info_of Try.type50, Try.underlying50, rfl, rfl, rfl, rfl, rfl, fun _ => rfl⟩
  len := rfl
  one := by decide
  pos := by decide
def ti52 : TI := ⟨.sl 53, 1, 24, [Go.Value.slice none 0 0]⟩
theorem tf52 : ti52.fits Try.prog 52 where
  ex := ⟨Try.t52, _, _, info_of Try.type52, Try.underlying52, rfl, rfl, rfl, rfl, rfl, fun _ => rfl⟩
  len := rfl
  one := by decide
  pos := by decide
def ti53 : TI := ⟨.int Go.IntKind.i8, 1, 1, [Go.Value.int Go.IntKind.i8 0]⟩
theorem tf53 : ti53.fits Try.prog 53 where
  ex := ⟨Try.t53, _, _, info_of Try.type53, Try.underlying53, rfl, rfl, rfl, rfl, rfl, fun _ => rfl⟩
  len := rfl
  one := by decide
  pos := by decide
def ti54 : TI := ⟨.int Go.IntKind.i64, 1, 8, [Go.Value.int Go.IntKind.i64 0]⟩
theorem tf54 : ti54.fits Try.prog 54 where
  ex := ⟨Try.t54, _, _, info_of Try.type54, Try.underlying54, rfl, rfl, rfl, rfl, rfl, fun _ => rfl⟩
  len := rfl
  one := by decide
  pos := by decide
def ti59 : TI := ⟨.sl 4, 1, 24, [Go.Value.slice none 0 0]⟩
theorem tf59 : ti59.fits Try.prog 59 where
  ex := ⟨Try.t59, _, _, info_of Try.type59, Try.underlying59, rfl, rfl, rfl, rfl, rfl, fun _ => rfl⟩
  len := rfl
  one := by decide
  pos := by decide
def ti62 : TI := ⟨.sl 9, 1, 24, [Go.Value.slice none 0 0]⟩
theorem tf62 : ti62.fits Try.prog 62 where
  ex := ⟨Try.t62, _, _, info_of Try.type62, Try.underlying62, rfl, rfl, rfl, rfl, rfl, fun _ => rfl⟩
  len := rfl
  one := by decide
  pos := by decide
def ti63 : TI := ⟨.ptr 34, 1, 8, [Go.Value.pointer none]⟩
theorem tf63 : ti63.fits Try.prog 63 where
  ex := ⟨Try.t63, _, _, info_of Try.type63, Try.underlying63, rfl, rfl, rfl, rfl, rfl, fun _ => rfl⟩
  len := rfl
  one := by decide
  pos := by decide
def ti64 : TI := ⟨.int Go.IntKind.u16, 1, 2, [Go.Value.int Go.IntKind.u16 0]⟩
theorem tf64 : ti64.fits Try.prog 64 where
  ex := ⟨Try.t64, _, _, info_of Try.type64, Try.underlying64, rfl, rfl, rfl, rfl, rfl, fun _ => rfl⟩
  len := rfl
  one := by decide
  pos := by decide
def ti65 : TI := ⟨.map 9 3, 1, 8, [Go.Value.map none]⟩
theorem tf65 : ti65.fits Try.prog 65 where
  ex := ⟨Try.t65, _, _, info_of Try.type65, Try.underlying65, rfl, rfl, rfl, rfl, rfl, fun _ => rfl⟩
  len := rfl
  one := by decide
  pos := by decide
def ti69 : TI := ⟨.ptr 71, 1, 8, [Go.Value.pointer none]⟩
theorem tf69 : ti69.fits Try.prog 69 where
  ex := ⟨Try.t69, _, _, info_of Try.type69, Try.underlying69, rfl, rfl, rfl, rfl, rfl, fun _ => rfl⟩
  len := rfl
  one := by decide
  pos := by decide
def ti70 : TI := ⟨.st [(0, 65), (1, 28)], 4, 80, [Go.Value.map none, Go.Value.slice none 0 0, Go.Value.slice none 0 0, Go.Value.slice none 0 0]⟩
theorem tf70 : ti70.fits Try.prog 70 where
  ex := ⟨Try.t70, _, _, info_of Try.type70, Try.underlying70, rfl, rfl, rfl, rfl, ⟨_, rfl, rfl, [(0, 1), (1, 3)], by kernel_rfl⟩, fun h => by cases h⟩
  len := rfl
  one := by decide
  pos := by decide
def ti71 : TI := ⟨.st [(0, 65), (1, 28)], 4, 80, [Go.Value.map none, Go.Value.slice none 0 0, Go.Value.slice none 0 0, Go.Value.slice none 0 0]⟩
theorem tf71 : ti71.fits Try.prog 71 where
  ex := ⟨Try.t71, _, _, info_of Try.type71, Try.underlying71, rfl, rfl, rfl, rfl, ⟨_, rfl, rfl, [(0, 1), (1, 3)], by kernel_rfl⟩, fun h => by cases h⟩
  len := rfl
  one := by decide
  pos := by decide
def ti77 : TI := ⟨.st [(0, 3), (1, 9), (2, 9), (3, 9)], 4, 56, [Go.Value.int Go.IntKind.i64 0, Go.Value.string { data := #[] }, Go.Value.string { data := #[] }, Go.Value.string { data := #[] }]⟩
theorem tf77 : ti77.fits Try.prog 77 where
  ex := ⟨Try.t77, _, _, info_of Try.type77, Try.underlying77, rfl, rfl, rfl, rfl, ⟨_, rfl, rfl, [(0, 1), (1, 1), (2, 1), (3, 1)], by kernel_rfl⟩, fun h => by cases h⟩
  len := rfl
  one := by decide
  pos := by decide
def ti78 : TI := ⟨.st [(0, 3), (1, 9), (2, 9), (3, 9)], 4, 56, [Go.Value.int Go.IntKind.i64 0, Go.Value.string { data := #[] }, Go.Value.string { data := #[] }, Go.Value.string { data := #[] }]⟩
theorem tf78 : ti78.fits Try.prog 78 where
  ex := ⟨Try.t78, _, _, info_of Try.type78, Try.underlying78, rfl, rfl, rfl, rfl, ⟨_, rfl, rfl, [(0, 1), (1, 1), (2, 1), (3, 1)], by kernel_rfl⟩, fun h => by cases h⟩
  len := rfl
  one := by decide
  pos := by decide
def ti82 : TI := ⟨.sl 106, 1, 24, [Go.Value.slice none 0 0]⟩
theorem tf82 : ti82.fits Try.prog 82 where
  ex := ⟨Try.t82, _, _, info_of Try.type82, Try.underlying82, rfl, rfl, rfl, rfl, rfl, fun _ => rfl⟩
  len := rfl
  one := by decide
  pos := by decide
def ti83 : TI := ⟨.st [(0, 9), (1, 82)], 2, 40, [Go.Value.string { data := #[] }, Go.Value.slice none 0 0]⟩
theorem tf83 : ti83.fits Try.prog 83 where
  ex := ⟨Try.t83, _, _, info_of Try.type83, Try.underlying83, rfl, rfl, rfl, rfl, ⟨_, rfl, rfl, [(0, 1), (1, 1)], by kernel_rfl⟩, fun h => by cases h⟩
  len := rfl
  one := by decide
  pos := by decide
def ti84 : TI := ⟨.st [(0, 9), (1, 82)], 2, 40, [Go.Value.string { data := #[] }, Go.Value.slice none 0 0]⟩
theorem tf84 : ti84.fits Try.prog 84 where
  ex := ⟨Try.t84, _, _, info_of Try.type84, Try.underlying84, rfl, rfl, rfl, rfl, ⟨_, rfl, rfl, [(0, 1), (1, 1)], by kernel_rfl⟩, fun h => by cases h⟩
  len := rfl
  one := by decide
  pos := by decide
def ti96 : TI := ⟨.ptr 98, 1, 8, [Go.Value.pointer none]⟩
theorem tf96 : ti96.fits Try.prog 96 where
  ex := ⟨Try.t96, _, _, info_of Try.type96, Try.underlying96, rfl, rfl, rfl, rfl, rfl, fun _ => rfl⟩
  len := rfl
  one := by decide
  pos := by decide
def ti97 : TI := ⟨.st [(0, 28), (3, 54)], 4, 80, [Go.Value.slice none 0 0, Go.Value.slice none 0 0, Go.Value.slice none 0 0, Go.Value.int Go.IntKind.i64 0]⟩
theorem tf97 : ti97.fits Try.prog 97 where
  ex := ⟨Try.t97, _, _, info_of Try.type97, Try.underlying97, rfl, rfl, rfl, rfl, ⟨_, rfl, rfl, [(0, 3), (3, 1)], by kernel_rfl⟩, fun h => by cases h⟩
  len := rfl
  one := by decide
  pos := by decide
def ti98 : TI := ⟨.st [(0, 28), (3, 54)], 4, 80, [Go.Value.slice none 0 0, Go.Value.slice none 0 0, Go.Value.slice none 0 0, Go.Value.int Go.IntKind.i64 0]⟩
theorem tf98 : ti98.fits Try.prog 98 where
  ex := ⟨Try.t98, _, _, info_of Try.type98, Try.underlying98, rfl, rfl, rfl, rfl, ⟨_, rfl, rfl, [(0, 3), (3, 1)], by kernel_rfl⟩, fun h => by cases h⟩
  len := rfl
  one := by decide
  pos := by decide
def ti105 : TI := ⟨.st [(0, 9), (1, 4), (2, 2)], 3, 32, [Go.Value.string { data := #[] }, Go.Value.bool false, Go.Value.int Go.IntKind.i64 0]⟩
theorem tf105 : ti105.fits Try.prog 105 where
  ex := ⟨Try.t105, _, _, info_of Try.type105, Try.underlying105, rfl, rfl, rfl, rfl, ⟨_, rfl, rfl, [(0, 1), (1, 1), (2, 1)], by kernel_rfl⟩, fun h => by cases h⟩
  len := rfl
  one := by decide
  pos := by decide
def ti106 : TI := ⟨.st [(0, 9), (1, 4), (2, 2)], 3, 32, [Go.Value.string { data := #[] }, Go.Value.bool false, Go.Value.int Go.IntKind.i64 0]⟩
theorem tf106 : ti106.fits Try.prog 106 where
  ex := ⟨Try.t106, _, _, info_of Try.type106, Try.underlying106, rfl, rfl, rfl, rfl, ⟨_, rfl, rfl, [(0, 1), (1, 1), (2, 1)], by kernel_rfl⟩, fun h => by cases h⟩
  len := rfl
  one := by decide
  pos := by decide
def ti109 : TI := ⟨.ptr 111, 1, 8, [Go.Value.pointer none]⟩
theorem tf109 : ti109.fits Try.prog 109 where
  ex := ⟨Try.t109, _, _, info_of Try.type109, Try.underlying109, rfl, rfl, rfl, rfl, rfl, fun _ => rfl⟩
  len := rfl
  one := by decide
  pos := by decide
def ti110 : TI := ⟨.st [(0, 9), (1, 3), (2, 54)], 3, 32, [Go.Value.string { data := #[] }, Go.Value.int Go.IntKind.i64 0, Go.Value.int Go.IntKind.i64 0]⟩
theorem tf110 : ti110.fits Try.prog 110 where
  ex := ⟨Try.t110, _, _, info_of Try.type110, Try.underlying110, rfl, rfl, rfl, rfl, ⟨_, rfl, rfl, [(0, 1), (1, 1), (2, 1)], by kernel_rfl⟩, fun h => by cases h⟩
  len := rfl
  one := by decide
  pos := by decide
def ti111 : TI := ⟨.st [(0, 9), (1, 3), (2, 54)], 3, 32, [Go.Value.string { data := #[] }, Go.Value.int Go.IntKind.i64 0, Go.Value.int Go.IntKind.i64 0]⟩
theorem tf111 : ti111.fits Try.prog 111 where
  ex := ⟨Try.t111, _, _, info_of Try.type111, Try.underlying111, rfl, rfl, rfl, rfl, ⟨_, rfl, rfl, [(0, 1), (1, 1), (2, 1)], by kernel_rfl⟩, fun h => by cases h⟩
  len := rfl
  one := by decide
  pos := by decide
def ti119 : TI := ⟨.int Go.IntKind.u64, 1, 8, [Go.Value.int Go.IntKind.u64 0]⟩
theorem tf119 : ti119.fits Try.prog 119 where
  ex := ⟨Try.t119, _, _, info_of Try.type119, Try.underlying119, rfl, rfl, rfl, rfl, rfl, fun _ => rfl⟩
  len := rfl
  one := by decide
  pos := by decide
def ti132 : TI := ⟨.ptr 136, 1, 8, [Go.Value.pointer none]⟩
theorem tf132 : ti132.fits Try.prog 132 where
  ex := ⟨Try.t132, _, _, info_of Try.type132, Try.underlying132, rfl, rfl, rfl, rfl, rfl, fun _ => rfl⟩
  len := rfl
  one := by decide
  pos := by decide
def ti135 : TI := ⟨.st [(0, 9), (1, 3), (2, 54), (3, 62), (4, 3)], 5, 64, [Go.Value.string { data := #[] }, Go.Value.int Go.IntKind.i64 0, Go.Value.int Go.IntKind.i64 0, Go.Value.slice none 0 0, Go.Value.int Go.IntKind.i64 0]⟩
theorem tf135 : ti135.fits Try.prog 135 where
  ex := ⟨Try.t135, _, _, info_of Try.type135, Try.underlying135, rfl, rfl, rfl, rfl, ⟨_, rfl, rfl, [(0, 1), (1, 1), (2, 1), (3, 1), (4, 1)], by kernel_rfl⟩, fun h => by cases h⟩
  len := rfl
  one := by decide
  pos := by decide
def ti136 : TI := ⟨.st [(0, 9), (1, 3), (2, 54), (3, 62), (4, 3)], 5, 64, [Go.Value.string { data := #[] }, Go.Value.int Go.IntKind.i64 0, Go.Value.int Go.IntKind.i64 0, Go.Value.slice none 0 0, Go.Value.int Go.IntKind.i64 0]⟩
theorem tf136 : ti136.fits Try.prog 136 where
  ex := ⟨Try.t136, _, _, info_of Try.type136, Try.underlying136, rfl, rfl, rfl, rfl, ⟨_, rfl, rfl, [(0, 1), (1, 1), (2, 1), (3, 1), (4, 1)], by kernel_rfl⟩, fun h => by cases h⟩
  len := rfl
  one := by decide
  pos := by decide
def ti149 : TI := ⟨.sl 151, 1, 24, [Go.Value.slice none 0 0]⟩
theorem tf149 : ti149.fits Try.prog 149 where
  ex := ⟨Try.t149, _, _, info_of Try.type149, Try.underlying149, rfl, rfl, rfl, rfl, rfl, fun _ => rfl⟩
  len := rfl
  one := by decide
  pos := by decide
def ti150 : TI := ⟨.st [(0, 39), (5, 39)], 10, 160, [Go.Value.int Go.IntKind.i64 0, Go.Value.int Go.IntKind.i64 0, Go.Value.string { data := #[] }, Go.Value.slice none 0 0, Go.Value.slice none 0 0, Go.Value.int Go.IntKind.i64 0, Go.Value.int Go.IntKind.i64 0, Go.Value.string { data := #[] }, Go.Value.slice none 0 0, Go.Value.slice none 0 0]⟩
theorem tf150 : ti150.fits Try.prog 150 where
  ex := ⟨Try.t150, _, _, info_of Try.type150, Try.underlying150, rfl, rfl, rfl, rfl, ⟨_, rfl, rfl, [(0, 5), (5, 5)], by kernel_rfl⟩, fun h => by cases h⟩
  len := rfl
  one := by decide
  pos := by decide
def ti151 : TI := ⟨.st [(0, 39), (5, 39)], 10, 160, [Go.Value.int Go.IntKind.i64 0, Go.Value.int Go.IntKind.i64 0, Go.Value.string { data := #[] }, Go.Value.slice none 0 0, Go.Value.slice none 0 0, Go.Value.int Go.IntKind.i64 0, Go.Value.int Go.IntKind.i64 0, Go.Value.string { data := #[] }, Go.Value.slice none 0 0, Go.Value.slice none 0 0]⟩
theorem tf151 : ti151.fits Try.prog 151 where
  ex := ⟨Try.t151, _, _, info_of Try.type151, Try.underlying151, rfl, rfl, rfl, rfl, ⟨_, rfl, rfl, [(0, 5), (5, 5)], by kernel_rfl⟩, fun h => by cases h⟩
  len := rfl
  one := by decide
  pos := by decide
def ti171 : TI := ⟨.int Go.IntKind.u64, 1, 8, [Go.Value.int Go.IntKind.u64 0]⟩
theorem tf171 : ti171.fits Try.prog 171 where
  ex := ⟨Try.t171, _, _, info_of Try.type171, Try.underlying171, rfl, rfl, rfl, rfl, rfl, fun _ => rfl⟩
  len := rfl
  one := by decide
  pos := by decide
def ti176 : TI := ⟨.st [(0, 17), (1, 17), (2, 17), (3, 9)], 4, 40, [Go.Value.pointer none, Go.Value.pointer none, Go.Value.pointer none, Go.Value.string { data := #[] }]⟩
theorem tf176 : ti176.fits Try.prog 176 where
  ex := ⟨Try.t176, _, _, info_of Try.type176, Try.underlying176, rfl, rfl, rfl, rfl, ⟨_, rfl, rfl, [(0, 1), (1, 1), (2, 1), (3, 1)], by kernel_rfl⟩, fun h => by cases h⟩
  len := rfl
  one := by decide
  pos := by decide
def ti177 : TI := ⟨.st [(0, 17), (1, 17), (2, 17), (3, 9)], 4, 40, [Go.Value.pointer none, Go.Value.pointer none, Go.Value.pointer none, Go.Value.string { data := #[] }]⟩
theorem tf177 : ti177.fits Try.prog 177 where
  ex := ⟨Try.t177, _, _, info_of Try.type177, Try.underlying177, rfl, rfl, rfl, rfl, ⟨_, rfl, rfl, [(0, 1), (1, 1), (2, 1), (3, 1)], by kernel_rfl⟩, fun h => by cases h⟩
  len := rfl
  one := by decide
  pos := by decide
def ti182 : TI := ⟨.int Go.IntKind.u32, 1, 4, [Go.Value.int Go.IntKind.u32 0]⟩
theorem tf182 : ti182.fits Try.prog 182 where
  ex := ⟨Try.t182, _, _, info_of Try.type182, Try.underlying182, rfl, rfl, rfl, rfl, rfl, fun _ => rfl⟩
  len := rfl
  one := by decide
  pos := by decide
def ti183 : TI := ⟨.int Go.IntKind.u8, 1, 1, [Go.Value.int Go.IntKind.u8 0]⟩
theorem tf183 : ti183.fits Try.prog 183 where
  ex := ⟨Try.t183, _, _, info_of Try.type183, Try.underlying183, rfl, rfl, rfl, rfl, rfl, fun _ => rfl⟩
  len := rfl
  one := by decide
  pos := by decide
def ti184 : TI := ⟨.int Go.IntKind.u8, 1, 1, [Go.Value.int Go.IntKind.u8 0]⟩
theorem tf184 : ti184.fits Try.prog 184 where
  ex := ⟨Try.t184, _, _, info_of Try.type184, Try.underlying184, rfl, rfl, rfl, rfl, rfl, fun _ => rfl⟩
  len := rfl
  one := by decide
  pos := by decide
def ti186 : TI := ⟨.ptr 5, 1, 8, [Go.Value.pointer none]⟩
theorem tf186 : ti186.fits Try.prog 186 where
  ex := ⟨Try.t186, _, _, info_of Try.type186, Try.underlying186, rfl, rfl, rfl, rfl, rfl, fun _ => rfl⟩
  len := rfl
  one := by decide
  pos := by decide
def ti187 : TI := ⟨.int Go.IntKind.i32, 1, 4, [Go.Value.int Go.IntKind.i32 0]⟩
theorem tf187 : ti187.fits Try.prog 187 where
  ex := ⟨Try.t187, _, _, info_of Try.type187, Try.underlying187, rfl, rfl, rfl, rfl, rfl, fun _ => rfl⟩
  len := rfl
  one := by decide
  pos := by decide
def ti188 : TI := ⟨.int Go.IntKind.i32, 1, 4, [Go.Value.int Go.IntKind.i32 0]⟩
theorem tf188 : ti188.fits Try.prog 188 where
  ex := ⟨Try.t188, _, _, info_of Try.type188, Try.underlying188, rfl, rfl, rfl, rfl, rfl, fun _ => rfl⟩
  len := rfl
  one := by decide
  pos := by decide
def ti189 : TI := ⟨.st [(0, 12), (1, 12), (2, 182), (3, 183), (4, 5), (5, 5), (6, 184), (7, 185), (8, 186), (9, 187), (10, 188)], 11, 48, [Go.Value.int Go.IntKind.u64 0, Go.Value.int Go.IntKind.u64 0, Go.Value.int Go.IntKind.u32 0, Go.Value.int Go.IntKind.u8 0, Go.Value.int Go.IntKind.u8 0, Go.Value.int Go.IntKind.u8 0, Go.Value.int Go.IntKind.u8 0, Go.Value.nilFunc, Go.Value.pointer none, Go.Value.int Go.IntKind.i32 0, Go.Value.int Go.IntKind.i32 0]⟩
theorem tf189 : ti189.fits Try.prog 189 where
  ex := ⟨Try.t189, _, _, info_of Try.type189, Try.underlying189, rfl, rfl, rfl, rfl, ⟨_, rfl, rfl, [(0, 1), (1, 1), (2, 1), (3, 1), (4, 1), (5, 1), (6, 1), (7, 1), (8, 1), (9, 1), (10, 1)], by kernel_rfl⟩, fun h => by cases h⟩
  len := rfl
  one := by decide
  pos := by decide
def ti190 : TI := ⟨.st [(0, 12), (1, 12), (2, 182), (3, 183), (4, 5), (5, 5), (6, 184), (7, 185), (8, 186), (9, 187), (10, 188)], 11, 48, [Go.Value.int Go.IntKind.u64 0, Go.Value.int Go.IntKind.u64 0, Go.Value.int Go.IntKind.u32 0, Go.Value.int Go.IntKind.u8 0, Go.Value.int Go.IntKind.u8 0, Go.Value.int Go.IntKind.u8 0, Go.Value.int Go.IntKind.u8 0, Go.Value.nilFunc, Go.Value.pointer none, Go.Value.int Go.IntKind.i32 0, Go.Value.int Go.IntKind.i32 0]⟩
theorem tf190 : ti190.fits Try.prog 190 where
  ex := ⟨Try.t190, _, _, info_of Try.type190, Try.underlying190, rfl, rfl, rfl, rfl, ⟨_, rfl, rfl, [(0, 1), (1, 1), (2, 1), (3, 1), (4, 1), (5, 1), (6, 1), (7, 1), (8, 1), (9, 1), (10, 1)], by kernel_rfl⟩, fun h => by cases h⟩
  len := rfl
  one := by decide
  pos := by decide
def ti191 : TI := ⟨.sl 196, 1, 24, [Go.Value.slice none 0 0]⟩
theorem tf191 : ti191.fits Try.prog 191 where
  ex := ⟨Try.t191, _, _, info_of Try.type191, Try.underlying191, rfl, rfl, rfl, rfl, rfl, fun _ => rfl⟩
  len := rfl
  one := by decide
  pos := by decide
def ti192 : TI := ⟨.st [(0, 9), (1, 191)], 2, 40, [Go.Value.string { data := #[] }, Go.Value.slice none 0 0]⟩
theorem tf192 : ti192.fits Try.prog 192 where
  ex := ⟨Try.t192, _, _, info_of Try.type192, Try.underlying192, rfl, rfl, rfl, rfl, ⟨_, rfl, rfl, [(0, 1), (1, 1)], by kernel_rfl⟩, fun h => by cases h⟩
  len := rfl
  one := by decide
  pos := by decide
def ti193 : TI := ⟨.st [(0, 9), (1, 191)], 2, 40, [Go.Value.string { data := #[] }, Go.Value.slice none 0 0]⟩
theorem tf193 : ti193.fits Try.prog 193 where
  ex := ⟨Try.t193, _, _, info_of Try.type193, Try.underlying193, rfl, rfl, rfl, rfl, ⟨_, rfl, rfl, [(0, 1), (1, 1)], by kernel_rfl⟩, fun h => by cases h⟩
  len := rfl
  one := by decide
  pos := by decide
def ti195 : TI := ⟨.st [(0, 9), (1, 4), (2, 9), (3, 32), (4, 32)], 5, 88, [Go.Value.string { data := #[] }, Go.Value.bool false, Go.Value.string { data := #[] }, Go.Value.slice none 0 0, Go.Value.slice none 0 0]⟩
theorem tf195 : ti195.fits Try.prog 195 where
  ex := ⟨Try.t195, _, _, info_of Try.type195, Try.underlying195, rfl, rfl, rfl, rfl, ⟨_, rfl, rfl, [(0, 1), (1, 1), (2, 1), (3, 1), (4, 1)], by kernel_rfl⟩, fun h => by cases h⟩
  len := rfl
  one := by decide
  pos := by decide
def ti196 : TI := ⟨.st [(0, 9), (1, 4), (2, 9), (3, 32), (4, 32)], 5, 88, [Go.Value.string { data := #[] }, Go.Value.bool false, Go.Value.string { data := #[] }, Go.Value.slice none 0 0, Go.Value.slice none 0 0]⟩
theorem tf196 : ti196.fits Try.prog 196 where
  ex := ⟨Try.t196, _, _, info_of Try.type196, Try.underlying196, rfl, rfl, rfl, rfl, ⟨_, rfl, rfl, [(0, 1), (1, 1), (2, 1), (3, 1), (4, 1)], by kernel_rfl⟩, fun h => by cases h⟩
  len := rfl
  one := by decide
  pos := by decide
def Dt : Types := fun t => match t with
  | 2 => some ti2
  | 3 => some ti3
  | 4 => some ti4
  | 5 => some ti5
  | 6 => some ti6
  | 7 => some ti7
  | 8 => some ti8
  | 9 => some ti9
  | 10 => some ti10
  | 11 => some ti11
  | 12 => some ti12
  | 13 => some ti13
  | 14 => some ti14
  | 15 => some ti15
  | 16 => some ti16
  | 17 => some ti17
  | 18 => some ti18
  | 19 => some ti19
  | 21 => some ti21
  | 22 => some ti22
  | 24 => some ti24
  | 25 => some ti25
  | 26 => some ti26
  | 27 => some ti27
  | 28 => some ti28
  | 30 => some ti30
  | 32 => some ti32
  | 33 => some ti33
  | 34 => some ti34
  | 36 => some ti36
  | 37 => some ti37
  | 38 => some ti38
  | 39 => some ti39
  | 46 => some ti46
  | 47 => some ti47
  | 50 => some ti50
  | 52 => some ti52
  | 53 => some ti53
  | 54 => some ti54
  | 59 => some ti59
  | 62 => some ti62
  | 63 => some ti63
  | 64 => some ti64
  | 65 => some ti65
  | 69 => some ti69
  | 70 => some ti70
  | 71 => some ti71
  | 77 => some ti77
  | 78 => some ti78
  | 82 => some ti82
  | 83 => some ti83
  | 84 => some ti84
  | 96 => some ti96
  | 97 => some ti97
  | 98 => some ti98
  | 105 => some ti105
  | 106 => some ti106
  | 109 => some ti109
  | 110 => some ti110
  | 111 => some ti111
  | 119 => some ti119
  | 132 => some ti132
  | 135 => some ti135
  | 136 => some ti136
  | 149 => some ti149
  | 150 => some ti150
  | 151 => some ti151
  | 171 => some ti171
  | 176 => some ti176
  | 177 => some ti177
  | 182 => some ti182
  | 183 => some ti183
  | 184 => some ti184
  | 186 => some ti186
  | 187 => some ti187
  | 188 => some ti188
  | 189 => some ti189
  | 190 => some ti190
  | 191 => some ti191
  | 192 => some ti192
  | 193 => some ti193
  | 195 => some ti195
  | 196 => some ti196
  | _ => none
theorem Dt_ok : Agrees Try.prog Dt := by
  intro t i h
  unfold Dt at h
  split at h
  · cases h; exact tf2
  · cases h; exact tf3
  · cases h; exact tf4
  · cases h; exact tf5
  · cases h; exact tf6
  · cases h; exact tf7
  · cases h; exact tf8
  · cases h; exact tf9
  · cases h; exact tf10
  · cases h; exact tf11
  · cases h; exact tf12
  · cases h; exact tf13
  · cases h; exact tf14
  · cases h; exact tf15
  · cases h; exact tf16
  · cases h; exact tf17
  · cases h; exact tf18
  · cases h; exact tf19
  · cases h; exact tf21
  · cases h; exact tf22
  · cases h; exact tf24
  · cases h; exact tf25
  · cases h; exact tf26
  · cases h; exact tf27
  · cases h; exact tf28
  · cases h; exact tf30
  · cases h; exact tf32
  · cases h; exact tf33
  · cases h; exact tf34
  · cases h; exact tf36
  · cases h; exact tf37
  · cases h; exact tf38
  · cases h; exact tf39
  · cases h; exact tf46
  · cases h; exact tf47
  · cases h; exact tf50
  · cases h; exact tf52
  · cases h; exact tf53
  · cases h; exact tf54
  · cases h; exact tf59
  · cases h; exact tf62
  · cases h; exact tf63
  · cases h; exact tf64
  · cases h; exact tf65
  · cases h; exact tf69
  · cases h; exact tf70
  · cases h; exact tf71
  · cases h; exact tf77
  · cases h; exact tf78
  · cases h; exact tf82
  · cases h; exact tf83
  · cases h; exact tf84
  · cases h; exact tf96
  · cases h; exact tf97
  · cases h; exact tf98
  · cases h; exact tf105
  · cases h; exact tf106
  · cases h; exact tf109
  · cases h; exact tf110
  · cases h; exact tf111
  · cases h; exact tf119
  · cases h; exact tf132
  · cases h; exact tf135
  · cases h; exact tf136
  · cases h; exact tf149
  · cases h; exact tf150
  · cases h; exact tf151
  · cases h; exact tf171
  · cases h; exact tf176
  · cases h; exact tf177
  · cases h; exact tf182
  · cases h; exact tf183
  · cases h; exact tf184
  · cases h; exact tf186
  · cases h; exact tf187
  · cases h; exact tf188
  · cases h; exact tf189
  · cases h; exact tf190
  · cases h; exact tf191
  · cases h; exact tf192
  · cases h; exact tf193
  · cases h; exact tf195
  · cases h; exact tf196
  · cases h
theorem Dt2 : Dt 2 = some ⟨.int Go.IntKind.i64, 1, 8, [Go.Value.int Go.IntKind.i64 0]⟩ := rfl
theorem Dt3 : Dt 3 = some ⟨.int Go.IntKind.i64, 1, 8, [Go.Value.int Go.IntKind.i64 0]⟩ := rfl
theorem Dt4 : Dt 4 = some ⟨.bool, 1, 1, [Go.Value.bool false]⟩ := rfl
theorem Dt5 : Dt 5 = some ⟨.int Go.IntKind.u8, 1, 1, [Go.Value.int Go.IntKind.u8 0]⟩ := rfl
theorem Dt6 : Dt 6 = some ⟨.int Go.IntKind.u8, 1, 1, [Go.Value.int Go.IntKind.u8 0]⟩ := rfl
theorem Dt7 : Dt 7 = some ⟨.st [(0, 2), (1, 3), (2, 4), (3, 6)], 4, 24, [Go.Value.int Go.IntKind.i64 0, Go.Value.int Go.IntKind.i64 0, Go.Value.bool false, Go.Value.int Go.IntKind.u8 0]⟩ := rfl
theorem Dt8 : Dt 8 = some ⟨.st [(0, 2), (1, 3), (2, 4), (3, 6)], 4, 24, [Go.Value.int Go.IntKind.i64 0, Go.Value.int Go.IntKind.i64 0, Go.Value.bool false, Go.Value.int Go.IntKind.u8 0]⟩ := rfl
theorem Dt9 : Dt 9 = some ⟨.str, 1, 16, [Go.Value.string { data := #[] }]⟩ := rfl
theorem Dt10 : Dt 10 = some ⟨.str, 1, 16, [Go.Value.string { data := #[] }]⟩ := rfl
theorem Dt11 : Dt 11 = some ⟨.str, 1, 16, [Go.Value.string { data := #[] }]⟩ := rfl
theorem Dt12 : Dt 12 = some ⟨.int Go.IntKind.u64, 1, 8, [Go.Value.int Go.IntKind.u64 0]⟩ := rfl
theorem Dt13 : Dt 13 = some ⟨.st [(0, 9), (1, 12)], 2, 24, [Go.Value.string { data := #[] }, Go.Value.int Go.IntKind.u64 0]⟩ := rfl
theorem Dt14 : Dt 14 = some ⟨.st [(0, 9), (1, 12)], 2, 24, [Go.Value.string { data := #[] }, Go.Value.int Go.IntKind.u64 0]⟩ := rfl
theorem Dt15 : Dt 15 = some ⟨.ptr 177, 1, 8, [Go.Value.pointer none]⟩ := rfl
theorem Dt16 : Dt 16 = some ⟨.ptr 180, 1, 8, [Go.Value.pointer none]⟩ := rfl
theorem Dt17 : Dt 17 = some ⟨.ptr 190, 1, 8, [Go.Value.pointer none]⟩ := rfl
theorem Dt18 : Dt 18 = some ⟨.st [(0, 17)], 1, 8, [Go.Value.pointer none]⟩ := rfl
theorem Dt19 : Dt 19 = some ⟨.st [(0, 17)], 1, 8, [Go.Value.pointer none]⟩ := rfl
theorem Dt21 : Dt 21 = some ⟨.int Go.IntKind.i32, 1, 4, [Go.Value.int Go.IntKind.i32 0]⟩ := rfl
theorem Dt22 : Dt 22 = some ⟨.sl 64, 1, 24, [Go.Value.slice none 0 0]⟩ := rfl
theorem Dt24 : Dt 24 = some ⟨.sl 34, 1, 24, [Go.Value.slice none 0 0]⟩ := rfl
theorem Dt25 : Dt 25 = some ⟨.sl 84, 1, 24, [Go.Value.slice none 0 0]⟩ := rfl
theorem Dt26 : Dt 26 = some ⟨.sl 193, 1, 24, [Go.Value.slice none 0 0]⟩ := rfl
theorem Dt27 : Dt 27 = some ⟨.st [(0, 24), (1, 25), (2, 26)], 3, 72, [Go.Value.slice none 0 0, Go.Value.slice none 0 0, Go.Value.slice none 0 0]⟩ := rfl
theorem Dt28 : Dt 28 = some ⟨.st [(0, 24), (1, 25), (2, 26)], 3, 72, [Go.Value.slice none 0 0, Go.Value.slice none 0 0, Go.Value.slice none 0 0]⟩ := rfl
theorem Dt30 : Dt 30 = some ⟨.map 9 3, 1, 8, [Go.Value.map none]⟩ := rfl
theorem Dt32 : Dt 32 = some ⟨.sl 47, 1, 24, [Go.Value.slice none 0 0]⟩ := rfl
theorem Dt33 : Dt 33 = some ⟨.st [(0, 3), (1, 9), (2, 32)], 3, 48, [Go.Value.int Go.IntKind.i64 0, Go.Value.string { data := #[] }, Go.Value.slice none 0 0]⟩ := rfl
theorem Dt34 : Dt 34 = some ⟨.st [(0, 3), (1, 9), (2, 32)], 3, 48, [Go.Value.int Go.IntKind.i64 0, Go.Value.string { data := #[] }, Go.Value.slice none 0 0]⟩ := rfl
theorem Dt36 : Dt 36 = some ⟨.sl 39, 1, 24, [Go.Value.slice none 0 0]⟩ := rfl
theorem Dt37 : Dt 37 = some ⟨.sl 3, 1, 24, [Go.Value.slice none 0 0]⟩ := rfl
theorem Dt38 : Dt 38 = some ⟨.st [(0, 3), (1, 2), (2, 9), (3, 36), (4, 37)], 5, 80, [Go.Value.int Go.IntKind.i64 0, Go.Value.int Go.IntKind.i64 0, Go.Value.string { data := #[] }, Go.Value.slice none 0 0, Go.Value.slice none 0 0]⟩ := rfl
theorem Dt39 : Dt 39 = some ⟨.st [(0, 3), (1, 2), (2, 9), (3, 36), (4, 37)], 5, 80, [Go.Value.int Go.IntKind.i64 0, Go.Value.int Go.IntKind.i64 0, Go.Value.string { data := #[] }, Go.Value.slice none 0 0, Go.Value.slice none 0 0]⟩ := rfl
theorem Dt46 : Dt 46 = some ⟨.st [(0, 3), (1, 3), (2, 9), (3, 9), (4, 4), (5, 39)], 10, 136, [Go.Value.int Go.IntKind.i64 0, Go.Value.int Go.IntKind.i64 0, Go.Value.string { data := #[] }, Go.Value.string { data := #[] }, Go.Value.bool false, Go.Value.int Go.IntKind.i64 0, Go.Value.int Go.IntKind.i64 0, Go.Value.string { data := #[] }, Go.Value.slice none 0 0, Go.Value.slice none 0 0]⟩ := rfl
theorem Dt47 : Dt 47 = some ⟨.st [(0, 3), (1, 3), (2, 9), (3, 9), (4, 4), (5, 39)], 10, 136, [Go.Value.int Go.IntKind.i64 0, Go.Value.int Go.IntKind.i64 0, Go.Value.string { data := #[] }, Go.Value.string { data := #[] }, Go.Value.bool false, Go.Value.int Go.IntKind.i64 0, Go.Value.int Go.IntKind.i64 0, Go.Value.string { data := #[] }, Go.Value.slice none 0 0, Go.Value.slice none 0 0]⟩ := rfl
theorem Dt50 : Dt 50 = some ⟨.sl 5, 1, 24, [Go.Value.slice none 0 0]⟩ := rfl
theorem Dt52 : Dt 52 = some ⟨.sl 53, 1, 24, [Go.Value.slice none 0 0]⟩ := rfl
theorem Dt53 : Dt 53 = some ⟨.int Go.IntKind.i8, 1, 1, [Go.Value.int Go.IntKind.i8 0]⟩ := rfl
theorem Dt54 : Dt 54 = some ⟨.int Go.IntKind.i64, 1, 8, [Go.Value.int Go.IntKind.i64 0]⟩ := rfl
theorem Dt59 : Dt 59 = some ⟨.sl 4, 1, 24, [Go.Value.slice none 0 0]⟩ := rfl
theorem Dt62 : Dt 62 = some ⟨.sl 9, 1, 24, [Go.Value.slice none 0 0]⟩ := rfl
theorem Dt63 : Dt 63 = some ⟨.ptr 34, 1, 8, [Go.Value.pointer none]⟩ := rfl
theorem Dt64 : Dt 64 = some ⟨.int Go.IntKind.u16, 1, 2, [Go.Value.int Go.IntKind.u16 0]⟩ := rfl
theorem Dt65 : Dt 65 = some ⟨.map 9 3, 1, 8, [Go.Value.map none]⟩ := rfl
theorem Dt69 : Dt 69 = some ⟨.ptr 71, 1, 8, [Go.Value.pointer none]⟩ := rfl
theorem Dt70 : Dt 70 = some ⟨.st [(0, 65), (1, 28)], 4, 80, [Go.Value.map none, Go.Value.slice none 0 0, Go.Value.slice none 0 0, Go.Value.slice none 0 0]⟩ := rfl
theorem Dt71 : Dt 71 = some ⟨.st [(0, 65), (1, 28)], 4, 80, [Go.Value.map none, Go.Value.slice none 0 0, Go.Value.slice none 0 0, Go.Value.slice none 0 0]⟩ := rfl
theorem Dt77 : Dt 77 = some ⟨.st [(0, 3), (1, 9), (2, 9), (3, 9)], 4, 56, [Go.Value.int Go.IntKind.i64 0, Go.Value.string { data := #[] }, Go.Value.string { data := #[] }, Go.Value.string { data := #[] }]⟩ := rfl
theorem Dt78 : Dt 78 = some ⟨.st [(0, 3), (1, 9), (2, 9), (3, 9)], 4, 56, [Go.Value.int Go.IntKind.i64 0, Go.Value.string { data := #[] }, Go.Value.string { data := #[] }, Go.Value.string { data := #[] }]⟩ := rfl
theorem Dt82 : Dt 82 = some ⟨.sl 106, 1, 24, [Go.Value.slice none 0 0]⟩ := rfl
theorem Dt83 : Dt 83 = some ⟨.st [(0, 9), (1, 82)], 2, 40, [Go.Value.string { data := #[] }, Go.Value.slice none 0 0]⟩ := rfl
theorem Dt84 : Dt 84 = some ⟨.st [(0, 9), (1, 82)], 2, 40, [Go.Value.string { data := #[] }, Go.Value.slice none 0 0]⟩ := rfl
theorem Dt96 : Dt 96 = some ⟨.ptr 98, 1, 8, [Go.Value.pointer none]⟩ := rfl
theorem Dt97 : Dt 97 = some ⟨.st [(0, 28), (3, 54)], 4, 80, [Go.Value.slice none 0 0, Go.Value.slice none 0 0, Go.Value.slice none 0 0, Go.Value.int Go.IntKind.i64 0]⟩ := rfl
theorem Dt98 : Dt 98 = some ⟨.st [(0, 28), (3, 54)], 4, 80, [Go.Value.slice none 0 0, Go.Value.slice none 0 0, Go.Value.slice none 0 0, Go.Value.int Go.IntKind.i64 0]⟩ := rfl
theorem Dt105 : Dt 105 = some ⟨.st [(0, 9), (1, 4), (2, 2)], 3, 32, [Go.Value.string { data := #[] }, Go.Value.bool false, Go.Value.int Go.IntKind.i64 0]⟩ := rfl
theorem Dt106 : Dt 106 = some ⟨.st [(0, 9), (1, 4), (2, 2)], 3, 32, [Go.Value.string { data := #[] }, Go.Value.bool false, Go.Value.int Go.IntKind.i64 0]⟩ := rfl
theorem Dt109 : Dt 109 = some ⟨.ptr 111, 1, 8, [Go.Value.pointer none]⟩ := rfl
theorem Dt110 : Dt 110 = some ⟨.st [(0, 9), (1, 3), (2, 54)], 3, 32, [Go.Value.string { data := #[] }, Go.Value.int Go.IntKind.i64 0, Go.Value.int Go.IntKind.i64 0]⟩ := rfl
theorem Dt111 : Dt 111 = some ⟨.st [(0, 9), (1, 3), (2, 54)], 3, 32, [Go.Value.string { data := #[] }, Go.Value.int Go.IntKind.i64 0, Go.Value.int Go.IntKind.i64 0]⟩ := rfl
theorem Dt119 : Dt 119 = some ⟨.int Go.IntKind.u64, 1, 8, [Go.Value.int Go.IntKind.u64 0]⟩ := rfl
theorem Dt132 : Dt 132 = some ⟨.ptr 136, 1, 8, [Go.Value.pointer none]⟩ := rfl
theorem Dt135 : Dt 135 = some ⟨.st [(0, 9), (1, 3), (2, 54), (3, 62), (4, 3)], 5, 64, [Go.Value.string { data := #[] }, Go.Value.int Go.IntKind.i64 0, Go.Value.int Go.IntKind.i64 0, Go.Value.slice none 0 0, Go.Value.int Go.IntKind.i64 0]⟩ := rfl
theorem Dt136 : Dt 136 = some ⟨.st [(0, 9), (1, 3), (2, 54), (3, 62), (4, 3)], 5, 64, [Go.Value.string { data := #[] }, Go.Value.int Go.IntKind.i64 0, Go.Value.int Go.IntKind.i64 0, Go.Value.slice none 0 0, Go.Value.int Go.IntKind.i64 0]⟩ := rfl
theorem Dt149 : Dt 149 = some ⟨.sl 151, 1, 24, [Go.Value.slice none 0 0]⟩ := rfl
theorem Dt150 : Dt 150 = some ⟨.st [(0, 39), (5, 39)], 10, 160, [Go.Value.int Go.IntKind.i64 0, Go.Value.int Go.IntKind.i64 0, Go.Value.string { data := #[] }, Go.Value.slice none 0 0, Go.Value.slice none 0 0, Go.Value.int Go.IntKind.i64 0, Go.Value.int Go.IntKind.i64 0, Go.Value.string { data := #[] }, Go.Value.slice none 0 0, Go.Value.slice none 0 0]⟩ := rfl
theorem Dt151 : Dt 151 = some ⟨.st [(0, 39), (5, 39)], 10, 160, [Go.Value.int Go.IntKind.i64 0, Go.Value.int Go.IntKind.i64 0, Go.Value.string { data := #[] }, Go.Value.slice none 0 0, Go.Value.slice none 0 0, Go.Value.int Go.IntKind.i64 0, Go.Value.int Go.IntKind.i64 0, Go.Value.string { data := #[] }, Go.Value.slice none 0 0, Go.Value.slice none 0 0]⟩ := rfl
theorem Dt171 : Dt 171 = some ⟨.int Go.IntKind.u64, 1, 8, [Go.Value.int Go.IntKind.u64 0]⟩ := rfl
theorem Dt176 : Dt 176 = some ⟨.st [(0, 17), (1, 17), (2, 17), (3, 9)], 4, 40, [Go.Value.pointer none, Go.Value.pointer none, Go.Value.pointer none, Go.Value.string { data := #[] }]⟩ := rfl
theorem Dt177 : Dt 177 = some ⟨.st [(0, 17), (1, 17), (2, 17), (3, 9)], 4, 40, [Go.Value.pointer none, Go.Value.pointer none, Go.Value.pointer none, Go.Value.string { data := #[] }]⟩ := rfl
theorem Dt182 : Dt 182 = some ⟨.int Go.IntKind.u32, 1, 4, [Go.Value.int Go.IntKind.u32 0]⟩ := rfl
theorem Dt183 : Dt 183 = some ⟨.int Go.IntKind.u8, 1, 1, [Go.Value.int Go.IntKind.u8 0]⟩ := rfl
theorem Dt184 : Dt 184 = some ⟨.int Go.IntKind.u8, 1, 1, [Go.Value.int Go.IntKind.u8 0]⟩ := rfl
theorem Dt186 : Dt 186 = some ⟨.ptr 5, 1, 8, [Go.Value.pointer none]⟩ := rfl
theorem Dt187 : Dt 187 = some ⟨.int Go.IntKind.i32, 1, 4, [Go.Value.int Go.IntKind.i32 0]⟩ := rfl
theorem Dt188 : Dt 188 = some ⟨.int Go.IntKind.i32, 1, 4, [Go.Value.int Go.IntKind.i32 0]⟩ := rfl
theorem Dt189 : Dt 189 = some ⟨.st [(0, 12), (1, 12), (2, 182), (3, 183), (4, 5), (5, 5), (6, 184), (7, 185), (8, 186), (9, 187), (10, 188)], 11, 48, [Go.Value.int Go.IntKind.u64 0, Go.Value.int Go.IntKind.u64 0, Go.Value.int Go.IntKind.u32 0, Go.Value.int Go.IntKind.u8 0, Go.Value.int Go.IntKind.u8 0, Go.Value.int Go.IntKind.u8 0, Go.Value.int Go.IntKind.u8 0, Go.Value.nilFunc, Go.Value.pointer none, Go.Value.int Go.IntKind.i32 0, Go.Value.int Go.IntKind.i32 0]⟩ := rfl
theorem Dt190 : Dt 190 = some ⟨.st [(0, 12), (1, 12), (2, 182), (3, 183), (4, 5), (5, 5), (6, 184), (7, 185), (8, 186), (9, 187), (10, 188)], 11, 48, [Go.Value.int Go.IntKind.u64 0, Go.Value.int Go.IntKind.u64 0, Go.Value.int Go.IntKind.u32 0, Go.Value.int Go.IntKind.u8 0, Go.Value.int Go.IntKind.u8 0, Go.Value.int Go.IntKind.u8 0, Go.Value.int Go.IntKind.u8 0, Go.Value.nilFunc, Go.Value.pointer none, Go.Value.int Go.IntKind.i32 0, Go.Value.int Go.IntKind.i32 0]⟩ := rfl
theorem Dt191 : Dt 191 = some ⟨.sl 196, 1, 24, [Go.Value.slice none 0 0]⟩ := rfl
theorem Dt192 : Dt 192 = some ⟨.st [(0, 9), (1, 191)], 2, 40, [Go.Value.string { data := #[] }, Go.Value.slice none 0 0]⟩ := rfl
theorem Dt193 : Dt 193 = some ⟨.st [(0, 9), (1, 191)], 2, 40, [Go.Value.string { data := #[] }, Go.Value.slice none 0 0]⟩ := rfl
theorem Dt195 : Dt 195 = some ⟨.st [(0, 9), (1, 4), (2, 9), (3, 32), (4, 32)], 5, 88, [Go.Value.string { data := #[] }, Go.Value.bool false, Go.Value.string { data := #[] }, Go.Value.slice none 0 0, Go.Value.slice none 0 0]⟩ := rfl
theorem Dt196 : Dt 196 = some ⟨.st [(0, 9), (1, 4), (2, 9), (3, 32), (4, 32)], 5, 88, [Go.Value.string { data := #[] }, Go.Value.bool false, Go.Value.string { data := #[] }, Go.Value.slice none 0 0, Go.Value.slice none 0 0]⟩ := rfl
attribute [go_sem] Dt2 Dt3 Dt4 Dt5 Dt6 Dt7 Dt8 Dt9 Dt10 Dt11 Dt12 Dt13 Dt14 Dt15 Dt16 Dt17 Dt18 Dt19 Dt21 Dt22 Dt24 Dt25 Dt26 Dt27 Dt28 Dt30 Dt32 Dt33 Dt34 Dt36 Dt37 Dt38 Dt39 Dt46 Dt47 Dt50 Dt52 Dt53 Dt54 Dt59 Dt62 Dt63 Dt64 Dt65 Dt69 Dt70 Dt71 Dt77 Dt78 Dt82 Dt83 Dt84 Dt96 Dt97 Dt98 Dt105 Dt106 Dt109 Dt110 Dt111 Dt119 Dt132 Dt135 Dt136 Dt149 Dt150 Dt151 Dt171 Dt176 Dt177 Dt182 Dt183 Dt184 Dt186 Dt187 Dt188 Dt189 Dt190 Dt191 Dt192 Dt193 Dt195 Dt196
end Go.Proofs.Ythiddkhonklbkaa

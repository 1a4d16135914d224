/- Proved: inhabit's doubling law (InhabitDoubles) returns true for every byte it is handed; no condition beyond those of the given statement. -/
import Derived.Test.YthiddkhonklbkaaRows
import Derived.WalkKit
import Derived.ProofKit
import Derived.OpenShut
import Derived.Test.YthiddkhonklbkaaD2
import Derived.Test.YthiddkhonklbkaaP2a
import Derived.Test.YthiddkhonklbkaaP2b
namespace Go.Proofs.Ythiddkhonklbkaa.inhabitDoubles
open Go.ChangeShapes Go.WideShapes Go.ChangeAt Go.RowKit
set_option linter.unusedVariables false      -- a walk need not use every 'w<i>' (that an integer argument fits its kind)

theorem own : ownKnob Try.prog.godebug = none := by kernel_rfl

/-! ### The walk -/
theorem checks (k : Nat) (h1 : 1 ≤ k) (h2 : k ≤ 40) : checkZ k = true := by
  obtain ⟨i, rfl⟩ : ∃ i, k = i + 1 := ⟨k - 1, by omega⟩
  match i, h2 with
  | 0, _ => exact check1
  | 1, _ => exact check2
  | 2, _ => exact check3
  | 3, _ => exact check4
  | 4, _ => exact check5
  | 5, _ => exact check6
  | 6, _ => exact check7
  | 7, _ => exact check8
  | 8, _ => exact check9
  | 9, _ => exact check10
  | 10, _ => exact check11
  | 11, _ => exact check12
  | 12, _ => exact check13
  | 13, _ => exact check14
  | 14, _ => exact check15
  | 15, _ => exact check16
  | 16, _ => exact check17
  | 17, _ => exact check18
  | 18, _ => exact check19
  | 19, _ => exact check20
  | 20, _ => exact check21
  | 21, _ => exact check22
  | 22, _ => exact check23
  | 23, _ => exact check24
  | 24, _ => exact check25
  | 25, _ => exact check26
  | 26, _ => exact check27
  | 27, _ => exact check28
  | 28, _ => exact check29
  | 29, _ => exact check30
  | 30, _ => exact check31
  | 31, _ => exact check32
  | 32, _ => exact check33
  | 33, _ => exact check34
  | 34, _ => exact check35
  | 35, _ => exact check36
  | 36, _ => exact check37
  | 37, _ => exact check38
  | 38, _ => exact check39
  | 39, _ => exact check40
  | i + 40, h2 => omega

theorem walk (a0 : Int) (w0 : (Lit.int .u8 a0).wf = true) (w : World) :
    Calls Try.prog 5 #[.int .u8 a0] w fun e w' => e = .returned (.bool true) ∧ Grown w w' := by
  have hn : 0 ≤ a0 ∧ a0 ≤ 255 := by
    simp [Lit.wf, IntKind.min, IntKind.max, IntKind.signed, IntKind.bits] at w0
    exact ⟨by omega, by omega⟩
  refine Go.Aw.law_walk (args := [.c (.int .u8 a0)]) (doubles_walk checks a0 hn) w (fun _ => False) (fun b h => h.elim) _ rfl ?_
  intro i p v hp hv
  match i with
  | 0 =>
    simp at hp hv
    subst hp; subst hv
    exact .c _
  | i + 1 => simp at hp

/-! ### THE ROW's STEP: WRITTEN OUT: LEAVE IT -/
set_option maxRecDepth 100000 in
theorem lifted (os : Os) (started : os.Started) (H : Type) (enc : TypeId × Value → H) :
    ReturnsInHanded {} Try.checked os 5 .any (Rows.inhabitDoublesSpec.pre6 enc Try.prog Try.f5 Rows.inhabitDoublesRow.domain false) (Rows.inhabitDoublesSpec.post enc Try.prog Try.f5 false true false false) := by
  refine returnsInHanded_of_change (C := Try.checked) own started (by kernel_rfl) Try.func5
    (ChangeSpec.witness6 (enc := enc) (C := Try.checked) false ⟨#[], #[.int .u8 0], []⟩ 8 (by kernel_rfl) (by kernel_rfl) (by kernel_rfl) (by kernel_rfl)) ?_
  intro W base args ds gs before hval0 hW hcnd _
  have hval : ∀ (j : Nat) t v, Try.f5.params[j]? = some t → args[j]? = some v → Value.okWide Try.prog W .any base t v := hval0
  have hW' := hW
  obtain ⟨p, q, hA0, hV, rfl, hfz, hnd⟩ := hW
  have hA : DataW.TrodAll enc Try.prog W 0 (fun _ => true) true Try.f5.params.toList args.toList ds p := hA0
  rw [Try.params5] at hA hval
  obtain ⟨v0, vs0, d0, ds0, p0, q0, hargs, rfl, rfl, h0, r0⟩ := trodAll_cons hA
  obtain ⟨rfl, rfl, rfl⟩ := trodAll_nil r0
  obtain rfl : args = #[v0] := by cases args; simp_all
  obtain ⟨rfl, rfl⟩ := trodVars_none hV
  obtain ⟨a0, rfl, rfl, rfl, w0⟩ := open_int Try.underlying5 (hval 0 5 v0 rfl rfl) h0
  clear hA0 hval0
  simp only [List.append_nil] at hW'
  refine (walk a0 w0 W).mono fun e W' ⟨he, hg⟩ => ?_
  subst he
  exact ⟨_, rfl, post_of_same (pa := []) (pv := []) hW' (fun _ _ _ => (trodAll_cons_mk (shut_bool Try.underlying4 _) trodAll_mk0)) (fun sp _ => (trodAll_cons_mk (shut_int Try.underlying5 w0) trodAll_mk0)) (fun _ _ => rfl) rfl
    (hg.frame _) hg.2.1 (ok_one (by kernel_rfl) rfl (okWide_bool_mk Try.underlying4 _))⟩

theorem over : Rows.inhabitDoublesRow.holds Try.pinned (OpenSpec.ofChange Rows.inhabitDoublesSpec) :=
  OpenClaim.holds_of_wide 5 Try.f5 rfl rfl rfl rfl rfl rfl rfl ⟨rfl, rfl, rfl, rfl, rfl⟩ rfl rfl rfl rfl rfl (by kernel_rfl) Try.func5 (by kernel_rfl)
    (of_decide_eq_true (by kernel_rfl)) (by unfold Func.isWrapper; first | (rw [if_pos (by decide +kernel)]; kernel_rfl) | (rw [if_neg (by decide +kernel)]; exact ⟨rfl, rfl⟩))
    (fun os started H enc _ => lifted os started H enc)

/-- ████ THE STATEMENT ████ -/
theorem proved : Rows.InhabitDoublesSaid :=
  over
#print axioms proved
end Go.Proofs.Ythiddkhonklbkaa.inhabitDoubles

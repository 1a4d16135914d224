/- Contract: begun (package assayerlaw16). -/
import Derived.Test.YthiddkhonklbkaaH5
set_option linter.unusedVariables false
set_option linter.unusedSimpArgs false
set_option maxRecDepth 100000
set_option maxHeartbeats 4000000
namespace Go.Proofs.Ythiddkhonklbkaa
open Go Go.Aw

def sBegun : Schema := ⟨[⟨4, [97, 46, 65], [⟨1, 1, [97, 46, 65], [], false, ⟨0, 0, [], [], []⟩⟩]⟩, ⟨4, [97, 46, 66], [⟨1, 1, [105, 56], [], false, ⟨0, 0, [], [], []⟩⟩]⟩], [], []⟩
theorem has_begun : hasL sBegun = [([97, 46, 66], 1)] := by kernel_rfl
theorem weights_begun : weightsL sBegun = [([97, 46, 66], 2)] := by kernel_rfl
theorem least_b : leastP sBegun [97, 46, 66] = (⟨12, 0, [], [⟨3, 0, [], [], []⟩], [1]⟩, true) := by kernel_rfl
theorem least_a : leastP sBegun [97, 46, 65] = (⟨0, 0, [], [], []⟩, false) := by kernel_rfl
theorem head_a : headL [97, 46, 65] = ⟨0, [97, 46, 65], [], [], 0⟩ := by kernel_rfl
theorem head_b : headL [97, 46, 66] = ⟨0, [97, 46, 66], [], [], 0⟩ := by kernel_rfl
theorem head_i8 : headL [105, 56] = ⟨3, [], [], [], 0⟩ := by kernel_rfl
theorem okSc_begun : okSc sBegun := by
  refine ⟨by decide, fun x hx => ?_⟩
  simp only [sBegun, List.mem_cons, List.not_mem_nil, or_false] at hx
  rcases hx with rfl | rfl <;> exact ⟨by decide, fun f hf => by simp at hf; subst hf; decide⟩
theorem okLe_a : okLe sBegun [97, 46, 65] := ⟨okSc_begun, by decide, fun h => by
  have : ofL (hasL sBegun) sBegun [97, 46, 65] = -1 := by kernel_rfl
  omega⟩
theorem okLe_b : okLe sBegun [97, 46, 66] := ⟨okSc_begun, by decide, fun _ => by
  rw [has_begun]
  have e1 : (enumL sBegun [97, 46, 66]).2 = false := rfl
  have e2 : (structL sBegun [97, 46, 66]).1 = ⟨4, [97, 46, 66], [⟨1, 1, [105, 56], [], false, ⟨0, 0, [], [], []⟩⟩]⟩ := rfl
  have e3 : partsL ⟨[([97, 46, 66], 1)], sBegun⟩ ⟨4, [97, 46, 66], [⟨1, 1, [105, 56], [], false, ⟨0, 0, [], [], []⟩⟩]⟩ = [⟨1, 1, [105, 56], [], false, ⟨0, 0, [], [], []⟩⟩] := rfl
  show goodT (3 + 1) _ _
  rw [goodT]
  refine ⟨by decide, fun _ => ?_⟩
  rw [head_b]
  simp only [e1, e2, e3, Bool.false_eq_true, if_false]
  refine ⟨⟨by decide, fun f hf => by simp at hf; subst hf; decide⟩, fun p hp => ?_⟩
  simp at hp; subst hp
  show goodT (2 + 1) _ _
  rw [goodT]
  refine ⟨by decide, fun h => ?_⟩
  rw [head_i8] at h
  cases h⟩
theorem find_b1 : find [97, 46, 66] [eK ([97, 46, 66], 1)] = some (eI 1) := rfl
theorem find_b2 : find [97, 46, 66] [eK ([97, 46, 66], 2)] = some (eI 2) := rfl
theorem cast1 : ((1 : Nat) : Int) = 1 := rfl
noncomputable def Sbegun16 : Aw.Spec := .b (mkF (fun _ : Unit => []) fun _ => is (eB true))
theorem okbegun16 : Sbegun16.OK Try.prog 8 := by
  refine mkF_ok (fun x => ?_) (fun x => ⟨_, rfl⟩)
  refine spec_w (Γ := [(10, Shas), (14, SleastT), (12, Sweights)]) Dt_ok (.cons okhas (.cons okleastT (.cons okweights .nil))) mixed [2] [.tmp 0] Try.func8 rfl rfl Try.ntmps8 rfl rfl fun hg => ?_
  clear hg
  repeat' (first | ((with_reducible refine Brn.mk (fun h => ?_) (fun h => ?_)) <;> (simp only [Un_u, h]; try simp only [decide_eq_true_eq, decide_eq_false_iff_not, beq_iff_eq, bne_iff_ne, ne_eq, beq_eq_false_iff_ne, bne_eq_false_iff_eq, Bool.not_eq_true', Bool.not_eq_false', Bool.not_eq_true, Int.not_lt, Int.not_le, gt_iff_lt, ge_iff_le, not_true_eq_false, not_false_eq_true] at h)) | ((with_reducible refine Req.mk ?_ ?_); (· first | (first | ((with_reducible refine of_eq_true (chk_op ?_ ?_)); (· rfl); (· simp only [go_sem, Nat.reduceLT, Nat.reduceLeDiff, Nat.reduceEqDiff, Nat.reduceAdd, Nat.reduceSub, Nat.reduceMul, Nat.reduceBEq, Nat.reduceBNe, reduceIte, reduceCtorEq, Int.reduceToNat, Int.reduceLT, Int.reduceLE, Int.reduceEq, Int.reduceAdd, Int.reduceSub, Int.reduceNeg, Int.reduceMul, Int.reduceNegSucc])) | ((with_reducible refine of_eq_true (chk_op_g ?_ ?_)); (· rfl); (· simp only [go_sem, Nat.reduceLT, Nat.reduceLeDiff, Nat.reduceEqDiff, Nat.reduceAdd, Nat.reduceSub, Nat.reduceMul, Nat.reduceBEq, Nat.reduceBNe, reduceIte, reduceCtorEq, Int.reduceToNat, Int.reduceLT, Int.reduceLE, Int.reduceEq, Int.reduceAdd, Int.reduceSub, Int.reduceNeg, Int.reduceMul, Int.reduceNegSucc]))) | (first | omega | (simp (disch := omega) only [wrap_i64, wrap_i32, wrap_u8, wrap_u16]; omega) | (simp only [go_sem, Nat.reduceLT, Nat.reduceLeDiff, Nat.reduceEqDiff, Nat.reduceAdd, Nat.reduceSub, Nat.reduceMul, Nat.reduceBEq, Nat.reduceBNe, reduceIte, reduceCtorEq, Int.reduceToNat, Int.reduceLT, Int.reduceLE, Int.reduceEq, Int.reduceAdd, Int.reduceSub, Int.reduceNeg, Int.reduceMul, Int.reduceNegSucc]; omega) | (simp only [go_sem, *, Nat.reduceLT, Nat.reduceLeDiff, Nat.reduceEqDiff, Nat.reduceAdd, Nat.reduceSub, Nat.reduceMul, Nat.reduceBEq, Nat.reduceBNe, reduceIte, reduceCtorEq, Int.reduceToNat, Int.reduceLT, Int.reduceLE, Int.reduceEq, Int.reduceAdd, Int.reduceSub, Int.reduceNeg, Int.reduceMul, Int.reduceNegSucc]; done)))) | simp only [go_sem, Nat.reduceLT, Nat.reduceLeDiff, Nat.reduceEqDiff, Nat.reduceAdd, Nat.reduceSub, Nat.reduceMul, Nat.reduceBEq, Nat.reduceBNe, reduceIte, reduceCtorEq, Int.reduceToNat, Int.reduceLT, Int.reduceLE, Int.reduceEq, Int.reduceAdd, Int.reduceSub, Int.reduceNeg, Int.reduceMul, Int.reduceNegSucc] | simp (disch := omega) only [wrap_i64, wrap_i32, wrap_u8, wrap_u16])
  refine Cut.to (s' := ⟨[(1, .ptr 101 0)], [(101, some (.row 28 3 [.p (.fro 3 (sBegun.structs.map eSt)), .p (.fro 2 (sBegun.enums.map eE)), .p (.fro 2 sBegun.services)]))], [101]⟩) rfl (LeS.trans (LeS.freeze Dt_ok [114, 109, 112]) (LeS.trans
    (LeS.via (t' := [(1, .ptr 101 0)]) (H' := [(101, some (.row 28 3 [.p (.fro 3 [.agg [eI 4, eS [97, 46, 65], .fro 10 [.agg [eI 1, eI 1, eS [97, 46, 65], eS [], eB false, eI 0, eI 0, eS [], .c (.slice none 0 0), .c (.slice none 0 0)]]], .agg [eI 4, eS [97, 46, 66], .fro 10 [.agg [eI 1, eI 1, eS [105, 56], eS [], eB false, eI 0, eI 0, eS [], .c (.slice none 0 0), .c (.slice none 0 0)]]]]), .p (.c (.slice none 0 0)), .p (.c (.slice none 0 0))]))]) (u' := [101]) [] ?_ ?_ ?_ ?_ ?_ ?_ ?_)
    (LeS.trans (LeS.weak 101 [.p (.fro 3 (sBegun.structs.map eSt)), .p (.fro 2 (sBegun.enums.map eE)), .p (.fro 2 sBegun.services)] rfl ?_) (LeS.via [] (by simp [go_sem, eq_self]) (by simp [go_sem, eq_self]) (by simp [go_sem, eq_self]) (by simp [go_sem, eq_self]) (by simp [go_sem, eq_self]) (by simp [go_sem]) (by simp [go_sem, eq_self]))))) ?_
  · simp [go_sem]
  · simp [go_sem, snap, regroup, optAll, TK.isSt]
  · simp [go_sem]
  · simp [go_sem]
  · simp [go_sem]
  · simp [go_sem]
  · simp [go_sem]
  · simp [go_sem, sBegun]
  · repeat' (first | ((with_reducible refine Brn.mk (fun h => ?_) (fun h => ?_)) <;> (simp only [Un_u, h]; try simp only [decide_eq_true_eq, decide_eq_false_iff_not, beq_iff_eq, bne_iff_ne, ne_eq, beq_eq_false_iff_ne, bne_eq_false_iff_eq, Bool.not_eq_true', Bool.not_eq_false', Bool.not_eq_true, Int.not_lt, Int.not_le, gt_iff_lt, ge_iff_le, not_true_eq_false, not_false_eq_true] at h)) | ((with_reducible refine Req.mk ?_ ?_); (· first | ((with_reducible apply chkB); (· rfl); (· simp only [go_sem, Nat.reduceLT, Nat.reduceLeDiff, Nat.reduceEqDiff, Nat.reduceAdd, Nat.reduceSub, Nat.reduceMul, Nat.reduceBEq, Nat.reduceBNe, reduceIte, reduceCtorEq, Int.reduceToNat, Int.reduceLT, Int.reduceLE, Int.reduceEq, Int.reduceAdd, Int.reduceSub, Int.reduceNeg, Int.reduceMul, Int.reduceNegSucc])) | ((with_reducible apply ChkA_guard); (with_reducible apply chkB); (· rfl); (· simp only [go_sem, Nat.reduceLT, Nat.reduceLeDiff, Nat.reduceEqDiff, Nat.reduceAdd, Nat.reduceSub, Nat.reduceMul, Nat.reduceBEq, Nat.reduceBNe, reduceIte, reduceCtorEq, Int.reduceToNat, Int.reduceLT, Int.reduceLE, Int.reduceEq, Int.reduceAdd, Int.reduceSub, Int.reduceNeg, Int.reduceMul, Int.reduceNegSucc])))) | ((with_reducible apply gohas); (· rfl); (· omega); (· exact okSc_begun)) | ((with_reducible apply goleastT); (· rfl); (· omega); (· first | exact okLe_b | exact okLe_a)) | ((with_reducible apply goweights); (· rfl); (· omega); (· exact okSc_begun)) | ((with_reducible refine Req.mk ?_ ?_); (· first | (first | ((with_reducible refine of_eq_true (chk_op ?_ ?_)); (· rfl); (· simp only [go_sem, Nat.reduceLT, Nat.reduceLeDiff, Nat.reduceEqDiff, Nat.reduceAdd, Nat.reduceSub, Nat.reduceMul, Nat.reduceBEq, Nat.reduceBNe, reduceIte, reduceCtorEq, Int.reduceToNat, Int.reduceLT, Int.reduceLE, Int.reduceEq, Int.reduceAdd, Int.reduceSub, Int.reduceNeg, Int.reduceMul, Int.reduceNegSucc])) | ((with_reducible refine of_eq_true (chk_op_g ?_ ?_)); (· rfl); (· simp only [go_sem, Nat.reduceLT, Nat.reduceLeDiff, Nat.reduceEqDiff, Nat.reduceAdd, Nat.reduceSub, Nat.reduceMul, Nat.reduceBEq, Nat.reduceBNe, reduceIte, reduceCtorEq, Int.reduceToNat, Int.reduceLT, Int.reduceLE, Int.reduceEq, Int.reduceAdd, Int.reduceSub, Int.reduceNeg, Int.reduceMul, Int.reduceNegSucc]))) | (first | omega | (simp (disch := omega) only [wrap_i64, wrap_i32, wrap_u8, wrap_u16]; omega) | (simp only [go_sem, Nat.reduceLT, Nat.reduceLeDiff, Nat.reduceEqDiff, Nat.reduceAdd, Nat.reduceSub, Nat.reduceMul, Nat.reduceBEq, Nat.reduceBNe, reduceIte, reduceCtorEq, Int.reduceToNat, Int.reduceLT, Int.reduceLE, Int.reduceEq, Int.reduceAdd, Int.reduceSub, Int.reduceNeg, Int.reduceMul, Int.reduceNegSucc]; omega) | (simp only [go_sem, *, Nat.reduceLT, Nat.reduceLeDiff, Nat.reduceEqDiff, Nat.reduceAdd, Nat.reduceSub, Nat.reduceMul, Nat.reduceBEq, Nat.reduceBNe, reduceIte, reduceCtorEq, Int.reduceToNat, Int.reduceLT, Int.reduceLE, Int.reduceEq, Int.reduceAdd, Int.reduceSub, Int.reduceNeg, Int.reduceMul, Int.reduceNegSucc]; done)))) | simp only [go_sem, has_begun, weights_begun, least_a, least_b, find_b1, find_b2, cast1, Nat.reduceLT, Nat.reduceLeDiff, Nat.reduceEqDiff, Nat.reduceAdd, Nat.reduceSub, Nat.reduceMul, Nat.reduceBEq, Nat.reduceBNe, reduceIte, reduceCtorEq, Int.reduceToNat, Int.reduceLT, Int.reduceLE, Int.reduceEq, Int.reduceAdd, Int.reduceSub, Int.reduceNeg, Int.reduceMul, Int.reduceNegSucc] | simp (disch := omega) only [wrap_i64, wrap_i32, wrap_u8, wrap_u16])
    all_goals rfl
end Go.Proofs.Ythiddkhonklbkaa

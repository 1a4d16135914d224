/- Contract: weights (package inhabit). -/
import Derived.Test.YthiddkhonklbkaaH3
set_option linter.unusedVariables false
set_option linter.unusedSimpArgs false
set_option maxRecDepth 20000
set_option maxHeartbeats 4000000
namespace Go.Proofs.Ythiddkhonklbkaa
open Go Go.Aw

def partW (s : Schema) (out : KM) (t : List UInt8) : Int := if kindL s t = 12 then (getK t out).getD 0 else 1
def sumN (s : Schema) (out : KM) (ps : List SField) : Nat → Int
  | 0 => 1
  | k + 1 => if 1000000 < sumN s out ps k + partW s out (el ps (k : Int)).type then 1000000 else sumN s out ps k + partW s out (el ps (k : Int)).type
/-- The structs of a rank, one after the other. -/
def layN (m : Mk) (rank : Int) (out : KM) : Nat → KM
  | 0 => out
  | k + 1 =>
    let o := layN m rank out k
    let x := el m.s.structs (k : Int)
    if (getK x.name o).isSome = true ∨ (getK x.name m.r).getD 0 ≠ rank then o else putK x.name (sumN m.s o (partsL m x) (partsL m x).length) o
def layL (m : Mk) (rank : Int) (out : KM) : KM := layN m rank out m.s.structs.length
/-- Ranks from 'rank' on. -/
def weighIt (m : Mk) : Nat → Int → KM → KM
  | 0, _, out => out
  | f + 1, rank, out => if out.length < m.r.length ∧ rank ≤ m.r.length then weighIt m f (rank + 1) (layL m rank out) else out
def weightsL (s : Schema) : KM := weighIt ⟨hasL s, s⟩ ((hasL s).length + 1) 1 []
def bigK (out : KM) : Prop := ∀ w v, getK w out = some v → 0 ≤ v ∧ v ≤ 1000000
theorem getD_big {out : KM} (ho : bigK out) (w : List UInt8) : 0 ≤ (getK w out).getD 0 ∧ (getK w out).getD 0 ≤ 1000000 := by
  cases hg : getK w out with
  | none => simp
  | some v => simpa using ho _ _ hg
theorem partW_big {s : Schema} {out : KM} (ho : bigK out) (t : List UInt8) : 0 ≤ partW s out t ∧ partW s out t ≤ 1000000 := by
  unfold partW
  split
  · exact getD_big ho t
  · omega
theorem sum_big {s : Schema} {out : KM} (ho : bigK out) (ps : List SField) (k : Nat) : 1 ≤ sumN s out ps k ∧ sumN s out ps k ≤ 1000000 := by
  induction k with
  | zero => exact ⟨Int.le_refl _, by show (1 : Int) ≤ _; omega⟩
  | succ k ih =>
    have := partW_big (s := s) ho (el ps (k : Int)).type
    rw [sumN]
    split <;> omega
theorem lay_big (m : Mk) (rank : Int) {out : KM} (ho : bigK out) (k : Nat) : bigK (layN m rank out k) := by
  induction k with
  | zero => exact ho
  | succ k ih =>
    rw [layN]
    split
    · exact ih
    · intro w v h
      rw [getK_put] at h
      split at h
      · cases h
        have := sum_big (s := m.s) ih (partsL m (el m.s.structs (k : Int))) (partsL m (el m.s.structs (k : Int))).length
        omega
      · exact ih w v h
theorem round_len_le (r : KM) (s : Schema) (l : List SStruct) (k : Nat) : (roundN r s l k).length ≤ r.length + k := by
  induction k with
  | zero => exact Nat.le_refl _
  | succ k ih =>
    rw [roundN]
    split
    · omega
    · split
      · rw [putK_length]; split <;> omega
      · omega
theorem hasIt_len (s : Schema) (f : Nat) : ∀ r : KM, (hasIt s f r).length ≤ r.length + f * s.structs.length := by
  induction f with
  | zero => intro r; rw [hasIt]; omega
  | succ f ih =>
    intro r
    rw [hasIt]
    split
    · rw [Nat.succ_mul]; omega
    · have h1 := ih (roundL r s)
      have h2 := round_len_le r s s.structs s.structs.length
      rw [Nat.succ_mul]
      unfold roundL at h1 ⊢
      omega
theorem hasL_len {s : Schema} (h : s.structs.length ≤ 1000000000) : (hasL s).length ≤ 1000000001000000000 := by
  have h1 := hasIt_len s (s.structs.length + 1) []
  have h2 : (s.structs.length + 1) * s.structs.length ≤ 1000000001 * 1000000000 := Nat.mul_le_mul (by omega) h
  unfold hasL
  simp at h1
  omega
theorem parts_mem {m : Mk} {x : SStruct} {p : SField} (h : p ∈ partsL m x) : p ∈ x.fields := by
  unfold partsL at h
  split at h
  · split at h
    · cases h
    · exact List.mem_of_mem_take (List.mem_of_mem_drop h)
  · exact (List.mem_filter.1 h).1
noncomputable def Sweights : Aw.Spec := .b (mkF (fun x : {x : Schema // match x with | s => okSc s} => match x with | ⟨s, _⟩ => [.p (eSc s)]) fun x => match x with | ⟨s, _⟩ => is (.fmap ((weightsL s).map eK)))
theorem injweights : ∀ x y : {x : Schema // match x with | s => okSc s}, (match x with | ⟨s, _⟩ => [.p (eSc s)] : List AV) = (match y with | ⟨s, _⟩ => [.p (eSc s)]) → x = y := by
  rintro ⟨s, _⟩ ⟨s', _⟩ h
  simp only [List.cons.injEq, AV.p.injEq, AV.fptr.injEq, PV.fro.injEq, PV.fmap.injEq, PV.c.injEq, Value.int.injEq, keys_inj, names_inj, true_and, and_true, eI_inj, eB_inj, eS_inj, str_inj, eV_inj, eF_inj, eSt_inj, eM_inj, eE_inj, eSc_inj, ints_inj, vals_inj, fields_inj, structs_inj, members_inj, enums_inj] at h
  simp_all
theorem goweights {Γ : Specs} {D : Types} {n0 : Nat} {t0 : List (Nat × AV)} {H0 : Heap} {u0 : List Nat} {K0 : Kn} {d0 : Nat} {ss : List SStruct} {se : List SEnum} {sv : List PV} (hg : Aw.look Γ 12 = some Sweights) (hd : d0 < n0) (hp : okSc (⟨ss, se, sv⟩ : Schema)) (hK : K0.k ⟨(d0, .p (.fmap ((weightsL (⟨ss, se, sv⟩ : Schema)).map eK))) :: t0, H0, u0⟩) : @CallG Γ D n0 12 [.p (.agg [.fro 3 (ss.map eSt), .fro 2 (se.map eE), .fro 2 sv])] ⟨t0, H0, u0⟩ (some d0) K0 := by
  have h := call_mk (Γ := Γ) (D := D) (n := n0) (s := ⟨t0, H0, u0⟩) (K := K0) (d := some d0) hg injweights ⟨(⟨ss, se, sv⟩ : Schema), hp⟩ (by simp [AV.idsL, AV.ids])
  simp only [eV_mk, eI, eS, eB, eSc, eSt, eE, eF, eM] at h
  rw [h]; refine CallA_go hd ?_; exact hK
theorem okweights : Sweights.OK Try.prog 12 := by
  refine mkF_ok (fun x => ?_) (fun x => ⟨_, rfl⟩)
  obtain ⟨s, hs⟩ := x
  simp only at hs
  have hlen := hasL_len hs.1
  have hs1 := hs.1
  refine spec_w (Γ := [(10, Shas), (29, Sparts), (30, Skind)]) Dt_ok (.cons okhas (.cons okparts (.cons okkind .nil))) mixed [] [.tmp 2] Try.func12 rfl rfl Try.ntmps12 rfl rfl fun hg => ?_
  clear hg
  repeat' (first | ((with_reducible refine Brn.mk (fun h => ?_) (fun h => ?_)) <;> (simp only [Un_u, h]; try simp only [decide_eq_true_eq, decide_eq_false_iff_not, beq_iff_eq, bne_iff_ne, ne_eq, beq_eq_false_iff_ne, bne_eq_false_iff_eq, Bool.not_eq_true', Bool.not_eq_false', Bool.not_eq_true, Int.not_lt, Int.not_le, gt_iff_lt, ge_iff_le, not_true_eq_false, not_false_eq_true] at h)) | ((with_reducible refine Req.mk ?_ ?_); (· first | ((with_reducible apply chkB); (· rfl); (· simp only [go_sem, Nat.reduceLT, Nat.reduceLeDiff, Nat.reduceEqDiff, Nat.reduceAdd, Nat.reduceSub, Nat.reduceMul, Nat.reduceBEq, Nat.reduceBNe, reduceIte, reduceCtorEq, Int.reduceToNat, Int.reduceLT, Int.reduceLE, Int.reduceEq, Int.reduceAdd, Int.reduceSub, Int.reduceNeg, Int.reduceMul, Int.reduceNegSucc])) | ((with_reducible apply ChkA_guard); (with_reducible apply chkB); (· rfl); (· simp only [go_sem, Nat.reduceLT, Nat.reduceLeDiff, Nat.reduceEqDiff, Nat.reduceAdd, Nat.reduceSub, Nat.reduceMul, Nat.reduceBEq, Nat.reduceBNe, reduceIte, reduceCtorEq, Int.reduceToNat, Int.reduceLT, Int.reduceLE, Int.reduceEq, Int.reduceAdd, Int.reduceSub, Int.reduceNeg, Int.reduceMul, Int.reduceNegSucc])))) | ((with_reducible apply gohas); (· rfl); (· omega); (· exact hs)) | ((with_reducible apply Draw.hit); (with_reducible refine Draw.mix 15 [[], [0], [], [0, 1, 2], [0, 1, 2, 3], [0, 1, 2, 3, 4]] [none, none, none, none, some ([119], []), none] ?_ ?_ ?_ ?_ ?_); (· rfl); (· kernel_rfl); (· kernel_rfl); (· kernel_rfl)) | ((with_reducible apply Draw.hit); (with_reducible refine Draw.mix 21 [[], [0], [], [2], [2, 3], [2, 3, 4], [0, 1, 2, 3, 4, 5], [0, 1, 2, 3, 4, 5, 6], [0, 1, 2, 3, 4, 5, 6, 7], [0, 1, 2, 3, 4, 5, 6, 7, 8], [0, 1, 2, 3, 4, 5, 6, 7, 8], [0, 1, 2, 3, 4, 5, 6, 7, 8, 10], [0, 1, 2, 3, 4, 5, 6, 7, 8, 10, 11], [0, 1, 2, 3, 4, 5, 6, 7, 8, 10, 11, 12], [0, 1, 2, 3, 4, 5, 6, 7, 8, 10, 11, 12, 13], [0, 1, 2, 3, 4, 5, 6, 7, 8, 9, 10, 11, 12, 13, 14], [0, 1, 2, 3, 4, 5, 6, 7, 8, 9, 10, 11, 12, 13, 14, 15]] [none, none, none, none, none, none, none, none, none, none, none, none, none, none, none, none, none] ?_ ?_ ?_ ?_ ?_); (· rfl); (· kernel_rfl); (· kernel_rfl); (· kernel_rfl)) | ((with_reducible apply Draw.hit); (with_reducible refine Draw.mix 54 [[], [0], [0, 1], [0, 1, 2], [0, 1, 2, 3], [0, 1, 2, 3, 4], [0, 1], [0, 1, 6], [0, 1, 2, 3, 4, 5, 6, 7], [0, 1], [0, 1, 2, 3, 4, 5, 6, 7, 8, 9], [0, 1, 2, 3, 4, 5, 6, 7, 8, 9, 10]] [none, none, none, none, none, none, none, none, none, none, none, none] ?_ ?_ ?_ ?_ ?_); (· rfl); (· kernel_rfl); (· kernel_rfl); (· kernel_rfl)) | ((with_reducible refine Req.mk ?_ ?_); (· first | (first | ((with_reducible refine of_eq_true (chk_op ?_ ?_)); (· rfl); (· simp only [go_sem, Nat.reduceLT, Nat.reduceLeDiff, Nat.reduceEqDiff, Nat.reduceAdd, Nat.reduceSub, Nat.reduceMul, Nat.reduceBEq, Nat.reduceBNe, reduceIte, reduceCtorEq, Int.reduceToNat, Int.reduceLT, Int.reduceLE, Int.reduceEq, Int.reduceAdd, Int.reduceSub, Int.reduceNeg, Int.reduceMul, Int.reduceNegSucc])) | ((with_reducible refine of_eq_true (chk_op_g ?_ ?_)); (· rfl); (· simp only [go_sem, Nat.reduceLT, Nat.reduceLeDiff, Nat.reduceEqDiff, Nat.reduceAdd, Nat.reduceSub, Nat.reduceMul, Nat.reduceBEq, Nat.reduceBNe, reduceIte, reduceCtorEq, Int.reduceToNat, Int.reduceLT, Int.reduceLE, Int.reduceEq, Int.reduceAdd, Int.reduceSub, Int.reduceNeg, Int.reduceMul, Int.reduceNegSucc]))) | (first | omega | (simp (disch := omega) only [wrap_i64, wrap_i32, wrap_u8, wrap_u16]; omega) | (simp only [go_sem, Nat.reduceLT, Nat.reduceLeDiff, Nat.reduceEqDiff, Nat.reduceAdd, Nat.reduceSub, Nat.reduceMul, Nat.reduceBEq, Nat.reduceBNe, reduceIte, reduceCtorEq, Int.reduceToNat, Int.reduceLT, Int.reduceLE, Int.reduceEq, Int.reduceAdd, Int.reduceSub, Int.reduceNeg, Int.reduceMul, Int.reduceNegSucc]; omega) | (simp only [go_sem, *, Nat.reduceLT, Nat.reduceLeDiff, Nat.reduceEqDiff, Nat.reduceAdd, Nat.reduceSub, Nat.reduceMul, Nat.reduceBEq, Nat.reduceBNe, reduceIte, reduceCtorEq, Int.reduceToNat, Int.reduceLT, Int.reduceLE, Int.reduceEq, Int.reduceAdd, Int.reduceSub, Int.reduceNeg, Int.reduceMul, Int.reduceNegSucc]; done)))) | simp only [go_sem, Nat.reduceLT, Nat.reduceLeDiff, Nat.reduceEqDiff, Nat.reduceAdd, Nat.reduceSub, Nat.reduceMul, Nat.reduceBEq, Nat.reduceBNe, reduceIte, reduceCtorEq, Int.reduceToNat, Int.reduceLT, Int.reduceLE, Int.reduceEq, Int.reduceAdd, Int.reduceSub, Int.reduceNeg, Int.reduceMul, Int.reduceNegSucc] | simp (disch := omega) only [wrap_i64, wrap_i32, wrap_u8, wrap_u16])
  generalize hr : hasL s = r at hlen
  have hW : weightsL s = weighIt ⟨r, s⟩ (r.length + 1) 1 [] := by rw [weightsL, hr]
  refine Aw.Loop.mk (X := {x : Int × KM // ∃ f : Nat, x.1 + f = r.length + 2 ∧ weighIt ⟨r, s⟩ f x.1 x.2 = weightsL s ∧ bigK x.2 ∧ 1 ≤ x.1}) (fun x => ⟨[(5, .p (eI x.1.1)), (4, .mp 150), (3, .fptr [.fmap (r.map eK), .fro 3 (s.structs.map eSt), .fro 2 (s.enums.map eE), .fro 2 s.services]), (1, .ptr 101 0)], [(101, some (.row 28 3 [.p (.fro 3 (s.structs.map eSt)), .p (.fro 2 (s.enums.map eE)), .p (.fro 2 s.services)])), (150, some (.map (x.1.2.map eK)))], [101, 150]⟩)
    (fun x => (r.length + 2 - x.1.1).toNat) ⟨(1, []), r.length + 1, by simp only; omega, hW.symm, (fun w v h => by cases h), by simp only; omega⟩ (LeS.trans (LeS.frzP 3 119 [.fmap (r.map eK), .fro 3 (s.structs.map eSt), .fro 2 (s.enums.map eE), .fro 2 s.services] rfl rfl (by simp [PV.one])) (LeS.via [(150, 120)] (by simp [go_sem, eq_self]) (by simp [go_sem, eq_self]) (by simp [go_sem, eq_self]) (by simp [go_sem, eq_self]) (by simp [go_sem, eq_self]) (by simp [go_sem]) (by simp [go_sem, eq_self]))) ?_
  rintro ⟨⟨rank, out⟩, f, hf1, hf2, hf3, hf4⟩
  simp only at hf1 hf2 hf3 hf4
  simp only
  have hfin : ¬ (out.length < r.length ∧ rank ≤ r.length) → weightsL s = out := fun h => by
    rw [← hf2]
    cases f with
    | zero => rfl
    | succ f => rw [weighIt, if_neg h]
  repeat' (first | ((with_reducible refine Brn.mk (fun h => ?_) (fun h => ?_)) <;> (simp only [Un_u, h]; try simp only [decide_eq_true_eq, decide_eq_false_iff_not, beq_iff_eq, bne_iff_ne, ne_eq, beq_eq_false_iff_ne, bne_eq_false_iff_eq, Bool.not_eq_true', Bool.not_eq_false', Bool.not_eq_true, Int.not_lt, Int.not_le, gt_iff_lt, ge_iff_le, not_true_eq_false, not_false_eq_true] at h)) | ((with_reducible refine Req.mk ?_ ?_); (· first | ((with_reducible apply chkB); (· rfl); (· simp only [go_sem, Nat.reduceLT, Nat.reduceLeDiff, Nat.reduceEqDiff, Nat.reduceAdd, Nat.reduceSub, Nat.reduceMul, Nat.reduceBEq, Nat.reduceBNe, reduceIte, reduceCtorEq, Int.reduceToNat, Int.reduceLT, Int.reduceLE, Int.reduceEq, Int.reduceAdd, Int.reduceSub, Int.reduceNeg, Int.reduceMul, Int.reduceNegSucc])) | ((with_reducible apply ChkA_guard); (with_reducible apply chkB); (· rfl); (· simp only [go_sem, Nat.reduceLT, Nat.reduceLeDiff, Nat.reduceEqDiff, Nat.reduceAdd, Nat.reduceSub, Nat.reduceMul, Nat.reduceBEq, Nat.reduceBNe, reduceIte, reduceCtorEq, Int.reduceToNat, Int.reduceLT, Int.reduceLE, Int.reduceEq, Int.reduceAdd, Int.reduceSub, Int.reduceNeg, Int.reduceMul, Int.reduceNegSucc])))) | ((with_reducible apply Draw.hit); (with_reducible refine Draw.mix 15 [[], [0], [], [0, 1, 2], [0, 1, 2, 3], [0, 1, 2, 3, 4]] [none, none, none, none, some ([119], []), none] ?_ ?_ ?_ ?_ ?_); (· rfl); (· kernel_rfl); (· kernel_rfl); (· kernel_rfl)) | ((with_reducible apply Draw.hit); (with_reducible refine Draw.mix 21 [[], [0], [], [2], [2, 3], [2, 3, 4], [0, 1, 2, 3, 4, 5], [0, 1, 2, 3, 4, 5, 6], [0, 1, 2, 3, 4, 5, 6, 7], [0, 1, 2, 3, 4, 5, 6, 7, 8], [0, 1, 2, 3, 4, 5, 6, 7, 8], [0, 1, 2, 3, 4, 5, 6, 7, 8, 10], [0, 1, 2, 3, 4, 5, 6, 7, 8, 10, 11], [0, 1, 2, 3, 4, 5, 6, 7, 8, 10, 11, 12], [0, 1, 2, 3, 4, 5, 6, 7, 8, 10, 11, 12, 13], [0, 1, 2, 3, 4, 5, 6, 7, 8, 9, 10, 11, 12, 13, 14], [0, 1, 2, 3, 4, 5, 6, 7, 8, 9, 10, 11, 12, 13, 14, 15]] [none, none, none, none, none, none, none, none, none, none, none, none, none, none, none, none, none] ?_ ?_ ?_ ?_ ?_); (· rfl); (· kernel_rfl); (· kernel_rfl); (· kernel_rfl)) | ((with_reducible apply Draw.hit); (with_reducible refine Draw.mix 54 [[], [0], [0, 1], [0, 1, 2], [0, 1, 2, 3], [0, 1, 2, 3, 4], [0, 1], [0, 1, 6], [0, 1, 2, 3, 4, 5, 6, 7], [0, 1], [0, 1, 2, 3, 4, 5, 6, 7, 8, 9], [0, 1, 2, 3, 4, 5, 6, 7, 8, 9, 10]] [none, none, none, none, none, none, none, none, none, none, none, none] ?_ ?_ ?_ ?_ ?_); (· rfl); (· kernel_rfl); (· kernel_rfl); (· kernel_rfl)) | ((with_reducible refine Req.mk ?_ ?_); (· first | (first | ((with_reducible refine of_eq_true (chk_op ?_ ?_)); (· rfl); (· simp only [go_sem, Nat.reduceLT, Nat.reduceLeDiff, Nat.reduceEqDiff, Nat.reduceAdd, Nat.reduceSub, Nat.reduceMul, Nat.reduceBEq, Nat.reduceBNe, reduceIte, reduceCtorEq, Int.reduceToNat, Int.reduceLT, Int.reduceLE, Int.reduceEq, Int.reduceAdd, Int.reduceSub, Int.reduceNeg, Int.reduceMul, Int.reduceNegSucc])) | ((with_reducible refine of_eq_true (chk_op_g ?_ ?_)); (· rfl); (· simp only [go_sem, Nat.reduceLT, Nat.reduceLeDiff, Nat.reduceEqDiff, Nat.reduceAdd, Nat.reduceSub, Nat.reduceMul, Nat.reduceBEq, Nat.reduceBNe, reduceIte, reduceCtorEq, Int.reduceToNat, Int.reduceLT, Int.reduceLE, Int.reduceEq, Int.reduceAdd, Int.reduceSub, Int.reduceNeg, Int.reduceMul, Int.reduceNegSucc]))) | (first | omega | (simp (disch := omega) only [wrap_i64, wrap_i32, wrap_u8, wrap_u16]; omega) | (simp only [go_sem, Nat.reduceLT, Nat.reduceLeDiff, Nat.reduceEqDiff, Nat.reduceAdd, Nat.reduceSub, Nat.reduceMul, Nat.reduceBEq, Nat.reduceBNe, reduceIte, reduceCtorEq, Int.reduceToNat, Int.reduceLT, Int.reduceLE, Int.reduceEq, Int.reduceAdd, Int.reduceSub, Int.reduceNeg, Int.reduceMul, Int.reduceNegSucc]; omega) | (simp only [go_sem, *, Nat.reduceLT, Nat.reduceLeDiff, Nat.reduceEqDiff, Nat.reduceAdd, Nat.reduceSub, Nat.reduceMul, Nat.reduceBEq, Nat.reduceBNe, reduceIte, reduceCtorEq, Int.reduceToNat, Int.reduceLT, Int.reduceLE, Int.reduceEq, Int.reduceAdd, Int.reduceSub, Int.reduceNeg, Int.reduceMul, Int.reduceNegSucc]; done)))) | simp only [go_sem, Nat.reduceLT, Nat.reduceLeDiff, Nat.reduceEqDiff, Nat.reduceAdd, Nat.reduceSub, Nat.reduceMul, Nat.reduceBEq, Nat.reduceBNe, reduceIte, reduceCtorEq, Int.reduceToNat, Int.reduceLT, Int.reduceLE, Int.reduceEq, Int.reduceAdd, Int.reduceSub, Int.reduceNeg, Int.reduceMul, Int.reduceNegSucc] | simp (disch := omega) only [wrap_i64, wrap_i32, wrap_u8, wrap_u16])
  · refine Aw.Loop.mk (X := {k : Nat // k ≤ s.structs.length}) (fun k => ⟨[(43, .p (eI k.1)), (42, .p (eI s.structs.length)), (41, .p (.fro 3 (s.structs.map eSt))), (5, .p (eI rank)), (4, .mp 150), (3, .fptr [.fmap (r.map eK), .fro 3 (s.structs.map eSt), .fro 2 (s.enums.map eE), .fro 2 s.services]), (1, .ptr 101 0)], [(101, some (.row 28 3 [.p (.fro 3 (s.structs.map eSt)), .p (.fro 2 (s.enums.map eE)), .p (.fro 2 s.services)])), (150, some (.map ((layN ⟨r, s⟩ rank out k.1).map eK)))], [101, 150]⟩)
      (fun k => s.structs.length - k.1) ⟨0, by omega⟩ (LeS.less (by simp [go_sem, layN]) (by simp [go_sem, layN]) (by simp [go_sem, layN]) (by simp [go_sem, layN]) (by simp [go_sem, layN])) ?_
    rintro ⟨k, hk⟩
    have hob := lay_big ⟨r, s⟩ rank hf3 k
    simp only
    repeat' (first | ((with_reducible refine Brn.mk (fun h => ?_) (fun h => ?_)) <;> (simp only [Un_u, h]; try simp only [decide_eq_true_eq, decide_eq_false_iff_not, beq_iff_eq, bne_iff_ne, ne_eq, beq_eq_false_iff_ne, bne_eq_false_iff_eq, Bool.not_eq_true', Bool.not_eq_false', Bool.not_eq_true, Int.not_lt, Int.not_le, gt_iff_lt, ge_iff_le, not_true_eq_false, not_false_eq_true] at h)) | ((with_reducible refine Req.mk ?_ ?_); (· first | ((with_reducible apply chkB); (· rfl); (· simp only [go_sem, Nat.reduceLT, Nat.reduceLeDiff, Nat.reduceEqDiff, Nat.reduceAdd, Nat.reduceSub, Nat.reduceMul, Nat.reduceBEq, Nat.reduceBNe, reduceIte, reduceCtorEq, Int.reduceToNat, Int.reduceLT, Int.reduceLE, Int.reduceEq, Int.reduceAdd, Int.reduceSub, Int.reduceNeg, Int.reduceMul, Int.reduceNegSucc])) | ((with_reducible apply ChkA_guard); (with_reducible apply chkB); (· rfl); (· simp only [go_sem, Nat.reduceLT, Nat.reduceLeDiff, Nat.reduceEqDiff, Nat.reduceAdd, Nat.reduceSub, Nat.reduceMul, Nat.reduceBEq, Nat.reduceBNe, reduceIte, reduceCtorEq, Int.reduceToNat, Int.reduceLT, Int.reduceLE, Int.reduceEq, Int.reduceAdd, Int.reduceSub, Int.reduceNeg, Int.reduceMul, Int.reduceNegSucc])))) | ((with_reducible apply goparts); (· rfl); (· omega); (· exact hs.2 _ (el_mem (by omega)))) | ((with_reducible apply Draw.hit); (with_reducible refine Draw.mix 15 [[], [0], [], [0, 1, 2], [0, 1, 2, 3], [0, 1, 2, 3, 4]] [none, none, none, none, some ([119], []), none] ?_ ?_ ?_ ?_ ?_); (· rfl); (· kernel_rfl); (· kernel_rfl); (· kernel_rfl)) | ((with_reducible apply Draw.hit); (with_reducible refine Draw.mix 21 [[], [0], [], [2], [2, 3], [2, 3, 4], [0, 1, 2, 3, 4, 5], [0, 1, 2, 3, 4, 5, 6], [0, 1, 2, 3, 4, 5, 6, 7], [0, 1, 2, 3, 4, 5, 6, 7, 8], [0, 1, 2, 3, 4, 5, 6, 7, 8], [0, 1, 2, 3, 4, 5, 6, 7, 8, 10], [0, 1, 2, 3, 4, 5, 6, 7, 8, 10, 11], [0, 1, 2, 3, 4, 5, 6, 7, 8, 10, 11, 12], [0, 1, 2, 3, 4, 5, 6, 7, 8, 10, 11, 12, 13], [0, 1, 2, 3, 4, 5, 6, 7, 8, 9, 10, 11, 12, 13, 14], [0, 1, 2, 3, 4, 5, 6, 7, 8, 9, 10, 11, 12, 13, 14, 15]] [none, none, none, none, none, none, none, none, none, none, none, none, none, none, none, none, none] ?_ ?_ ?_ ?_ ?_); (· rfl); (· kernel_rfl); (· kernel_rfl); (· kernel_rfl)) | ((with_reducible apply Draw.hit); (with_reducible refine Draw.mix 54 [[], [0], [0, 1], [0, 1, 2], [0, 1, 2, 3], [0, 1, 2, 3, 4], [0, 1], [0, 1, 6], [0, 1, 2, 3, 4, 5, 6, 7], [0, 1], [0, 1, 2, 3, 4, 5, 6, 7, 8, 9], [0, 1, 2, 3, 4, 5, 6, 7, 8, 9, 10]] [none, none, none, none, none, none, none, none, none, none, none, none] ?_ ?_ ?_ ?_ ?_); (· rfl); (· kernel_rfl); (· kernel_rfl); (· kernel_rfl)) | ((with_reducible refine Req.mk ?_ ?_); (· first | (first | ((with_reducible refine of_eq_true (chk_op ?_ ?_)); (· rfl); (· simp only [go_sem, Nat.reduceLT, Nat.reduceLeDiff, Nat.reduceEqDiff, Nat.reduceAdd, Nat.reduceSub, Nat.reduceMul, Nat.reduceBEq, Nat.reduceBNe, reduceIte, reduceCtorEq, Int.reduceToNat, Int.reduceLT, Int.reduceLE, Int.reduceEq, Int.reduceAdd, Int.reduceSub, Int.reduceNeg, Int.reduceMul, Int.reduceNegSucc])) | ((with_reducible refine of_eq_true (chk_op_g ?_ ?_)); (· rfl); (· simp only [go_sem, Nat.reduceLT, Nat.reduceLeDiff, Nat.reduceEqDiff, Nat.reduceAdd, Nat.reduceSub, Nat.reduceMul, Nat.reduceBEq, Nat.reduceBNe, reduceIte, reduceCtorEq, Int.reduceToNat, Int.reduceLT, Int.reduceLE, Int.reduceEq, Int.reduceAdd, Int.reduceSub, Int.reduceNeg, Int.reduceMul, Int.reduceNegSucc]))) | (first | omega | (simp (disch := omega) only [wrap_i64, wrap_i32, wrap_u8, wrap_u16]; omega) | (simp only [go_sem, Nat.reduceLT, Nat.reduceLeDiff, Nat.reduceEqDiff, Nat.reduceAdd, Nat.reduceSub, Nat.reduceMul, Nat.reduceBEq, Nat.reduceBNe, reduceIte, reduceCtorEq, Int.reduceToNat, Int.reduceLT, Int.reduceLE, Int.reduceEq, Int.reduceAdd, Int.reduceSub, Int.reduceNeg, Int.reduceMul, Int.reduceNegSucc]; omega) | (simp only [go_sem, *, Nat.reduceLT, Nat.reduceLeDiff, Nat.reduceEqDiff, Nat.reduceAdd, Nat.reduceSub, Nat.reduceMul, Nat.reduceBEq, Nat.reduceBNe, reduceIte, reduceCtorEq, Int.reduceToNat, Int.reduceLT, Int.reduceLE, Int.reduceEq, Int.reduceAdd, Int.reduceSub, Int.reduceNeg, Int.reduceMul, Int.reduceNegSucc]; done)))) | simp only [go_sem, Nat.reduceLT, Nat.reduceLeDiff, Nat.reduceEqDiff, Nat.reduceAdd, Nat.reduceSub, Nat.reduceMul, Nat.reduceBEq, Nat.reduceBNe, reduceIte, reduceCtorEq, Int.reduceToNat, Int.reduceLT, Int.reduceLE, Int.reduceEq, Int.reduceAdd, Int.reduceSub, Int.reduceNeg, Int.reduceMul, Int.reduceNegSucc] | simp (disch := omega) only [wrap_i64, wrap_i32, wrap_u8, wrap_u16])
    · rename_i h1 h2 h3
      have hn : layN ⟨r, s⟩ rank out (k + 1) = layN ⟨r, s⟩ rank out k := by rw [layN]; simp only; rw [if_pos (.inl h)]
      exact ⟨⟨k + 1, by omega⟩, by simp only; omega, (LeS.less (by simp [go_sem, hn]) (by simp [go_sem, hn]) (by simp [go_sem, hn]) (by simp [go_sem, hn]) (by simp [go_sem, hn]))⟩
    · rename_i h1 h2 h3 h4
      have hn : layN ⟨r, s⟩ rank out (k + 1) = layN ⟨r, s⟩ rank out k := by rw [layN]; simp only; rw [if_pos (.inr h)]
      exact ⟨⟨k + 1, by omega⟩, by simp only; omega, (LeS.less (by simp [go_sem, hn]) (by simp [go_sem, hn]) (by simp [go_sem, hn]) (by simp [go_sem, hn]) (by simp [go_sem, hn]))⟩
    · rename_i h1 h2 h3 h4
      have hxm : el s.structs (k : Int) ∈ s.structs := el_mem (by omega)
      have hxf := hs.2 _ hxm
      have hn : layN ⟨r, s⟩ rank out (k + 1) = putK (el s.structs (k : Int)).name (sumN s (layN ⟨r, s⟩ rank out k) (partsL ⟨r, s⟩ (el s.structs (k : Int))) (partsL ⟨r, s⟩ (el s.structs (k : Int))).length) (layN ⟨r, s⟩ rank out k) := by
        rw [layN]; simp only; rw [if_neg (by rw [h4]; simp [h])]
      have hpl := parts_len ⟨r, s⟩ (el s.structs (k : Int))
      have hpl1 := hxf.1
      generalize hps : partsL ⟨r, s⟩ (el s.structs (k : Int)) = ps at hn hpl
      have hpm : ∀ p ∈ ps, p.type.length ≤ 1000000000 := fun p hp => hxf.2 p (parts_mem (by rw [hps]; exact hp))
      generalize layN ⟨r, s⟩ rank out k = o at hn hob
      generalize el s.structs (k : Int) = x at hn
      refine Aw.Loop.mk (X := {j : Nat // j ≤ ps.length}) (fun j => ⟨[(70, .p (eI j.1)), (69, .p (eI ps.length)), (68, .p (.fro 10 (ps.map eF))), (10, .p (eI (sumN s o ps j.1))), (43, .p (eI k)), (42, .p (eI s.structs.length)), (41, .p (.fro 3 (s.structs.map eSt))), (7, .ptr 107 0), (5, .p (eI rank)), (4, .mp 150), (3, .fptr [.fmap (r.map eK), .fro 3 (s.structs.map eSt), .fro 2 (s.enums.map eE), .fro 2 s.services]), (1, .ptr 101 0)],
        [(101, some (.row 28 3 [.p (.fro 3 (s.structs.map eSt)), .p (.fro 2 (s.enums.map eE)), .p (.fro 2 s.services)])), (107, some (.row 34 3 [.p (eI x.kind), .p (eS x.name), .p (.fro 10 (x.fields.map eF))])), (150, some (.map (o.map eK)))], [101, 107, 150]⟩)
        (fun j => ps.length - j.1) ⟨0, by omega⟩ (LeS.less (by simp [go_sem, sumN]) (by simp [go_sem, sumN]) (by simp [go_sem, sumN]) (by simp [go_sem, sumN]) (by simp [go_sem, sumN])) ?_
      rintro ⟨j, hj⟩
      have hb1 := sum_big (s := s) hob ps j
      have hb2 := getD_big hob (el ps (j : Int)).type
      simp only
      repeat' (first | ((with_reducible refine Brn.mk (fun h => ?_) (fun h => ?_)) <;> (simp only [Un_u, h]; try simp only [decide_eq_true_eq, decide_eq_false_iff_not, beq_iff_eq, bne_iff_ne, ne_eq, beq_eq_false_iff_ne, bne_eq_false_iff_eq, Bool.not_eq_true', Bool.not_eq_false', Bool.not_eq_true, Int.not_lt, Int.not_le, gt_iff_lt, ge_iff_le, not_true_eq_false, not_false_eq_true] at h)) | ((with_reducible refine Req.mk ?_ ?_); (· first | ((with_reducible apply chkB); (· rfl); (· simp only [go_sem, Nat.reduceLT, Nat.reduceLeDiff, Nat.reduceEqDiff, Nat.reduceAdd, Nat.reduceSub, Nat.reduceMul, Nat.reduceBEq, Nat.reduceBNe, reduceIte, reduceCtorEq, Int.reduceToNat, Int.reduceLT, Int.reduceLE, Int.reduceEq, Int.reduceAdd, Int.reduceSub, Int.reduceNeg, Int.reduceMul, Int.reduceNegSucc])) | ((with_reducible apply ChkA_guard); (with_reducible apply chkB); (· rfl); (· simp only [go_sem, Nat.reduceLT, Nat.reduceLeDiff, Nat.reduceEqDiff, Nat.reduceAdd, Nat.reduceSub, Nat.reduceMul, Nat.reduceBEq, Nat.reduceBNe, reduceIte, reduceCtorEq, Int.reduceToNat, Int.reduceLT, Int.reduceLE, Int.reduceEq, Int.reduceAdd, Int.reduceSub, Int.reduceNeg, Int.reduceMul, Int.reduceNegSucc])))) | ((with_reducible apply gokind); (· rfl); (· omega); (· exact hpm _ (el_mem (by omega)))) | ((with_reducible apply Draw.hit); (with_reducible refine Draw.mix 15 [[], [0], [], [0, 1, 2], [0, 1, 2, 3], [0, 1, 2, 3, 4]] [none, none, none, none, some ([119], []), none] ?_ ?_ ?_ ?_ ?_); (· rfl); (· kernel_rfl); (· kernel_rfl); (· kernel_rfl)) | ((with_reducible apply Draw.hit); (with_reducible refine Draw.mix 21 [[], [0], [], [2], [2, 3], [2, 3, 4], [0, 1, 2, 3, 4, 5], [0, 1, 2, 3, 4, 5, 6], [0, 1, 2, 3, 4, 5, 6, 7], [0, 1, 2, 3, 4, 5, 6, 7, 8], [0, 1, 2, 3, 4, 5, 6, 7, 8], [0, 1, 2, 3, 4, 5, 6, 7, 8, 10], [0, 1, 2, 3, 4, 5, 6, 7, 8, 10, 11], [0, 1, 2, 3, 4, 5, 6, 7, 8, 10, 11, 12], [0, 1, 2, 3, 4, 5, 6, 7, 8, 10, 11, 12, 13], [0, 1, 2, 3, 4, 5, 6, 7, 8, 9, 10, 11, 12, 13, 14], [0, 1, 2, 3, 4, 5, 6, 7, 8, 9, 10, 11, 12, 13, 14, 15]] [none, none, none, none, none, none, none, none, none, none, none, none, none, none, none, none, none] ?_ ?_ ?_ ?_ ?_); (· rfl); (· kernel_rfl); (· kernel_rfl); (· kernel_rfl)) | ((with_reducible apply Draw.hit); (with_reducible refine Draw.mix 54 [[], [0], [0, 1], [0, 1, 2], [0, 1, 2, 3], [0, 1, 2, 3, 4], [0, 1], [0, 1, 6], [0, 1, 2, 3, 4, 5, 6, 7], [0, 1], [0, 1, 2, 3, 4, 5, 6, 7, 8, 9], [0, 1, 2, 3, 4, 5, 6, 7, 8, 9, 10]] [none, none, none, none, none, none, none, none, none, none, none, none] ?_ ?_ ?_ ?_ ?_); (· rfl); (· kernel_rfl); (· kernel_rfl); (· kernel_rfl)) | ((with_reducible refine Req.mk ?_ ?_); (· first | (first | ((with_reducible refine of_eq_true (chk_op ?_ ?_)); (· rfl); (· simp only [go_sem, Nat.reduceLT, Nat.reduceLeDiff, Nat.reduceEqDiff, Nat.reduceAdd, Nat.reduceSub, Nat.reduceMul, Nat.reduceBEq, Nat.reduceBNe, reduceIte, reduceCtorEq, Int.reduceToNat, Int.reduceLT, Int.reduceLE, Int.reduceEq, Int.reduceAdd, Int.reduceSub, Int.reduceNeg, Int.reduceMul, Int.reduceNegSucc])) | ((with_reducible refine of_eq_true (chk_op_g ?_ ?_)); (· rfl); (· simp only [go_sem, Nat.reduceLT, Nat.reduceLeDiff, Nat.reduceEqDiff, Nat.reduceAdd, Nat.reduceSub, Nat.reduceMul, Nat.reduceBEq, Nat.reduceBNe, reduceIte, reduceCtorEq, Int.reduceToNat, Int.reduceLT, Int.reduceLE, Int.reduceEq, Int.reduceAdd, Int.reduceSub, Int.reduceNeg, Int.reduceMul, Int.reduceNegSucc]))) | (first | omega | (simp (disch := omega) only [wrap_i64, wrap_i32, wrap_u8, wrap_u16]; omega) | (simp only [go_sem, Nat.reduceLT, Nat.reduceLeDiff, Nat.reduceEqDiff, Nat.reduceAdd, Nat.reduceSub, Nat.reduceMul, Nat.reduceBEq, Nat.reduceBNe, reduceIte, reduceCtorEq, Int.reduceToNat, Int.reduceLT, Int.reduceLE, Int.reduceEq, Int.reduceAdd, Int.reduceSub, Int.reduceNeg, Int.reduceMul, Int.reduceNegSucc]; omega) | (simp only [go_sem, *, Nat.reduceLT, Nat.reduceLeDiff, Nat.reduceEqDiff, Nat.reduceAdd, Nat.reduceSub, Nat.reduceMul, Nat.reduceBEq, Nat.reduceBNe, reduceIte, reduceCtorEq, Int.reduceToNat, Int.reduceLT, Int.reduceLE, Int.reduceEq, Int.reduceAdd, Int.reduceSub, Int.reduceNeg, Int.reduceMul, Int.reduceNegSucc]; done)))) | simp only [go_sem, Nat.reduceLT, Nat.reduceLeDiff, Nat.reduceEqDiff, Nat.reduceAdd, Nat.reduceSub, Nat.reduceMul, Nat.reduceBEq, Nat.reduceBNe, reduceIte, reduceCtorEq, Int.reduceToNat, Int.reduceLT, Int.reduceLE, Int.reduceEq, Int.reduceAdd, Int.reduceSub, Int.reduceNeg, Int.reduceMul, Int.reduceNegSucc] | simp (disch := omega) only [wrap_i64, wrap_i32, wrap_u8, wrap_u16])
      · have hm : sumN s o ps (j + 1) = (if 1000000 < sumN s o ps j + (getK (el ps (j : Int)).type o).getD 0 then 1000000 else sumN s o ps j + (getK (el ps (j : Int)).type o).getD 0) := by
          rw [sumN, partW, if_pos h]
        exact ⟨⟨j + 1, by omega⟩, by simp only; omega, (LeS.less (by simp [go_sem, hm]) (by simp [go_sem, hm]) (by simp [go_sem, hm]) (by simp [go_sem, hm]) (by simp [go_sem, hm]))⟩
      · have hm : sumN s o ps (j + 1) = (if 1000000 < sumN s o ps j + 1 then 1000000 else sumN s o ps j + 1) := by
          rw [sumN, partW, if_neg h]
        exact ⟨⟨j + 1, by omega⟩, by simp only; omega, (LeS.less (by simp [go_sem, hm]) (by simp [go_sem, hm]) (by simp [go_sem, hm]) (by simp [go_sem, hm]) (by simp [go_sem, hm]))⟩
      · have hj' : j = ps.length := by omega
        subst hj'
        exact ⟨⟨k + 1, by omega⟩, by simp only; omega, (LeS.less (by simp [go_sem, hn]) (by simp [go_sem, hn]) (by simp [go_sem, hn]) (by simp [go_sem, hn]) (by simp [go_sem, hn]))⟩
    · rename_i h1 h2
      have hk' : k = s.structs.length := by omega
      subst hk'
      cases f with
      | zero => omega
      | succ f =>
        rw [weighIt, if_pos ⟨show out.length < r.length by omega, show rank ≤ (r.length : Int) by omega⟩] at hf2
        refine ⟨⟨(rank + 1, layL ⟨r, s⟩ rank out), f, by simp only; omega, hf2, hob, by simp only; omega⟩, by simp only; omega, (LeS.less (by simp [go_sem, layL]) (by simp [go_sem, layL]) (by simp [go_sem, layL]) (by simp [go_sem, layL]) (by simp [go_sem, layL]))⟩
  · rw [hfin (by omega)]
    simp [go_sem, snap]
  · rw [hfin (by omega)]
    simp [go_sem, snap]
end Go.Proofs.Ythiddkhonklbkaa

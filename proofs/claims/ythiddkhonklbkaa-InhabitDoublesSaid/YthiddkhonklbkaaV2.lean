/- Contracts: structs, enums, kinds of types (package value). -/
import Derived.Test.YthiddkhonklbkaaV1
set_option linter.unusedVariables false
set_option linter.unusedSimpArgs false
set_option maxRecDepth 20000
set_option maxHeartbeats 4000000
namespace Go.Proofs.Ythiddkhonklbkaa
open Go Go.Aw

def structL (s : Schema) (w : List UInt8) : SStruct × Bool := match s.structs.find? (fun x => x.name == w) with | some x => (x, true) | none => (⟨0, [], []⟩, false)
def enumL (s : Schema) (w : List UInt8) : SEnum × Bool := match s.enums.find? (fun x => x.name == w) with | some x => (x, true) | none => (⟨[], []⟩, false)
theorem structL_idx (s : Schema) (w : List UInt8) : structL s w = if idxF (fun x : SStruct => x.name == w) s.structs < 0 then (⟨0, [], []⟩, false) else (el s.structs (idxF (fun x : SStruct => x.name == w) s.structs), true) := by
  unfold structL
  rw [idxF_find]
  split <;> simp_all
theorem enumL_idx (s : Schema) (w : List UInt8) : enumL s w = if idxF (fun x : SEnum => x.name == w) s.enums < 0 then (⟨[], []⟩, false) else (el s.enums (idxF (fun x : SEnum => x.name == w) s.enums), true) := by
  unfold enumL
  rw [idxF_find]
  split <;> simp_all
noncomputable def Sstruct : Aw.Spec := .b (mkF (fun x : Schema × (List UInt8) => match x with | (s, w) => [.p (eSc s), .p (eS w)]) fun x => match x with | (s, w) => is (.tup [eSt (structL s w).1, eB (structL s w).2]))
theorem injstruct : ∀ x y : Schema × (List UInt8), (match x with | (s, w) => [.p (eSc s), .p (eS w)] : List AV) = (match y with | (s, w) => [.p (eSc s), .p (eS w)]) → x = y := by
  rintro ⟨s, w⟩ ⟨s', w'⟩ h
  simp only [List.cons.injEq, AV.p.injEq, AV.fptr.injEq, PV.fro.injEq, PV.fmap.injEq, PV.c.injEq, Value.int.injEq, keys_inj, names_inj, true_and, and_true, eI_inj, eB_inj, eS_inj, str_inj, eV_inj, eF_inj, eSt_inj, eM_inj, eE_inj, eSc_inj, ints_inj, vals_inj, fields_inj, structs_inj, members_inj, enums_inj] at h
  simp_all
theorem gostruct {Γ : Specs} {D : Types} {n0 : Nat} {t0 : List (Nat × AV)} {H0 : Heap} {u0 : List Nat} {K0 : Kn} {d0 : Nat} {ss : List SStruct} {se : List SEnum} {sv : List PV} {w : List UInt8} (hg : Aw.look Γ 53 = some Sstruct) (hd : d0 < n0) (hK : K0.k ⟨(d0, .p (.tup [eSt (structL (⟨ss, se, sv⟩ : Schema) w).1, eB (structL (⟨ss, se, sv⟩ : Schema) w).2])) :: t0, H0, u0⟩) : @CallG Γ D n0 53 [.p (.agg [.fro 3 (ss.map eSt), .fro 2 (se.map eE), .fro 2 sv]), .p (.c (str w))] ⟨t0, H0, u0⟩ (some d0) K0 := by
  have h := call_mk (Γ := Γ) (D := D) (n := n0) (s := ⟨t0, H0, u0⟩) (K := K0) (d := some d0) hg injstruct ((⟨ss, se, sv⟩ : Schema), w) (by simp [AV.idsL, AV.ids])
  simp only [eV_mk, eI, eS, eB, eSc, eSt, eE, eF, eM] at h
  rw [h]; refine CallA_go hd ?_; exact hK
theorem okstruct : Sstruct.OK Try.prog 53 := by
  refine mkF_ok (fun x => ?_) (fun x => ⟨_, rfl⟩)
  obtain ⟨s, w⟩ := x
  refine spec_w (Γ := [(85, SidxSt)]) Dt_ok (.cons okidxSt .nil) mixed [] [.cell 4 34, .tmp 5] Try.func53 rfl rfl Try.ntmps53 rfl rfl fun hg => ?_
  clear hg
  have h1 := idxF_ge (fun x : SStruct => x.name == w) s.structs
  have h2 := (idxF_lt (fun x : SStruct => x.name == w) s.structs).1
  have h3 := structL_idx s w
  repeat' (first | ((with_reducible refine Brn.mk (fun h => ?_) (fun h => ?_)) <;> (simp only [Un_u, h]; try simp only [decide_eq_true_eq, decide_eq_false_iff_not, beq_iff_eq, bne_iff_ne, ne_eq, beq_eq_false_iff_ne, bne_eq_false_iff_eq, Bool.not_eq_true', Bool.not_eq_false', Bool.not_eq_true, Int.not_lt, Int.not_le, gt_iff_lt, ge_iff_le, not_true_eq_false, not_false_eq_true] at h)) | ((with_reducible apply goidxSt); (· rfl); (· simp only [go_sem, Nat.reduceLT, Nat.reduceLeDiff, Nat.reduceEqDiff, Nat.reduceAdd, Nat.reduceSub, Nat.reduceMul, Nat.reduceBEq, Nat.reduceBNe, reduceIte, reduceCtorEq, Int.reduceToNat, Int.reduceLT, Int.reduceLE, Int.reduceEq, Int.reduceAdd, Int.reduceSub, Int.reduceNeg, Int.reduceMul, Int.reduceNegSucc]; try rfl); (· omega)) | ((with_reducible refine Req.mk ?_ ?_); (· first | (first | ((with_reducible refine of_eq_true (chk_op ?_ ?_)); (· rfl); (· simp only [go_sem, Nat.reduceLT, Nat.reduceLeDiff, Nat.reduceEqDiff, Nat.reduceAdd, Nat.reduceSub, Nat.reduceMul, Nat.reduceBEq, Nat.reduceBNe, reduceIte, reduceCtorEq, Int.reduceToNat, Int.reduceLT, Int.reduceLE, Int.reduceEq, Int.reduceAdd, Int.reduceSub, Int.reduceNeg, Int.reduceMul, Int.reduceNegSucc])) | ((with_reducible refine of_eq_true (chk_op_g ?_ ?_)); (· rfl); (· simp only [go_sem, Nat.reduceLT, Nat.reduceLeDiff, Nat.reduceEqDiff, Nat.reduceAdd, Nat.reduceSub, Nat.reduceMul, Nat.reduceBEq, Nat.reduceBNe, reduceIte, reduceCtorEq, Int.reduceToNat, Int.reduceLT, Int.reduceLE, Int.reduceEq, Int.reduceAdd, Int.reduceSub, Int.reduceNeg, Int.reduceMul, Int.reduceNegSucc]))) | (first | omega | (simp (disch := omega) only [wrap_i64, wrap_i32, wrap_u8, wrap_u16]; omega) | (simp only [go_sem, Nat.reduceLT, Nat.reduceLeDiff, Nat.reduceEqDiff, Nat.reduceAdd, Nat.reduceSub, Nat.reduceMul, Nat.reduceBEq, Nat.reduceBNe, reduceIte, reduceCtorEq, Int.reduceToNat, Int.reduceLT, Int.reduceLE, Int.reduceEq, Int.reduceAdd, Int.reduceSub, Int.reduceNeg, Int.reduceMul, Int.reduceNegSucc]; omega) | (simp only [go_sem, *, Nat.reduceLT, Nat.reduceLeDiff, Nat.reduceEqDiff, Nat.reduceAdd, Nat.reduceSub, Nat.reduceMul, Nat.reduceBEq, Nat.reduceBNe, reduceIte, reduceCtorEq, Int.reduceToNat, Int.reduceLT, Int.reduceLE, Int.reduceEq, Int.reduceAdd, Int.reduceSub, Int.reduceNeg, Int.reduceMul, Int.reduceNegSucc]; done)))) | simp only [go_sem, Nat.reduceLT, Nat.reduceLeDiff, Nat.reduceEqDiff, Nat.reduceAdd, Nat.reduceSub, Nat.reduceMul, Nat.reduceBEq, Nat.reduceBNe, reduceIte, reduceCtorEq, Int.reduceToNat, Int.reduceLT, Int.reduceLE, Int.reduceEq, Int.reduceAdd, Int.reduceSub, Int.reduceNeg, Int.reduceMul, Int.reduceNegSucc] | simp (disch := omega) only [wrap_i64, wrap_i32, wrap_u8, wrap_u16])
  · rw [if_pos h] at h3
    simp [RetB_gen, retF, resF, optAll, go_sem, h3]
  · rw [if_neg (by omega)] at h3
    simp [RetB_gen, retF, resF, optAll, go_sem, h3]
noncomputable def Senum : Aw.Spec := .b (mkF (fun x : Schema × (List UInt8) => match x with | (s, w) => [.p (eSc s), .p (eS w)]) fun x => match x with | (s, w) => is (.tup [eE (enumL s w).1, eB (enumL s w).2]))
theorem injenum : ∀ x y : Schema × (List UInt8), (match x with | (s, w) => [.p (eSc s), .p (eS w)] : List AV) = (match y with | (s, w) => [.p (eSc s), .p (eS w)]) → x = y := by
  rintro ⟨s, w⟩ ⟨s', w'⟩ h
  simp only [List.cons.injEq, AV.p.injEq, AV.fptr.injEq, PV.fro.injEq, PV.fmap.injEq, PV.c.injEq, Value.int.injEq, keys_inj, names_inj, true_and, and_true, eI_inj, eB_inj, eS_inj, str_inj, eV_inj, eF_inj, eSt_inj, eM_inj, eE_inj, eSc_inj, ints_inj, vals_inj, fields_inj, structs_inj, members_inj, enums_inj] at h
  simp_all
theorem goenum {Γ : Specs} {D : Types} {n0 : Nat} {t0 : List (Nat × AV)} {H0 : Heap} {u0 : List Nat} {K0 : Kn} {d0 : Nat} {ss : List SStruct} {se : List SEnum} {sv : List PV} {w : List UInt8} (hg : Aw.look Γ 54 = some Senum) (hd : d0 < n0) (hK : K0.k ⟨(d0, .p (.tup [eE (enumL (⟨ss, se, sv⟩ : Schema) w).1, eB (enumL (⟨ss, se, sv⟩ : Schema) w).2])) :: t0, H0, u0⟩) : @CallG Γ D n0 54 [.p (.agg [.fro 3 (ss.map eSt), .fro 2 (se.map eE), .fro 2 sv]), .p (.c (str w))] ⟨t0, H0, u0⟩ (some d0) K0 := by
  have h := call_mk (Γ := Γ) (D := D) (n := n0) (s := ⟨t0, H0, u0⟩) (K := K0) (d := some d0) hg injenum ((⟨ss, se, sv⟩ : Schema), w) (by simp [AV.idsL, AV.ids])
  simp only [eV_mk, eI, eS, eB, eSc, eSt, eE, eF, eM] at h
  rw [h]; refine CallA_go hd ?_; exact hK
theorem okenum : Senum.OK Try.prog 54 := by
  refine mkF_ok (fun x => ?_) (fun x => ⟨_, rfl⟩)
  obtain ⟨s, w⟩ := x
  refine spec_w (Γ := [(87, SidxEn)]) Dt_ok (.cons okidxEn .nil) mixed [] [.cell 4 84, .tmp 5] Try.func54 rfl rfl Try.ntmps54 rfl rfl fun hg => ?_
  clear hg
  have h1 := idxF_ge (fun x : SEnum => x.name == w) s.enums
  have h2 := (idxF_lt (fun x : SEnum => x.name == w) s.enums).1
  have h3 := enumL_idx s w
  repeat' (first | ((with_reducible refine Brn.mk (fun h => ?_) (fun h => ?_)) <;> (simp only [Un_u, h]; try simp only [decide_eq_true_eq, decide_eq_false_iff_not, beq_iff_eq, bne_iff_ne, ne_eq, beq_eq_false_iff_ne, bne_eq_false_iff_eq, Bool.not_eq_true', Bool.not_eq_false', Bool.not_eq_true, Int.not_lt, Int.not_le, gt_iff_lt, ge_iff_le, not_true_eq_false, not_false_eq_true] at h)) | ((with_reducible apply goidxEn); (· rfl); (· simp only [go_sem, Nat.reduceLT, Nat.reduceLeDiff, Nat.reduceEqDiff, Nat.reduceAdd, Nat.reduceSub, Nat.reduceMul, Nat.reduceBEq, Nat.reduceBNe, reduceIte, reduceCtorEq, Int.reduceToNat, Int.reduceLT, Int.reduceLE, Int.reduceEq, Int.reduceAdd, Int.reduceSub, Int.reduceNeg, Int.reduceMul, Int.reduceNegSucc]; try rfl); (· omega)) | ((with_reducible refine Req.mk ?_ ?_); (· first | (first | ((with_reducible refine of_eq_true (chk_op ?_ ?_)); (· rfl); (· simp only [go_sem, Nat.reduceLT, Nat.reduceLeDiff, Nat.reduceEqDiff, Nat.reduceAdd, Nat.reduceSub, Nat.reduceMul, Nat.reduceBEq, Nat.reduceBNe, reduceIte, reduceCtorEq, Int.reduceToNat, Int.reduceLT, Int.reduceLE, Int.reduceEq, Int.reduceAdd, Int.reduceSub, Int.reduceNeg, Int.reduceMul, Int.reduceNegSucc])) | ((with_reducible refine of_eq_true (chk_op_g ?_ ?_)); (· rfl); (· simp only [go_sem, Nat.reduceLT, Nat.reduceLeDiff, Nat.reduceEqDiff, Nat.reduceAdd, Nat.reduceSub, Nat.reduceMul, Nat.reduceBEq, Nat.reduceBNe, reduceIte, reduceCtorEq, Int.reduceToNat, Int.reduceLT, Int.reduceLE, Int.reduceEq, Int.reduceAdd, Int.reduceSub, Int.reduceNeg, Int.reduceMul, Int.reduceNegSucc]))) | (first | omega | (simp (disch := omega) only [wrap_i64, wrap_i32, wrap_u8, wrap_u16]; omega) | (simp only [go_sem, Nat.reduceLT, Nat.reduceLeDiff, Nat.reduceEqDiff, Nat.reduceAdd, Nat.reduceSub, Nat.reduceMul, Nat.reduceBEq, Nat.reduceBNe, reduceIte, reduceCtorEq, Int.reduceToNat, Int.reduceLT, Int.reduceLE, Int.reduceEq, Int.reduceAdd, Int.reduceSub, Int.reduceNeg, Int.reduceMul, Int.reduceNegSucc]; omega) | (simp only [go_sem, *, Nat.reduceLT, Nat.reduceLeDiff, Nat.reduceEqDiff, Nat.reduceAdd, Nat.reduceSub, Nat.reduceMul, Nat.reduceBEq, Nat.reduceBNe, reduceIte, reduceCtorEq, Int.reduceToNat, Int.reduceLT, Int.reduceLE, Int.reduceEq, Int.reduceAdd, Int.reduceSub, Int.reduceNeg, Int.reduceMul, Int.reduceNegSucc]; done)))) | simp only [go_sem, Nat.reduceLT, Nat.reduceLeDiff, Nat.reduceEqDiff, Nat.reduceAdd, Nat.reduceSub, Nat.reduceMul, Nat.reduceBEq, Nat.reduceBNe, reduceIte, reduceCtorEq, Int.reduceToNat, Int.reduceLT, Int.reduceLE, Int.reduceEq, Int.reduceAdd, Int.reduceSub, Int.reduceNeg, Int.reduceMul, Int.reduceNegSucc] | simp (disch := omega) only [wrap_i64, wrap_i32, wrap_u8, wrap_u16])
  · rw [if_pos h] at h3
    simp [RetB_gen, retF, resF, optAll, go_sem, h3]
  · rw [if_neg (by omega)] at h3
    simp [RetB_gen, retF, resF, optAll, go_sem, h3]
def kindL (s : Schema) (t : List UInt8) : Int :=
  if (headL t).e ≠ 0 ∨ (headL t).kind ≠ 0 then (headL t).kind
  else if (structL s (headL t).name).2 = true then 12 else if (enumL s (headL t).name).2 = true then 17 else 0
noncomputable def Skind : Aw.Spec := .b (mkF (fun x : {x : Schema × (List UInt8) // match x with | (s, w) => w.length ≤ 1000000000} => match x with | ⟨(s, w), _⟩ => [.p (eSc s), .p (eS w)]) fun x => match x with | ⟨(s, w), _⟩ => is (eI (kindL s w)))
theorem injkind : ∀ x y : {x : Schema × (List UInt8) // match x with | (s, w) => w.length ≤ 1000000000}, (match x with | ⟨(s, w), _⟩ => [.p (eSc s), .p (eS w)] : List AV) = (match y with | ⟨(s, w), _⟩ => [.p (eSc s), .p (eS w)]) → x = y := by
  rintro ⟨⟨s, w⟩, _⟩ ⟨⟨s', w'⟩, _⟩ h
  simp only [List.cons.injEq, AV.p.injEq, AV.fptr.injEq, PV.fro.injEq, PV.fmap.injEq, PV.c.injEq, Value.int.injEq, keys_inj, names_inj, true_and, and_true, eI_inj, eB_inj, eS_inj, str_inj, eV_inj, eF_inj, eSt_inj, eM_inj, eE_inj, eSc_inj, ints_inj, vals_inj, fields_inj, structs_inj, members_inj, enums_inj] at h
  simp_all
theorem gokind {Γ : Specs} {D : Types} {n0 : Nat} {t0 : List (Nat × AV)} {H0 : Heap} {u0 : List Nat} {K0 : Kn} {d0 : Nat} {ss : List SStruct} {se : List SEnum} {sv : List PV} {w : List UInt8} (hg : Aw.look Γ 30 = some Skind) (hd : d0 < n0) (hp : w.length ≤ 1000000000) (hK : K0.k ⟨(d0, .p (eI (kindL (⟨ss, se, sv⟩ : Schema) w))) :: t0, H0, u0⟩) : @CallG Γ D n0 30 [.p (.agg [.fro 3 (ss.map eSt), .fro 2 (se.map eE), .fro 2 sv]), .p (.c (str w))] ⟨t0, H0, u0⟩ (some d0) K0 := by
  have h := call_mk (Γ := Γ) (D := D) (n := n0) (s := ⟨t0, H0, u0⟩) (K := K0) (d := some d0) hg injkind ⟨((⟨ss, se, sv⟩ : Schema), w), hp⟩ (by simp [AV.idsL, AV.ids])
  simp only [eV_mk, eI, eS, eB, eSc, eSt, eE, eF, eM] at h
  rw [h]; refine CallA_go hd ?_; exact hK
theorem okkind : Skind.OK Try.prog 30 := by
  refine mkF_ok (fun x => ?_) (fun x => ⟨_, rfl⟩)
  obtain ⟨⟨s, w⟩, hw⟩ := x
  simp only at hw
  refine spec_w (Γ := [(52, Shead), (53, Sstruct), (54, Senum)]) Dt_ok (.cons okhead (.cons okstruct (.cons okenum .nil))) mixed [] [.tmp 4] Try.func30 rfl rfl Try.ntmps30 rfl rfl fun hg => ?_
  clear hg
  repeat' (first | ((with_reducible refine Brn.mk (fun h => ?_) (fun h => ?_)) <;> (simp only [Un_u, h]; try simp only [decide_eq_true_eq, decide_eq_false_iff_not, beq_iff_eq, bne_iff_ne, ne_eq, beq_eq_false_iff_ne, bne_eq_false_iff_eq, Bool.not_eq_true', Bool.not_eq_false', Bool.not_eq_true, Int.not_lt, Int.not_le, gt_iff_lt, ge_iff_le, not_true_eq_false, not_false_eq_true] at h)) | ((with_reducible apply gohead); (· rfl); (· omega); (· exact hw)) | ((with_reducible apply gostruct); (· rfl); (· omega)) | ((with_reducible apply goenum); (· rfl); (· omega)) | ((with_reducible refine Req.mk ?_ ?_); (· first | (first | ((with_reducible refine of_eq_true (chk_op ?_ ?_)); (· rfl); (· simp only [go_sem, Nat.reduceLT, Nat.reduceLeDiff, Nat.reduceEqDiff, Nat.reduceAdd, Nat.reduceSub, Nat.reduceMul, Nat.reduceBEq, Nat.reduceBNe, reduceIte, reduceCtorEq, Int.reduceToNat, Int.reduceLT, Int.reduceLE, Int.reduceEq, Int.reduceAdd, Int.reduceSub, Int.reduceNeg, Int.reduceMul, Int.reduceNegSucc])) | ((with_reducible refine of_eq_true (chk_op_g ?_ ?_)); (· rfl); (· simp only [go_sem, Nat.reduceLT, Nat.reduceLeDiff, Nat.reduceEqDiff, Nat.reduceAdd, Nat.reduceSub, Nat.reduceMul, Nat.reduceBEq, Nat.reduceBNe, reduceIte, reduceCtorEq, Int.reduceToNat, Int.reduceLT, Int.reduceLE, Int.reduceEq, Int.reduceAdd, Int.reduceSub, Int.reduceNeg, Int.reduceMul, Int.reduceNegSucc]))) | (first | omega | (simp (disch := omega) only [wrap_i64, wrap_i32, wrap_u8, wrap_u16]; omega) | (simp only [go_sem, Nat.reduceLT, Nat.reduceLeDiff, Nat.reduceEqDiff, Nat.reduceAdd, Nat.reduceSub, Nat.reduceMul, Nat.reduceBEq, Nat.reduceBNe, reduceIte, reduceCtorEq, Int.reduceToNat, Int.reduceLT, Int.reduceLE, Int.reduceEq, Int.reduceAdd, Int.reduceSub, Int.reduceNeg, Int.reduceMul, Int.reduceNegSucc]; omega) | (simp only [go_sem, *, Nat.reduceLT, Nat.reduceLeDiff, Nat.reduceEqDiff, Nat.reduceAdd, Nat.reduceSub, Nat.reduceMul, Nat.reduceBEq, Nat.reduceBNe, reduceIte, reduceCtorEq, Int.reduceToNat, Int.reduceLT, Int.reduceLE, Int.reduceEq, Int.reduceAdd, Int.reduceSub, Int.reduceNeg, Int.reduceMul, Int.reduceNegSucc]; done)))) | simp only [go_sem, Nat.reduceLT, Nat.reduceLeDiff, Nat.reduceEqDiff, Nat.reduceAdd, Nat.reduceSub, Nat.reduceMul, Nat.reduceBEq, Nat.reduceBNe, reduceIte, reduceCtorEq, Int.reduceToNat, Int.reduceLT, Int.reduceLE, Int.reduceEq, Int.reduceAdd, Int.reduceSub, Int.reduceNeg, Int.reduceMul, Int.reduceNegSucc] | simp (disch := omega) only [wrap_i64, wrap_i32, wrap_u8, wrap_u16])
  all_goals simp_all [kindL]
end Go.Proofs.Ythiddkhonklbkaa

/- Contracts: ranks (package inhabit). -/
import Derived.Test.YthiddkhonklbkaaV2
set_option linter.unusedVariables false
set_option linter.unusedSimpArgs false
set_option maxRecDepth 20000
set_option maxHeartbeats 4000000
namespace Go.Proofs.Ythiddkhonklbkaa
open Go Go.Aw

def ofL (r : KM) (s : Schema) (t : List UInt8) : Int :=
  if (headL t).e ≠ 0 then -1 else if (headL t).kind ≠ 0 then 0
  else if (enumL s (headL t).name).2 = true then (if (enumL s (headL t).name).1.members.length = 0 then -1 else 0)
  else match getK (headL t).name r with | some n => n | none => -1
def okF (l : List SField) : Prop := l.length ≤ 1000000000 ∧ ∀ f ∈ l, f.type.length ≤ 1000000000
def okR (r : KM) : Prop := ∀ w v, getK w r = some v → v ≤ 4611686018427387904
noncomputable def Sof : Aw.Spec := .b (mkF (fun x : {x : (List (List UInt8 × Int)) × Schema × (List UInt8) // match x with | (r, s, w) => w.length ≤ 1000000000} => match x with | ⟨(r, s, w), _⟩ => [.p (.fmap (r.map eK)), .p (eSc s), .p (eS w)]) fun x => match x with | ⟨(r, s, w), _⟩ => is (eI (ofL r s w)))
theorem injof : ∀ x y : {x : (List (List UInt8 × Int)) × Schema × (List UInt8) // match x with | (r, s, w) => w.length ≤ 1000000000}, (match x with | ⟨(r, s, w), _⟩ => [.p (.fmap (r.map eK)), .p (eSc s), .p (eS w)] : List AV) = (match y with | ⟨(r, s, w), _⟩ => [.p (.fmap (r.map eK)), .p (eSc s), .p (eS w)]) → x = y := by
  rintro ⟨⟨r, s, w⟩, _⟩ ⟨⟨r', s', w'⟩, _⟩ h
  simp only [List.cons.injEq, AV.p.injEq, AV.fptr.injEq, PV.fro.injEq, PV.fmap.injEq, PV.c.injEq, Value.int.injEq, keys_inj, names_inj, true_and, and_true, eI_inj, eB_inj, eS_inj, str_inj, eV_inj, eF_inj, eSt_inj, eM_inj, eE_inj, eSc_inj, ints_inj, vals_inj, fields_inj, structs_inj, members_inj, enums_inj] at h
  simp_all
theorem goof {Γ : Specs} {D : Types} {n0 : Nat} {t0 : List (Nat × AV)} {H0 : Heap} {u0 : List Nat} {K0 : Kn} {d0 : Nat} {r : List (List UInt8 × Int)} {ss : List SStruct} {se : List SEnum} {sv : List PV} {w : List UInt8} (hg : Aw.look Γ 32 = some Sof) (hd : d0 < n0) (hp : w.length ≤ 1000000000) (hK : K0.k ⟨(d0, .p (eI (ofL r (⟨ss, se, sv⟩ : Schema) w))) :: t0, H0, u0⟩) : @CallG Γ D n0 32 [.p (.fmap (r.map eK)), .p (.agg [.fro 3 (ss.map eSt), .fro 2 (se.map eE), .fro 2 sv]), .p (.c (str w))] ⟨t0, H0, u0⟩ (some d0) K0 := by
  have h := call_mk (Γ := Γ) (D := D) (n := n0) (s := ⟨t0, H0, u0⟩) (K := K0) (d := some d0) hg injof ⟨(r, (⟨ss, se, sv⟩ : Schema), w), hp⟩ (by simp [AV.idsL, AV.ids])
  simp only [eV_mk, eI, eS, eB, eSc, eSt, eE, eF, eM] at h
  rw [h]; refine CallA_go hd ?_; exact hK
theorem goofO {Γ : Specs} {n0 : Nat} {t0 : List (Nat × AV)} {H0 : Heap} {u0 : List Nat} {K0 : Kn} {d0 i0 : Nat} {r : List (List UInt8 × Int)} {ss : List SStruct} {se : List SEnum} {sv : List PV} {w : List UInt8} (hg : Aw.look Γ 32 = some Sof) (h0 : hlook H0 i0 = some (.map (r.map eK))) (hd : d0 < n0) (hp : w.length ≤ 1000000000) (hK : K0.k ⟨(d0, .p (eI (ofL r (⟨ss, se, sv⟩ : Schema) w))) :: t0, H0, u0⟩) : @CallG Γ Dt n0 32 [.mp i0, .p (.agg [.fro 3 (ss.map eSt), .fro 2 (se.map eE), .fro 2 sv]), .p (.c (str w))] ⟨t0, H0, u0⟩ (some d0) K0 := by
  refine CallG_go_open hg [.p (.fmap (r.map eK)), .p (.agg [.fro 3 (ss.map eSt), .fro 2 (se.map eE), .fro 2 sv]), .p (.c (str w))] (by simp [AV.idsL, AV.ids]) ?_ (mkF_eq injof ⟨(r, (⟨ss, se, sv⟩ : Schema), w), hp⟩) rfl hd hK
  simp [AV.idsL, AV.ids, reach, idsAt, h0, Blk.ids, snapA, snapB, snap, optAll, only]
theorem okof : Sof.OK Try.prog 32 := by
  refine mkF_ok (fun x => ?_) (fun x => ⟨_, rfl⟩)
  obtain ⟨⟨r, s, w⟩, hw⟩ := x
  simp only at hw
  refine spec_w (Γ := [(52, Shead), (54, Senum)]) Dt_ok (.cons okhead (.cons okenum .nil)) mixed [] [.tmp 6] Try.func32 rfl rfl Try.ntmps32 rfl rfl fun hg => ?_
  clear hg
  repeat' (first | ((with_reducible refine Brn.mk (fun h => ?_) (fun h => ?_)) <;> (simp only [Un_u, h]; try simp only [decide_eq_true_eq, decide_eq_false_iff_not, beq_iff_eq, bne_iff_ne, ne_eq, beq_eq_false_iff_ne, bne_eq_false_iff_eq, Bool.not_eq_true', Bool.not_eq_false', Bool.not_eq_true, Int.not_lt, Int.not_le, gt_iff_lt, ge_iff_le, not_true_eq_false, not_false_eq_true] at h)) | ((with_reducible apply gohead); (· rfl); (· omega); (· exact hw)) | ((with_reducible apply goenum); (· rfl); (· omega)) | ((with_reducible refine Req.mk ?_ ?_); (· first | (first | ((with_reducible refine of_eq_true (chk_op ?_ ?_)); (· rfl); (· simp only [go_sem, Nat.reduceLT, Nat.reduceLeDiff, Nat.reduceEqDiff, Nat.reduceAdd, Nat.reduceSub, Nat.reduceMul, Nat.reduceBEq, Nat.reduceBNe, reduceIte, reduceCtorEq, Int.reduceToNat, Int.reduceLT, Int.reduceLE, Int.reduceEq, Int.reduceAdd, Int.reduceSub, Int.reduceNeg, Int.reduceMul, Int.reduceNegSucc])) | ((with_reducible refine of_eq_true (chk_op_g ?_ ?_)); (· rfl); (· simp only [go_sem, Nat.reduceLT, Nat.reduceLeDiff, Nat.reduceEqDiff, Nat.reduceAdd, Nat.reduceSub, Nat.reduceMul, Nat.reduceBEq, Nat.reduceBNe, reduceIte, reduceCtorEq, Int.reduceToNat, Int.reduceLT, Int.reduceLE, Int.reduceEq, Int.reduceAdd, Int.reduceSub, Int.reduceNeg, Int.reduceMul, Int.reduceNegSucc]))) | (first | omega | (simp (disch := omega) only [wrap_i64, wrap_i32, wrap_u8, wrap_u16]; omega) | (simp only [go_sem, Nat.reduceLT, Nat.reduceLeDiff, Nat.reduceEqDiff, Nat.reduceAdd, Nat.reduceSub, Nat.reduceMul, Nat.reduceBEq, Nat.reduceBNe, reduceIte, reduceCtorEq, Int.reduceToNat, Int.reduceLT, Int.reduceLE, Int.reduceEq, Int.reduceAdd, Int.reduceSub, Int.reduceNeg, Int.reduceMul, Int.reduceNegSucc]; omega) | (simp only [go_sem, *, Nat.reduceLT, Nat.reduceLeDiff, Nat.reduceEqDiff, Nat.reduceAdd, Nat.reduceSub, Nat.reduceMul, Nat.reduceBEq, Nat.reduceBNe, reduceIte, reduceCtorEq, Int.reduceToNat, Int.reduceLT, Int.reduceLE, Int.reduceEq, Int.reduceAdd, Int.reduceSub, Int.reduceNeg, Int.reduceMul, Int.reduceNegSucc]; done)))) | simp only [go_sem, Nat.reduceLT, Nat.reduceLeDiff, Nat.reduceEqDiff, Nat.reduceAdd, Nat.reduceSub, Nat.reduceMul, Nat.reduceBEq, Nat.reduceBNe, reduceIte, reduceCtorEq, Int.reduceToNat, Int.reduceLT, Int.reduceLE, Int.reduceEq, Int.reduceAdd, Int.reduceSub, Int.reduceNeg, Int.reduceMul, Int.reduceNegSucc] | simp (disch := omega) only [wrap_i64, wrap_i32, wrap_u8, wrap_u16])
  all_goals (cases hq : getK (headL w).name r <;> simp_all [ofL])
theorem ofL_le {r : KM} (hr : okR r) (s : Schema) (t : List UInt8) : ofL r s t ≤ 4611686018427387904 := by
  unfold ofL
  split
  · omega
  · split
    · omega
    · split
      · split <;> omega
      · split
        · rename_i n hn; exact hr _ _ hn
        · omega
def bestN (r : KM) (s : Schema) (l : List SField) : Nat → Int × Int
  | 0 => (-1, -1)
  | k + 1 => if 0 ≤ ofL r s (el l (k : Int)).type ∧ ((bestN r s l k).2 < 0 ∨ ofL r s (el l (k : Int)).type < (bestN r s l k).2) then ((k : Int), ofL r s (el l (k : Int)).type) else bestN r s l k
def bestL (r : KM) (s : Schema) (x : SStruct) : Int × Int := bestN r s x.fields x.fields.length
noncomputable def Sbest : Aw.Spec := .b (mkF (fun x : {x : (List (List UInt8 × Int)) × Schema × SStruct // match x with | (r, s, x) => okF x.fields} => match x with | ⟨(r, s, x), _⟩ => [.p (.fmap (r.map eK)), .p (eSc s), .p (eSt x)]) fun x => match x with | ⟨(r, s, x), _⟩ => is (.tup [eI (bestL r s x).1, eI (bestL r s x).2]))
theorem injbest : ∀ x y : {x : (List (List UInt8 × Int)) × Schema × SStruct // match x with | (r, s, x) => okF x.fields}, (match x with | ⟨(r, s, x), _⟩ => [.p (.fmap (r.map eK)), .p (eSc s), .p (eSt x)] : List AV) = (match y with | ⟨(r, s, x), _⟩ => [.p (.fmap (r.map eK)), .p (eSc s), .p (eSt x)]) → x = y := by
  rintro ⟨⟨r, s, x⟩, _⟩ ⟨⟨r', s', x'⟩, _⟩ h
  simp only [List.cons.injEq, AV.p.injEq, AV.fptr.injEq, PV.fro.injEq, PV.fmap.injEq, PV.c.injEq, Value.int.injEq, keys_inj, names_inj, true_and, and_true, eI_inj, eB_inj, eS_inj, str_inj, eV_inj, eF_inj, eSt_inj, eM_inj, eE_inj, eSc_inj, ints_inj, vals_inj, fields_inj, structs_inj, members_inj, enums_inj] at h
  simp_all
theorem gobest {Γ : Specs} {D : Types} {n0 : Nat} {t0 : List (Nat × AV)} {H0 : Heap} {u0 : List Nat} {K0 : Kn} {d0 : Nat} {r : List (List UInt8 × Int)} {ss : List SStruct} {se : List SEnum} {sv : List PV} {xk : Int} {xn : List UInt8} {xf : List SField} (hg : Aw.look Γ 51 = some Sbest) (hd : d0 < n0) (hp : okF (⟨xk, xn, xf⟩ : SStruct).fields) (hK : K0.k ⟨(d0, .p (.tup [eI (bestL r (⟨ss, se, sv⟩ : Schema) (⟨xk, xn, xf⟩ : SStruct)).1, eI (bestL r (⟨ss, se, sv⟩ : Schema) (⟨xk, xn, xf⟩ : SStruct)).2])) :: t0, H0, u0⟩) : @CallG Γ D n0 51 [.p (.fmap (r.map eK)), .p (.agg [.fro 3 (ss.map eSt), .fro 2 (se.map eE), .fro 2 sv]), .p (.agg [.c (.int .i64 xk), .c (str xn), .fro 10 (xf.map eF)])] ⟨t0, H0, u0⟩ (some d0) K0 := by
  have h := call_mk (Γ := Γ) (D := D) (n := n0) (s := ⟨t0, H0, u0⟩) (K := K0) (d := some d0) hg injbest ⟨(r, (⟨ss, se, sv⟩ : Schema), (⟨xk, xn, xf⟩ : SStruct)), hp⟩ (by simp [AV.idsL, AV.ids])
  simp only [eV_mk, eI, eS, eB, eSc, eSt, eE, eF, eM] at h
  rw [h]; refine CallA_go hd ?_; exact hK
theorem gobestO {Γ : Specs} {n0 : Nat} {t0 : List (Nat × AV)} {H0 : Heap} {u0 : List Nat} {K0 : Kn} {d0 i0 : Nat} {r : List (List UInt8 × Int)} {ss : List SStruct} {se : List SEnum} {sv : List PV} {xk : Int} {xn : List UInt8} {xf : List SField} (hg : Aw.look Γ 51 = some Sbest) (h0 : hlook H0 i0 = some (.map (r.map eK))) (hd : d0 < n0) (hp : okF (⟨xk, xn, xf⟩ : SStruct).fields) (hK : K0.k ⟨(d0, .p (.tup [eI (bestL r (⟨ss, se, sv⟩ : Schema) (⟨xk, xn, xf⟩ : SStruct)).1, eI (bestL r (⟨ss, se, sv⟩ : Schema) (⟨xk, xn, xf⟩ : SStruct)).2])) :: t0, H0, u0⟩) : @CallG Γ Dt n0 51 [.mp i0, .p (.agg [.fro 3 (ss.map eSt), .fro 2 (se.map eE), .fro 2 sv]), .p (.agg [.c (.int .i64 xk), .c (str xn), .fro 10 (xf.map eF)])] ⟨t0, H0, u0⟩ (some d0) K0 := by
  refine CallG_go_open hg [.p (.fmap (r.map eK)), .p (.agg [.fro 3 (ss.map eSt), .fro 2 (se.map eE), .fro 2 sv]), .p (.agg [.c (.int .i64 xk), .c (str xn), .fro 10 (xf.map eF)])] (by simp [AV.idsL, AV.ids]) ?_ (mkF_eq injbest ⟨(r, (⟨ss, se, sv⟩ : Schema), (⟨xk, xn, xf⟩ : SStruct)), hp⟩) rfl hd hK
  simp [AV.idsL, AV.ids, reach, idsAt, h0, Blk.ids, snapA, snapB, snap, optAll, only]
theorem okbest : Sbest.OK Try.prog 51 := by
  refine mkF_ok (fun x => ?_) (fun x => ⟨_, rfl⟩)
  obtain ⟨⟨r, s, x⟩, hx⟩ := x
  simp only at hx
  refine spec_w (Γ := [(32, Sof)]) Dt_ok (.cons okof .nil) mixed [] [.tmp 6, .tmp 7] Try.func51 rfl rfl Try.ntmps51 rfl rfl fun hg => ?_
  have hlen := (good_St ((hg (.p (eSt x)) (by simp)).c rfl)).1
  clear hg
  repeat' (first | ((with_reducible refine Brn.mk (fun h => ?_) (fun h => ?_)) <;> (simp only [Un_u, h]; try simp only [decide_eq_true_eq, decide_eq_false_iff_not, beq_iff_eq, bne_iff_ne, ne_eq, beq_eq_false_iff_ne, bne_eq_false_iff_eq, Bool.not_eq_true', Bool.not_eq_false', Bool.not_eq_true, Int.not_lt, Int.not_le, gt_iff_lt, ge_iff_le, not_true_eq_false, not_false_eq_true] at h)) | ((with_reducible refine Req.mk ?_ ?_); (· first | (first | ((with_reducible refine of_eq_true (chk_op ?_ ?_)); (· rfl); (· simp only [go_sem, Nat.reduceLT, Nat.reduceLeDiff, Nat.reduceEqDiff, Nat.reduceAdd, Nat.reduceSub, Nat.reduceMul, Nat.reduceBEq, Nat.reduceBNe, reduceIte, reduceCtorEq, Int.reduceToNat, Int.reduceLT, Int.reduceLE, Int.reduceEq, Int.reduceAdd, Int.reduceSub, Int.reduceNeg, Int.reduceMul, Int.reduceNegSucc])) | ((with_reducible refine of_eq_true (chk_op_g ?_ ?_)); (· rfl); (· simp only [go_sem, Nat.reduceLT, Nat.reduceLeDiff, Nat.reduceEqDiff, Nat.reduceAdd, Nat.reduceSub, Nat.reduceMul, Nat.reduceBEq, Nat.reduceBNe, reduceIte, reduceCtorEq, Int.reduceToNat, Int.reduceLT, Int.reduceLE, Int.reduceEq, Int.reduceAdd, Int.reduceSub, Int.reduceNeg, Int.reduceMul, Int.reduceNegSucc]))) | (first | omega | (simp (disch := omega) only [wrap_i64, wrap_i32, wrap_u8, wrap_u16]; omega) | (simp only [go_sem, Nat.reduceLT, Nat.reduceLeDiff, Nat.reduceEqDiff, Nat.reduceAdd, Nat.reduceSub, Nat.reduceMul, Nat.reduceBEq, Nat.reduceBNe, reduceIte, reduceCtorEq, Int.reduceToNat, Int.reduceLT, Int.reduceLE, Int.reduceEq, Int.reduceAdd, Int.reduceSub, Int.reduceNeg, Int.reduceMul, Int.reduceNegSucc]; omega) | (simp only [go_sem, *, Nat.reduceLT, Nat.reduceLeDiff, Nat.reduceEqDiff, Nat.reduceAdd, Nat.reduceSub, Nat.reduceMul, Nat.reduceBEq, Nat.reduceBNe, reduceIte, reduceCtorEq, Int.reduceToNat, Int.reduceLT, Int.reduceLE, Int.reduceEq, Int.reduceAdd, Int.reduceSub, Int.reduceNeg, Int.reduceMul, Int.reduceNegSucc]; done)))) | simp only [go_sem, Nat.reduceLT, Nat.reduceLeDiff, Nat.reduceEqDiff, Nat.reduceAdd, Nat.reduceSub, Nat.reduceMul, Nat.reduceBEq, Nat.reduceBNe, reduceIte, reduceCtorEq, Int.reduceToNat, Int.reduceLT, Int.reduceLE, Int.reduceEq, Int.reduceAdd, Int.reduceSub, Int.reduceNeg, Int.reduceMul, Int.reduceNegSucc] | simp (disch := omega) only [wrap_i64, wrap_i32, wrap_u8, wrap_u16])
  refine Aw.Loop.mk (X := {k : Nat // k ≤ x.fields.length}) (fun k => ⟨[(14, .p (eI k.1)), (13, .p (eI x.fields.length)), (12, .p (.fro 10 (x.fields.map eF))), (7, .p (eI (bestN r s x.fields k.1).2)), (6, .p (eI (bestN r s x.fields k.1).1)), (4, .ptr 104 0), (0, .p (.fmap (r.map eK)))], [(104, some (.row 28 3 [.p (.fro 3 (s.structs.map eSt)), .p (.fro 2 (s.enums.map eE)), .p (.fro 2 s.services)]))], [104]⟩) (fun k => x.fields.length - k.1) ⟨0, by omega⟩ (LeS.less (by simp [go_sem, bestN]) (by simp [go_sem, bestN]) (by simp [go_sem, bestN]) (by simp [go_sem, bestN]) (by simp [go_sem, bestN])) ?_
  rintro ⟨k, hk⟩
  repeat' (first | ((with_reducible refine Brn.mk (fun h => ?_) (fun h => ?_)) <;> (simp only [Un_u, h]; try simp only [decide_eq_true_eq, decide_eq_false_iff_not, beq_iff_eq, bne_iff_ne, ne_eq, beq_eq_false_iff_ne, bne_eq_false_iff_eq, Bool.not_eq_true', Bool.not_eq_false', Bool.not_eq_true, Int.not_lt, Int.not_le, gt_iff_lt, ge_iff_le, not_true_eq_false, not_false_eq_true] at h)) | ((with_reducible apply goof); (· rfl); (· omega); (· exact hx.2 _ (el_mem (by omega)))) | ((with_reducible refine Req.mk ?_ ?_); (· first | (first | ((with_reducible refine of_eq_true (chk_op ?_ ?_)); (· rfl); (· simp only [go_sem, Nat.reduceLT, Nat.reduceLeDiff, Nat.reduceEqDiff, Nat.reduceAdd, Nat.reduceSub, Nat.reduceMul, Nat.reduceBEq, Nat.reduceBNe, reduceIte, reduceCtorEq, Int.reduceToNat, Int.reduceLT, Int.reduceLE, Int.reduceEq, Int.reduceAdd, Int.reduceSub, Int.reduceNeg, Int.reduceMul, Int.reduceNegSucc])) | ((with_reducible refine of_eq_true (chk_op_g ?_ ?_)); (· rfl); (· simp only [go_sem, Nat.reduceLT, Nat.reduceLeDiff, Nat.reduceEqDiff, Nat.reduceAdd, Nat.reduceSub, Nat.reduceMul, Nat.reduceBEq, Nat.reduceBNe, reduceIte, reduceCtorEq, Int.reduceToNat, Int.reduceLT, Int.reduceLE, Int.reduceEq, Int.reduceAdd, Int.reduceSub, Int.reduceNeg, Int.reduceMul, Int.reduceNegSucc]))) | (first | omega | (simp (disch := omega) only [wrap_i64, wrap_i32, wrap_u8, wrap_u16]; omega) | (simp only [go_sem, Nat.reduceLT, Nat.reduceLeDiff, Nat.reduceEqDiff, Nat.reduceAdd, Nat.reduceSub, Nat.reduceMul, Nat.reduceBEq, Nat.reduceBNe, reduceIte, reduceCtorEq, Int.reduceToNat, Int.reduceLT, Int.reduceLE, Int.reduceEq, Int.reduceAdd, Int.reduceSub, Int.reduceNeg, Int.reduceMul, Int.reduceNegSucc]; omega) | (simp only [go_sem, *, Nat.reduceLT, Nat.reduceLeDiff, Nat.reduceEqDiff, Nat.reduceAdd, Nat.reduceSub, Nat.reduceMul, Nat.reduceBEq, Nat.reduceBNe, reduceIte, reduceCtorEq, Int.reduceToNat, Int.reduceLT, Int.reduceLE, Int.reduceEq, Int.reduceAdd, Int.reduceSub, Int.reduceNeg, Int.reduceMul, Int.reduceNegSucc]; done)))) | simp only [go_sem, Nat.reduceLT, Nat.reduceLeDiff, Nat.reduceEqDiff, Nat.reduceAdd, Nat.reduceSub, Nat.reduceMul, Nat.reduceBEq, Nat.reduceBNe, reduceIte, reduceCtorEq, Int.reduceToNat, Int.reduceLT, Int.reduceLE, Int.reduceEq, Int.reduceAdd, Int.reduceSub, Int.reduceNeg, Int.reduceMul, Int.reduceNegSucc] | simp (disch := omega) only [wrap_i64, wrap_i32, wrap_u8, wrap_u16])
  all_goals first
    | (have hb : bestN r s x.fields (k + 1) = ((k : Int), ofL r s (el x.fields (k : Int)).type) := by rw [bestN, if_pos ⟨by assumption, by omega⟩]
       refine ⟨⟨k + 1, by omega⟩, by simp only; omega, ?_⟩
       simp only [hb]
       exact (LeS.less (by simp [go_sem]) (by simp [go_sem]) (by simp [go_sem]) (by simp [go_sem]) (by simp [go_sem])))
    | (have hb : bestN r s x.fields (k + 1) = bestN r s x.fields k := by rw [bestN, if_neg (by omega)]
       refine ⟨⟨k + 1, by omega⟩, by simp only; omega, ?_⟩
       simp only [hb]
       exact (LeS.less (by simp [go_sem]) (by simp [go_sem]) (by simp [go_sem]) (by simp [go_sem]) (by simp [go_sem])))
    | (have hk' : k = x.fields.length := by omega
       subst hk'
       simp [RetB_gen, retF, resF, optAll, go_sem, bestL])
def outN (r : KM) (s : Schema) (l : List SField) : Nat → Option Int
  | 0 => some 0
  | k + 1 => match outN r s l k with
    | none => none
    | some o => if (el l (k : Int)).req ≠ 1 then some o else if ofL r s (el l (k : Int)).type < 0 then none else some (if ofL r s (el l (k : Int)).type > o then ofL r s (el l (k : Int)).type else o)
def rankL (r : KM) (s : Schema) (x : SStruct) : Int :=
  if x.kind = 5 then (if (bestL r s x).2 < 0 then -1 else (bestL r s x).2 + 1)
  else match outN r s x.fields x.fields.length with | none => -1 | some o => o + 1
theorem outN_le {r : KM} (hr : okR r) (s : Schema) (l : List SField) : ∀ k o, outN r s l k = some o → 0 ≤ o ∧ o ≤ 4611686018427387904 := by
  intro k
  induction k with
  | zero => intro o h; cases h; omega
  | succ k ih =>
    intro o h
    rw [outN] at h
    split at h
    · cases h
    · rename_i p hp
      have hp' := ih p hp
      split at h
      · cases h; exact hp'
      · split at h
        · cases h
        · cases h
          have := ofL_le hr s (el l (k : Int)).type
          split <;> omega
theorem outN_none {r : KM} {s : Schema} {l : List SField} {k : Nat} (h : outN r s l k = none) : ∀ m, k ≤ m → outN r s l m = none := by
  intro m hm
  induction m with
  | zero => have : k = 0 := by omega
            subst this; exact h
  | succ m ih =>
    by_cases e : k = m + 1
    · subst e; exact h
    · rw [outN, ih (by omega)]
theorem bestN_le {r : KM} (hr : okR r) (s : Schema) (l : List SField) : ∀ k, (bestN r s l k).2 ≤ 4611686018427387904 := by
  intro k
  induction k with
  | zero => show (-1 : Int) ≤ _; omega
  | succ k ih =>
    rw [bestN]; split
    · exact ofL_le hr s _
    · exact ih
noncomputable def Srank : Aw.Spec := .b (mkF (fun x : {x : (List (List UInt8 × Int)) × Schema × SStruct // match x with | (r, s, x) => okF x.fields ∧ okR r} => match x with | ⟨(r, s, x), _⟩ => [.p (.fmap (r.map eK)), .p (eSc s), .p (eSt x)]) fun x => match x with | ⟨(r, s, x), _⟩ => is (eI (rankL r s x)))
theorem injrank : ∀ x y : {x : (List (List UInt8 × Int)) × Schema × SStruct // match x with | (r, s, x) => okF x.fields ∧ okR r}, (match x with | ⟨(r, s, x), _⟩ => [.p (.fmap (r.map eK)), .p (eSc s), .p (eSt x)] : List AV) = (match y with | ⟨(r, s, x), _⟩ => [.p (.fmap (r.map eK)), .p (eSc s), .p (eSt x)]) → x = y := by
  rintro ⟨⟨r, s, x⟩, _⟩ ⟨⟨r', s', x'⟩, _⟩ h
  simp only [List.cons.injEq, AV.p.injEq, AV.fptr.injEq, PV.fro.injEq, PV.fmap.injEq, PV.c.injEq, Value.int.injEq, keys_inj, names_inj, true_and, and_true, eI_inj, eB_inj, eS_inj, str_inj, eV_inj, eF_inj, eSt_inj, eM_inj, eE_inj, eSc_inj, ints_inj, vals_inj, fields_inj, structs_inj, members_inj, enums_inj] at h
  simp_all
theorem gorank {Γ : Specs} {D : Types} {n0 : Nat} {t0 : List (Nat × AV)} {H0 : Heap} {u0 : List Nat} {K0 : Kn} {d0 : Nat} {r : List (List UInt8 × Int)} {ss : List SStruct} {se : List SEnum} {sv : List PV} {xk : Int} {xn : List UInt8} {xf : List SField} (hg : Aw.look Γ 27 = some Srank) (hd : d0 < n0) (hp : okF (⟨xk, xn, xf⟩ : SStruct).fields ∧ okR r) (hK : K0.k ⟨(d0, .p (eI (rankL r (⟨ss, se, sv⟩ : Schema) (⟨xk, xn, xf⟩ : SStruct)))) :: t0, H0, u0⟩) : @CallG Γ D n0 27 [.p (.fmap (r.map eK)), .p (.agg [.fro 3 (ss.map eSt), .fro 2 (se.map eE), .fro 2 sv]), .p (.agg [.c (.int .i64 xk), .c (str xn), .fro 10 (xf.map eF)])] ⟨t0, H0, u0⟩ (some d0) K0 := by
  have h := call_mk (Γ := Γ) (D := D) (n := n0) (s := ⟨t0, H0, u0⟩) (K := K0) (d := some d0) hg injrank ⟨(r, (⟨ss, se, sv⟩ : Schema), (⟨xk, xn, xf⟩ : SStruct)), hp⟩ (by simp [AV.idsL, AV.ids])
  simp only [eV_mk, eI, eS, eB, eSc, eSt, eE, eF, eM] at h
  rw [h]; refine CallA_go hd ?_; exact hK
theorem gorankO {Γ : Specs} {n0 : Nat} {t0 : List (Nat × AV)} {H0 : Heap} {u0 : List Nat} {K0 : Kn} {d0 i0 : Nat} {r : List (List UInt8 × Int)} {ss : List SStruct} {se : List SEnum} {sv : List PV} {xk : Int} {xn : List UInt8} {xf : List SField} (hg : Aw.look Γ 27 = some Srank) (h0 : hlook H0 i0 = some (.map (r.map eK))) (hd : d0 < n0) (hp : okF (⟨xk, xn, xf⟩ : SStruct).fields ∧ okR r) (hK : K0.k ⟨(d0, .p (eI (rankL r (⟨ss, se, sv⟩ : Schema) (⟨xk, xn, xf⟩ : SStruct)))) :: t0, H0, u0⟩) : @CallG Γ Dt n0 27 [.mp i0, .p (.agg [.fro 3 (ss.map eSt), .fro 2 (se.map eE), .fro 2 sv]), .p (.agg [.c (.int .i64 xk), .c (str xn), .fro 10 (xf.map eF)])] ⟨t0, H0, u0⟩ (some d0) K0 := by
  refine CallG_go_open hg [.p (.fmap (r.map eK)), .p (.agg [.fro 3 (ss.map eSt), .fro 2 (se.map eE), .fro 2 sv]), .p (.agg [.c (.int .i64 xk), .c (str xn), .fro 10 (xf.map eF)])] (by simp [AV.idsL, AV.ids]) ?_ (mkF_eq injrank ⟨(r, (⟨ss, se, sv⟩ : Schema), (⟨xk, xn, xf⟩ : SStruct)), hp⟩) rfl hd hK
  simp [AV.idsL, AV.ids, reach, idsAt, h0, Blk.ids, snapA, snapB, snap, optAll, only]
theorem okrank : Srank.OK Try.prog 27 := by
  refine mkF_ok (fun x => ?_) (fun x => ⟨_, rfl⟩)
  obtain ⟨⟨r, s, x⟩, hx⟩ := x
  simp only at hx
  obtain ⟨hx, hr⟩ := hx
  refine spec_w (Γ := [(32, Sof), (51, Sbest)]) Dt_ok (.cons okof (.cons okbest .nil)) mixed [] [.tmp 6] Try.func27 rfl rfl Try.ntmps27 rfl rfl fun hg => ?_
  have hlen := (good_St ((hg (.p (eSt x)) (by simp)).c rfl)).1
  clear hg
  have hb := bestN_le hr s x.fields x.fields.length
  have hb' : (bestL r s x).2 ≤ 4611686018427387904 := hb
  repeat' (first | ((with_reducible refine Brn.mk (fun h => ?_) (fun h => ?_)) <;> (simp only [Un_u, h]; try simp only [decide_eq_true_eq, decide_eq_false_iff_not, beq_iff_eq, bne_iff_ne, ne_eq, beq_eq_false_iff_ne, bne_eq_false_iff_eq, Bool.not_eq_true', Bool.not_eq_false', Bool.not_eq_true, Int.not_lt, Int.not_le, gt_iff_lt, ge_iff_le, not_true_eq_false, not_false_eq_true] at h)) | ((with_reducible apply gobest); (· rfl); (· omega); (· exact hx)) | ((with_reducible refine Req.mk ?_ ?_); (· first | (first | ((with_reducible refine of_eq_true (chk_op ?_ ?_)); (· rfl); (· simp only [go_sem, Nat.reduceLT, Nat.reduceLeDiff, Nat.reduceEqDiff, Nat.reduceAdd, Nat.reduceSub, Nat.reduceMul, Nat.reduceBEq, Nat.reduceBNe, reduceIte, reduceCtorEq, Int.reduceToNat, Int.reduceLT, Int.reduceLE, Int.reduceEq, Int.reduceAdd, Int.reduceSub, Int.reduceNeg, Int.reduceMul, Int.reduceNegSucc])) | ((with_reducible refine of_eq_true (chk_op_g ?_ ?_)); (· rfl); (· simp only [go_sem, Nat.reduceLT, Nat.reduceLeDiff, Nat.reduceEqDiff, Nat.reduceAdd, Nat.reduceSub, Nat.reduceMul, Nat.reduceBEq, Nat.reduceBNe, reduceIte, reduceCtorEq, Int.reduceToNat, Int.reduceLT, Int.reduceLE, Int.reduceEq, Int.reduceAdd, Int.reduceSub, Int.reduceNeg, Int.reduceMul, Int.reduceNegSucc]))) | (first | omega | (simp (disch := omega) only [wrap_i64, wrap_i32, wrap_u8, wrap_u16]; omega) | (simp only [go_sem, Nat.reduceLT, Nat.reduceLeDiff, Nat.reduceEqDiff, Nat.reduceAdd, Nat.reduceSub, Nat.reduceMul, Nat.reduceBEq, Nat.reduceBNe, reduceIte, reduceCtorEq, Int.reduceToNat, Int.reduceLT, Int.reduceLE, Int.reduceEq, Int.reduceAdd, Int.reduceSub, Int.reduceNeg, Int.reduceMul, Int.reduceNegSucc]; omega) | (simp only [go_sem, *, Nat.reduceLT, Nat.reduceLeDiff, Nat.reduceEqDiff, Nat.reduceAdd, Nat.reduceSub, Nat.reduceMul, Nat.reduceBEq, Nat.reduceBNe, reduceIte, reduceCtorEq, Int.reduceToNat, Int.reduceLT, Int.reduceLE, Int.reduceEq, Int.reduceAdd, Int.reduceSub, Int.reduceNeg, Int.reduceMul, Int.reduceNegSucc]; done)))) | simp only [go_sem, Nat.reduceLT, Nat.reduceLeDiff, Nat.reduceEqDiff, Nat.reduceAdd, Nat.reduceSub, Nat.reduceMul, Nat.reduceBEq, Nat.reduceBNe, reduceIte, reduceCtorEq, Int.reduceToNat, Int.reduceLT, Int.reduceLE, Int.reduceEq, Int.reduceAdd, Int.reduceSub, Int.reduceNeg, Int.reduceMul, Int.reduceNegSucc] | simp (disch := omega) only [wrap_i64, wrap_i32, wrap_u8, wrap_u16])
  · simp [go_sem, rankL, *]
  · simp [go_sem, rankL, *]; try omega
  · refine Aw.Loop.mk (X := {k : Nat × Int // k.1 ≤ x.fields.length ∧ outN r s x.fields k.1 = some k.2}) (fun k => ⟨[(30, .p (eI k.1.1)), (29, .p (eI x.fields.length)), (28, .p (.fro 10 (x.fields.map eF))), (9, .p (eI k.1.2)), (4, .ptr 104 0), (0, .p (.fmap (r.map eK)))], [(104, some (.row 28 3 [.p (.fro 3 (s.structs.map eSt)), .p (.fro 2 (s.enums.map eE)), .p (.fro 2 s.services)]))], [104]⟩) (fun k => x.fields.length - k.1.1) ⟨(0, 0), by simp, rfl⟩ (LeS.less (by simp [go_sem]) (by simp [go_sem]) (by simp [go_sem]) (by simp [go_sem]) (by simp [go_sem])) ?_
    rintro ⟨⟨k, o⟩, hk, ho⟩
    simp only at hk ho
    have hle := outN_le hr s x.fields k o ho
    repeat' (first | ((with_reducible refine Brn.mk (fun h => ?_) (fun h => ?_)) <;> (simp only [Un_u, h]; try simp only [decide_eq_true_eq, decide_eq_false_iff_not, beq_iff_eq, bne_iff_ne, ne_eq, beq_eq_false_iff_ne, bne_eq_false_iff_eq, Bool.not_eq_true', Bool.not_eq_false', Bool.not_eq_true, Int.not_lt, Int.not_le, gt_iff_lt, ge_iff_le, not_true_eq_false, not_false_eq_true] at h)) | ((with_reducible apply goof); (· rfl); (· omega); (· exact hx.2 _ (el_mem (by omega)))) | ((with_reducible refine Req.mk ?_ ?_); (· first | (first | ((with_reducible refine of_eq_true (chk_op ?_ ?_)); (· rfl); (· simp only [go_sem, Nat.reduceLT, Nat.reduceLeDiff, Nat.reduceEqDiff, Nat.reduceAdd, Nat.reduceSub, Nat.reduceMul, Nat.reduceBEq, Nat.reduceBNe, reduceIte, reduceCtorEq, Int.reduceToNat, Int.reduceLT, Int.reduceLE, Int.reduceEq, Int.reduceAdd, Int.reduceSub, Int.reduceNeg, Int.reduceMul, Int.reduceNegSucc])) | ((with_reducible refine of_eq_true (chk_op_g ?_ ?_)); (· rfl); (· simp only [go_sem, Nat.reduceLT, Nat.reduceLeDiff, Nat.reduceEqDiff, Nat.reduceAdd, Nat.reduceSub, Nat.reduceMul, Nat.reduceBEq, Nat.reduceBNe, reduceIte, reduceCtorEq, Int.reduceToNat, Int.reduceLT, Int.reduceLE, Int.reduceEq, Int.reduceAdd, Int.reduceSub, Int.reduceNeg, Int.reduceMul, Int.reduceNegSucc]))) | (first | omega | (simp (disch := omega) only [wrap_i64, wrap_i32, wrap_u8, wrap_u16]; omega) | (simp only [go_sem, Nat.reduceLT, Nat.reduceLeDiff, Nat.reduceEqDiff, Nat.reduceAdd, Nat.reduceSub, Nat.reduceMul, Nat.reduceBEq, Nat.reduceBNe, reduceIte, reduceCtorEq, Int.reduceToNat, Int.reduceLT, Int.reduceLE, Int.reduceEq, Int.reduceAdd, Int.reduceSub, Int.reduceNeg, Int.reduceMul, Int.reduceNegSucc]; omega) | (simp only [go_sem, *, Nat.reduceLT, Nat.reduceLeDiff, Nat.reduceEqDiff, Nat.reduceAdd, Nat.reduceSub, Nat.reduceMul, Nat.reduceBEq, Nat.reduceBNe, reduceIte, reduceCtorEq, Int.reduceToNat, Int.reduceLT, Int.reduceLE, Int.reduceEq, Int.reduceAdd, Int.reduceSub, Int.reduceNeg, Int.reduceMul, Int.reduceNegSucc]; done)))) | simp only [go_sem, Nat.reduceLT, Nat.reduceLeDiff, Nat.reduceEqDiff, Nat.reduceAdd, Nat.reduceSub, Nat.reduceMul, Nat.reduceBEq, Nat.reduceBNe, reduceIte, reduceCtorEq, Int.reduceToNat, Int.reduceLT, Int.reduceLE, Int.reduceEq, Int.reduceAdd, Int.reduceSub, Int.reduceNeg, Int.reduceMul, Int.reduceNegSucc] | simp (disch := omega) only [wrap_i64, wrap_i32, wrap_u8, wrap_u16])
    · rename_i h1 h2
      have hn : outN r s x.fields (k + 1) = some o := by rw [outN, ho]; simp only; rw [if_pos h]
      exact ⟨⟨(k + 1, o), by simp only; omega, hn⟩, by simp only; omega, (LeS.less (by simp [go_sem]) (by simp [go_sem]) (by simp [go_sem]) (by simp [go_sem]) (by simp [go_sem]))⟩
    · rename_i h1 h2 h3
      have hn : outN r s x.fields (k + 1) = none := by rw [outN, ho]; simp only; rw [if_neg (by omega), if_pos h]
      have := outN_none hn x.fields.length (by omega)
      simp [rankL, h1, this]
    · rename_i h1 h2 h3
      have hn : outN r s x.fields (k + 1) = some (if ofL r s (el x.fields (k : Int)).type > o then ofL r s (el x.fields (k : Int)).type else o) := by rw [outN, ho]; simp only; rw [if_neg (by omega), if_neg (by omega)]
      exact ⟨⟨(k + 1, (if ofL r s (el x.fields (k : Int)).type > o then ofL r s (el x.fields (k : Int)).type else o)), by simp only; omega, hn⟩, by simp only; omega, (LeS.less (by simp [go_sem]) (by simp [go_sem]) (by simp [go_sem]) (by simp [go_sem]) (by simp [go_sem]))⟩
    · rename_i h1
      have hk' : k = x.fields.length := by omega
      subst hk'
      simp [rankL, h1, ho]
end Go.Proofs.Ythiddkhonklbkaa

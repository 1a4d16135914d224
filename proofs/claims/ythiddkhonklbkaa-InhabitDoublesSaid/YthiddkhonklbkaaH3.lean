/- Contracts: least values (package inhabit). -/
import Derived.Test.YthiddkhonklbkaaH2
set_option linter.unusedVariables false
set_option linter.unusedSimpArgs false
set_option maxRecDepth 20000
set_option maxHeartbeats 4000000
namespace Go.Proofs.Ythiddkhonklbkaa
open Go Go.Aw

def reqs (l : List SField) : List SField := l.filter fun f => f.req == 1
def partsL (m : Mk) (x : SStruct) : List SField :=
  if x.kind = 5 then (if (bestL m.r m.s x).1 < 0 then [] else (x.fields.take ((bestL m.r m.s x).1 + 1).toNat).drop (bestL m.r m.s x).1.toNat) else reqs x.fields
theorem best_at (r : KM) (s : Schema) (l : List SField) (k : Nat) : (bestN r s l k).1 < k ∧ -1 ≤ (bestN r s l k).1 := by
  induction k with
  | zero => exact ⟨by show (-1 : Int) < 0; omega, by show (-1 : Int) ≤ -1; omega⟩
  | succ k ih =>
    rw [bestN]; split
    · exact ⟨by simp only; omega, by simp only; omega⟩
    · exact ⟨by omega, ih.2⟩
theorem reqs_step {l : List SField} {k : Nat} (hk : k < l.length) : reqs (l.take (k + 1)) = if (el l (k : Int)).req = 1 then reqs (l.take k) ++ [el l (k : Int)] else reqs (l.take k) := by
  unfold reqs
  rw [List.take_add_one, List.getElem?_eq_getElem hk, List.filter_append, el_nat l k hk]
  simp only [Option.toList_some, List.filter_cons, List.filter_nil, beq_iff_eq]
  split <;> simp
theorem reqs_len (l : List SField) : (reqs l).length ≤ l.length := List.length_filter_le _ _
noncomputable def Sparts : Aw.Spec := .b (mkF (fun x : {x : Mk × SStruct // match x with | (m, x) => okF x.fields} => match x with | ⟨(m, x), _⟩ => [.fptr [.fmap (m.r.map eK), .fro 3 (m.s.structs.map eSt), .fro 2 (m.s.enums.map eE), .fro 2 m.s.services], .p (eSt x)]) fun x => match x with | ⟨(m, x), _⟩ => is (.fro 10 ((partsL m x).map eF)))
theorem injparts : ∀ x y : {x : Mk × SStruct // match x with | (m, x) => okF x.fields}, (match x with | ⟨(m, x), _⟩ => [.fptr [.fmap (m.r.map eK), .fro 3 (m.s.structs.map eSt), .fro 2 (m.s.enums.map eE), .fro 2 m.s.services], .p (eSt x)] : List AV) = (match y with | ⟨(m, x), _⟩ => [.fptr [.fmap (m.r.map eK), .fro 3 (m.s.structs.map eSt), .fro 2 (m.s.enums.map eE), .fro 2 m.s.services], .p (eSt x)]) → x = y := by
  rintro ⟨⟨m, x⟩, _⟩ ⟨⟨m', x'⟩, _⟩ h
  simp only [List.cons.injEq, AV.p.injEq, AV.fptr.injEq, PV.fro.injEq, PV.fmap.injEq, PV.c.injEq, Value.int.injEq, keys_inj, names_inj, true_and, and_true, eI_inj, eB_inj, eS_inj, str_inj, eV_inj, eF_inj, eSt_inj, eM_inj, eE_inj, eSc_inj, ints_inj, vals_inj, fields_inj, structs_inj, members_inj, enums_inj] at h
  simp_all [Mk.ext_iff, Schema.ext_iff]
theorem goparts {Γ : Specs} {D : Types} {n0 : Nat} {t0 : List (Nat × AV)} {H0 : Heap} {u0 : List Nat} {K0 : Kn} {d0 : Nat} {mr : List (List UInt8 × Int)} {ms : List SStruct} {me : List SEnum} {mv : List PV} {xk : Int} {xn : List UInt8} {xf : List SField} (hg : Aw.look Γ 29 = some Sparts) (hd : d0 < n0) (hp : okF (⟨xk, xn, xf⟩ : SStruct).fields) (hK : K0.k ⟨(d0, .p (.fro 10 ((partsL (⟨mr, ⟨ms, me, mv⟩⟩ : Mk) (⟨xk, xn, xf⟩ : SStruct)).map eF))) :: t0, H0, u0⟩) : @CallG Γ D n0 29 [.fptr [.fmap (mr.map eK), .fro 3 (ms.map eSt), .fro 2 (me.map eE), .fro 2 mv], .p (.agg [.c (.int .i64 xk), .c (str xn), .fro 10 (xf.map eF)])] ⟨t0, H0, u0⟩ (some d0) K0 := by
  have h := call_mk (Γ := Γ) (D := D) (n := n0) (s := ⟨t0, H0, u0⟩) (K := K0) (d := some d0) hg injparts ⟨((⟨mr, ⟨ms, me, mv⟩⟩ : Mk), (⟨xk, xn, xf⟩ : SStruct)), hp⟩ (by simp [AV.idsL, AV.ids])
  simp only [eV_mk, eI, eS, eB, eSc, eSt, eE, eF, eM] at h
  rw [h]; refine CallA_go hd ?_; exact hK
theorem okparts : Sparts.OK Try.prog 29 := by
  refine mkF_ok (fun x => ?_) (fun x => ⟨_, rfl⟩)
  obtain ⟨⟨⟨r, s⟩, x⟩, hx⟩ := x
  simp only at hx
  refine spec_w (Γ := [(51, Sbest)]) Dt_ok (.cons okbest .nil) mixed [] [.tmp 4] Try.func29 rfl rfl Try.ntmps29 rfl rfl fun hg => ?_
  clear hg
  have hb := best_at r s x.fields x.fields.length
  have hb' : (bestL r s x).1 < x.fields.length ∧ -1 ≤ (bestL r s x).1 := hb
  have hx1 := hx.1
  repeat' (first | ((with_reducible refine Brn.mk (fun h => ?_) (fun h => ?_)) <;> (simp only [Un_u, h]; try simp only [decide_eq_true_eq, decide_eq_false_iff_not, beq_iff_eq, bne_iff_ne, ne_eq, beq_eq_false_iff_ne, bne_eq_false_iff_eq, Bool.not_eq_true', Bool.not_eq_false', Bool.not_eq_true, Int.not_lt, Int.not_le, gt_iff_lt, ge_iff_le, not_true_eq_false, not_false_eq_true] at h)) | ((with_reducible apply gobest); (· rfl); (· omega); (· exact hx)) | ((with_reducible apply Draw.hit); (with_reducible refine Draw.mix 14 [[], [0], [0, 1], [0, 1, 2], [], [4], [4, 5], [4, 5, 6], [], [0, 1, 2, 3, 4, 5, 6, 7, 8], [0, 1, 2, 3, 4, 5, 6, 7, 8, 9], [0, 1, 2, 3, 4, 5, 6, 7, 8, 9, 10], [0, 1, 2, 3, 4, 5, 6, 7, 8, 9, 10], [0, 1, 2, 3, 4, 5, 6, 7, 8, 9, 10, 11], [0, 1, 2, 3, 4, 5, 6, 7, 8, 9, 10, 11, 12, 13]] [none, none, none, none, none, none, none, none, none, none, none, none, none, none, none] ?_ ?_ ?_ ?_ ?_); (· rfl); (· kernel_rfl); (· kernel_rfl); (· kernel_rfl)) | ((with_reducible refine Req.mk ?_ ?_); (· first | (first | ((with_reducible refine of_eq_true (chk_op ?_ ?_)); (· rfl); (· simp only [go_sem, Nat.reduceLT, Nat.reduceLeDiff, Nat.reduceEqDiff, Nat.reduceAdd, Nat.reduceSub, Nat.reduceMul, Nat.reduceBEq, Nat.reduceBNe, reduceIte, reduceCtorEq, Int.reduceToNat, Int.reduceLT, Int.reduceLE, Int.reduceEq, Int.reduceAdd, Int.reduceSub, Int.reduceNeg, Int.reduceMul, Int.reduceNegSucc])) | ((with_reducible refine of_eq_true (chk_op_g ?_ ?_)); (· rfl); (· simp only [go_sem, Nat.reduceLT, Nat.reduceLeDiff, Nat.reduceEqDiff, Nat.reduceAdd, Nat.reduceSub, Nat.reduceMul, Nat.reduceBEq, Nat.reduceBNe, reduceIte, reduceCtorEq, Int.reduceToNat, Int.reduceLT, Int.reduceLE, Int.reduceEq, Int.reduceAdd, Int.reduceSub, Int.reduceNeg, Int.reduceMul, Int.reduceNegSucc]))) | (first | omega | (simp (disch := omega) only [wrap_i64, wrap_i32, wrap_u8, wrap_u16]; omega) | (simp only [go_sem, Nat.reduceLT, Nat.reduceLeDiff, Nat.reduceEqDiff, Nat.reduceAdd, Nat.reduceSub, Nat.reduceMul, Nat.reduceBEq, Nat.reduceBNe, reduceIte, reduceCtorEq, Int.reduceToNat, Int.reduceLT, Int.reduceLE, Int.reduceEq, Int.reduceAdd, Int.reduceSub, Int.reduceNeg, Int.reduceMul, Int.reduceNegSucc]; omega) | (simp only [go_sem, *, Nat.reduceLT, Nat.reduceLeDiff, Nat.reduceEqDiff, Nat.reduceAdd, Nat.reduceSub, Nat.reduceMul, Nat.reduceBEq, Nat.reduceBNe, reduceIte, reduceCtorEq, Int.reduceToNat, Int.reduceLT, Int.reduceLE, Int.reduceEq, Int.reduceAdd, Int.reduceSub, Int.reduceNeg, Int.reduceMul, Int.reduceNegSucc]; done)))) | simp only [go_sem, Nat.reduceLT, Nat.reduceLeDiff, Nat.reduceEqDiff, Nat.reduceAdd, Nat.reduceSub, Nat.reduceMul, Nat.reduceBEq, Nat.reduceBNe, reduceIte, reduceCtorEq, Int.reduceToNat, Int.reduceLT, Int.reduceLE, Int.reduceEq, Int.reduceAdd, Int.reduceSub, Int.reduceNeg, Int.reduceMul, Int.reduceNegSucc] | simp (disch := omega) only [wrap_i64, wrap_i32, wrap_u8, wrap_u16])
  · rename_i h1
    rw [show partsL ⟨r, s⟩ x = [] by rw [partsL, if_pos h1, if_pos h]]
    simp [go_sem]
  · rename_i h1
    rw [show partsL ⟨r, s⟩ x = (x.fields.take ((bestL r s x).1 + 1).toNat).drop (bestL r s x).1.toNat by rw [partsL, if_pos h1, if_neg (by simp only; omega)]]
    simp [go_sem, List.map_take, List.map_drop]
  · refine Aw.Loop.mk (X := {k : Nat // k ≤ x.fields.length}) (fun k => ⟨[(37, .p (eI k.1)), (36, .p (eI x.fields.length)), (35, .p (.fro 10 (x.fields.map eF))), (7, .sl 150 10 0 (reqs (x.fields.take k.1)).length)], [(150, some (.row 47 10 ((flat ((reqs (x.fields.take k.1)).map eF)).map .p)))], [150]⟩)
      (fun k => x.fields.length - k.1) ⟨0, by omega⟩ (LeS.trans (LeS.nilT 7 150 47 10 rfl rfl) (LeS.via [] (by simp [go_sem,  reqs]) (by simp [go_sem,  reqs]) (by simp [go_sem,  reqs]) (by simp [go_sem,  reqs]) (by simp [go_sem,  reqs]) (by simp [go_sem]) (by simp [go_sem,  reqs]))) ?_
    rintro ⟨k, hk⟩
    have hl : (reqs (x.fields.take k)).length ≤ 1000000000 := by have := reqs_len (x.fields.take k); simp at this; omega
    repeat' (first | ((with_reducible refine Brn.mk (fun h => ?_) (fun h => ?_)) <;> (simp only [Un_u, h]; try simp only [decide_eq_true_eq, decide_eq_false_iff_not, beq_iff_eq, bne_iff_ne, ne_eq, beq_eq_false_iff_ne, bne_eq_false_iff_eq, Bool.not_eq_true', Bool.not_eq_false', Bool.not_eq_true, Int.not_lt, Int.not_le, gt_iff_lt, ge_iff_le, not_true_eq_false, not_false_eq_true] at h)) | ((with_reducible refine Req.mk ?_ ?_); (· first | (first | ((with_reducible refine of_eq_true (chk_op ?_ ?_)); (· rfl); (· simp only [go_sem, Nat.reduceLT, Nat.reduceLeDiff, Nat.reduceEqDiff, Nat.reduceAdd, Nat.reduceSub, Nat.reduceMul, Nat.reduceBEq, Nat.reduceBNe, reduceIte, reduceCtorEq, Int.reduceToNat, Int.reduceLT, Int.reduceLE, Int.reduceEq, Int.reduceAdd, Int.reduceSub, Int.reduceNeg, Int.reduceMul, Int.reduceNegSucc])) | ((with_reducible refine of_eq_true (chk_op_g ?_ ?_)); (· rfl); (· simp only [go_sem, Nat.reduceLT, Nat.reduceLeDiff, Nat.reduceEqDiff, Nat.reduceAdd, Nat.reduceSub, Nat.reduceMul, Nat.reduceBEq, Nat.reduceBNe, reduceIte, reduceCtorEq, Int.reduceToNat, Int.reduceLT, Int.reduceLE, Int.reduceEq, Int.reduceAdd, Int.reduceSub, Int.reduceNeg, Int.reduceMul, Int.reduceNegSucc]))) | (first | omega | (simp (disch := omega) only [wrap_i64, wrap_i32, wrap_u8, wrap_u16]; omega) | (simp only [go_sem, Nat.reduceLT, Nat.reduceLeDiff, Nat.reduceEqDiff, Nat.reduceAdd, Nat.reduceSub, Nat.reduceMul, Nat.reduceBEq, Nat.reduceBNe, reduceIte, reduceCtorEq, Int.reduceToNat, Int.reduceLT, Int.reduceLE, Int.reduceEq, Int.reduceAdd, Int.reduceSub, Int.reduceNeg, Int.reduceMul, Int.reduceNegSucc]; omega) | (simp only [go_sem, *, Nat.reduceLT, Nat.reduceLeDiff, Nat.reduceEqDiff, Nat.reduceAdd, Nat.reduceSub, Nat.reduceMul, Nat.reduceBEq, Nat.reduceBNe, reduceIte, reduceCtorEq, Int.reduceToNat, Int.reduceLT, Int.reduceLE, Int.reduceEq, Int.reduceAdd, Int.reduceSub, Int.reduceNeg, Int.reduceMul, Int.reduceNegSucc]; done)))) | simp only [go_sem, Nat.reduceLT, Nat.reduceLeDiff, Nat.reduceEqDiff, Nat.reduceAdd, Nat.reduceSub, Nat.reduceMul, Nat.reduceBEq, Nat.reduceBNe, reduceIte, reduceCtorEq, Int.reduceToNat, Int.reduceLT, Int.reduceLE, Int.reduceEq, Int.reduceAdd, Int.reduceSub, Int.reduceNeg, Int.reduceMul, Int.reduceNegSucc] | simp (disch := omega) only [wrap_i64, wrap_i32, wrap_u8, wrap_u16])
    · rename_i h1 h2
      have hn := reqs_step (l := x.fields) (k := k) (by omega)
      rw [if_pos h] at hn
      exact ⟨⟨k + 1, by omega⟩, by simp only; omega, (LeS.via [(150, 147)] (by simp [go_sem,  hn, -List.map_map]) (by simp [go_sem,  hn, -List.map_map]) (by simp [go_sem,  hn, -List.map_map]) (by simp [go_sem,  hn, -List.map_map]) (by simp [go_sem,  hn, -List.map_map]) (by simp [go_sem]) (by simp [go_sem,  hn, -List.map_map]))⟩
    · rename_i h1 h2
      have hn := reqs_step (l := x.fields) (k := k) (by omega)
      rw [if_neg h] at hn
      exact ⟨⟨k + 1, by omega⟩, by simp only; omega, (LeS.via [] (by simp [go_sem,  hn, -List.map_map]) (by simp [go_sem,  hn, -List.map_map]) (by simp [go_sem,  hn, -List.map_map]) (by simp [go_sem,  hn, -List.map_map]) (by simp [go_sem,  hn, -List.map_map]) (by simp [go_sem]) (by simp [go_sem,  hn, -List.map_map]))⟩
    · rename_i h1
      have hk' : k = x.fields.length := by omega
      subst hk'
      rw [snap_F8 (l := reqs (List.take x.fields.length x.fields)) (by simp [go_sem, TK.isSt, -List.map_map])]
      simp [go_sem, TK.isSt, partsL, h1, -List.map_map]

/-! ### least values -/
def fieldsL (lt : List UInt8 → Val) (m : Mk) (x : SStruct) : Val := ⟨12, 0, [], (partsL m x).map (fun p => lt p.type), (partsL m x).map (·.id)⟩
def leastL : Nat → Mk → List UInt8 → Val
  | 0, _, _ => ⟨0, 0, [], [], []⟩
  | f + 1, m, t =>
    if (headL t).kind ≠ 0 then ⟨(headL t).kind, 0, [], [], []⟩
    else if (enumL m.s (headL t).name).2 = true then ⟨17, (el (enumL m.s (headL t).name).1.members 0).n, [], [], []⟩
    else fieldsL (leastL f m) m (structL m.s (headL t).name).1
/-- f is enough for a type's least value. -/
def goodT : Nat → Mk → List UInt8 → Prop
  | 0, _, _ => False
  | f + 1, m, t => t.length ≤ 1000000000 ∧ ((headL t).kind = 0 → if (enumL m.s (headL t).name).2 = true then (enumL m.s (headL t).name).1.members ≠ []
      else okF (structL m.s (headL t).name).1.fields ∧ ∀ p ∈ partsL m (structL m.s (headL t).name).1, goodT f m p.type)
def goodX (f : Nat) (m : Mk) (x : SStruct) : Prop := okF x.fields ∧ ∀ p ∈ partsL m x, goodT f m p.type
theorem parts_len (m : Mk) (x : SStruct) : (partsL m x).length ≤ x.fields.length := by
  unfold partsL
  split
  · split
    · simp
    · simp; omega
  · exact reqs_len _
structure XLeast (f : Nat) where
  m : Mk
  t : List UInt8
  ok : goodT f m t
structure XFields (f : Nat) where
  m : Mk
  x : SStruct
  ok : goodX f m x
noncomputable def Sleast (f : Nat) : Aw.Spec := .b (mkF (fun x : XLeast f => [.fptr [.fmap (x.m.r.map eK), .fro 3 (x.m.s.structs.map eSt), .fro 2 (x.m.s.enums.map eE), .fro 2 x.m.s.services], .p (eS x.t)]) fun x => is (eV (leastL f x.m x.t)))
noncomputable def Sfields (f : Nat) : Aw.Spec := .b (mkF (fun x : XFields f => [.fptr [.fmap (x.m.r.map eK), .fro 3 (x.m.s.structs.map eSt), .fro 2 (x.m.s.enums.map eE), .fro 2 x.m.s.services], .p (eSt x.x)]) fun x => is (eV (fieldsL (leastL f x.m) x.m x.x)))
theorem injleast (f : Nat) : ∀ x y : XLeast f, ([.fptr [.fmap (x.m.r.map eK), .fro 3 (x.m.s.structs.map eSt), .fro 2 (x.m.s.enums.map eE), .fro 2 x.m.s.services], .p (eS x.t)] : List AV) = [.fptr [.fmap (y.m.r.map eK), .fro 3 (y.m.s.structs.map eSt), .fro 2 (y.m.s.enums.map eE), .fro 2 y.m.s.services], .p (eS y.t)] → x = y := by
  rintro ⟨⟨r, ⟨s1, s2, s3⟩⟩, t, _⟩ ⟨⟨r', ⟨s1', s2', s3'⟩⟩, t', _⟩ h
  simp only [List.cons.injEq, AV.p.injEq, AV.fptr.injEq, PV.fro.injEq, PV.fmap.injEq, keys_inj, structs_inj, enums_inj, eS_inj, true_and, and_true] at h
  obtain ⟨⟨rfl, rfl, rfl, rfl⟩, rfl⟩ := h
  rfl
theorem injmfields (f : Nat) : ∀ x y : XFields f, ([.fptr [.fmap (x.m.r.map eK), .fro 3 (x.m.s.structs.map eSt), .fro 2 (x.m.s.enums.map eE), .fro 2 x.m.s.services], .p (eSt x.x)] : List AV) = [.fptr [.fmap (y.m.r.map eK), .fro 3 (y.m.s.structs.map eSt), .fro 2 (y.m.s.enums.map eE), .fro 2 y.m.s.services], .p (eSt y.x)] → x = y := by
  rintro ⟨⟨r, ⟨s1, s2, s3⟩⟩, t, _⟩ ⟨⟨r', ⟨s1', s2', s3'⟩⟩, t', _⟩ h
  simp only [List.cons.injEq, AV.p.injEq, AV.fptr.injEq, PV.fro.injEq, PV.fmap.injEq, keys_inj, structs_inj, enums_inj, eSt_inj, true_and, and_true] at h
  obtain ⟨⟨rfl, rfl, rfl, rfl⟩, rfl⟩ := h
  rfl
theorem goleast {f : Nat} {Γ : Specs} {D : Types} {n : Nat} {T : List (Nat × AV)} {H : Heap} {u : List Nat} {K : Kn} {d : Nat} {r : KM} {s1 : List SStruct} {s2 : List SEnum} {s3 : List PV} {t : List UInt8} (hg : Aw.look Γ 33 = some (Sleast f)) (hd : d < n) (hp : goodT f ⟨r, ⟨s1, s2, s3⟩⟩ t)
    (hK : K.k ⟨(d, .p (eV (leastL f ⟨r, ⟨s1, s2, s3⟩⟩ t))) :: T, H, u⟩) : @CallG Γ D n 33 [.fptr [.fmap (r.map eK), .fro 3 (s1.map eSt), .fro 2 (s2.map eE), .fro 2 s3], .p (.c (str t))] ⟨T, H, u⟩ (some d) K := by
  have h := call_mk (Γ := Γ) (D := D) (n := n) (s := ⟨T, H, u⟩) (K := K) (d := some d) hg (injleast f) ⟨⟨r, ⟨s1, s2, s3⟩⟩, t, hp⟩ (by simp [AV.idsL, AV.ids])
  simp only [eS] at h
  rw [h]; refine CallA_go hd ?_; exact hK
theorem gomfields {f : Nat} {Γ : Specs} {D : Types} {n : Nat} {T : List (Nat × AV)} {H : Heap} {u : List Nat} {K : Kn} {d : Nat} {r : KM} {s1 : List SStruct} {s2 : List SEnum} {s3 : List PV} {xk : Int} {xn : List UInt8} {xf : List SField} (hg : Aw.look Γ 55 = some (Sfields f)) (hd : d < n) (hp : goodX f ⟨r, ⟨s1, s2, s3⟩⟩ ⟨xk, xn, xf⟩)
    (hK : K.k ⟨(d, .p (eV (fieldsL (leastL f ⟨r, ⟨s1, s2, s3⟩⟩) ⟨r, ⟨s1, s2, s3⟩⟩ ⟨xk, xn, xf⟩))) :: T, H, u⟩) : @CallG Γ D n 55 [.fptr [.fmap (r.map eK), .fro 3 (s1.map eSt), .fro 2 (s2.map eE), .fro 2 s3], .p (.agg [.c (.int .i64 xk), .c (str xn), .fro 10 (xf.map eF)])] ⟨T, H, u⟩ (some d) K := by
  have h := call_mk (Γ := Γ) (D := D) (n := n) (s := ⟨T, H, u⟩) (K := K) (d := some d) hg (injmfields f) ⟨⟨r, ⟨s1, s2, s3⟩⟩, ⟨xk, xn, xf⟩, hp⟩ (by simp [AV.idsL, AV.ids])
  simp only [eSt, eI, eS] at h
  rw [h]; refine CallA_go hd ?_; exact hK
theorem okmfields (f : Nat) (hL : (Sleast f).OK Try.prog 33) : (Sfields f).OK Try.prog 55 := by
  refine mkF_ok (fun x => ?_) (fun x => ⟨_, rfl⟩)
  obtain ⟨⟨r, s⟩, x, hx⟩ := x
  simp only
  refine spec_w (Γ := [(29, Sparts), (33, Sleast f)]) Dt_ok (.cons okparts (.cons hL .nil)) mixed [] [.cell 4 39] Try.func55 rfl rfl Try.ntmps55 rfl rfl fun hg => ?_
  clear hg
  have hpl := parts_len ⟨r, s⟩ x
  have hx1 := hx.1.1
  generalize hps : partsL ⟨r, s⟩ x = ps at hpl
  have hgood : ∀ p ∈ ps, goodT f ⟨r, s⟩ p.type := by rw [← hps]; exact hx.2
  repeat' (first | ((with_reducible refine Brn.mk (fun h => ?_) (fun h => ?_)) <;> (simp only [Un_u, h]; try simp only [decide_eq_true_eq, decide_eq_false_iff_not, beq_iff_eq, bne_iff_ne, ne_eq, beq_eq_false_iff_ne, bne_eq_false_iff_eq, Bool.not_eq_true', Bool.not_eq_false', Bool.not_eq_true, Int.not_lt, Int.not_le, gt_iff_lt, ge_iff_le, not_true_eq_false, not_false_eq_true] at h)) | ((with_reducible apply goparts); (· rfl); (· omega); (· exact hx.1)) | ((with_reducible apply Draw.hit); (with_reducible refine Draw.mix 17 [[], [0], [], [2], [2, 3], [0, 1, 2, 3, 4], [], [6], [], [], [9], [0, 1, 2, 3, 4, 5, 8, 9, 10], [0, 1, 2, 3, 4, 5, 8, 9, 10, 11], [0, 1, 2, 3, 4, 5, 6, 7, 8, 9, 10, 11, 12], [0, 1, 2, 3, 4, 5, 6, 7], [0, 1, 2, 3, 4, 5, 6, 7, 8, 9, 10, 11, 12, 13, 14], [0, 1, 2, 3, 4, 5, 6, 7, 8, 9, 10, 11, 12, 13, 14, 15], [0, 1, 2, 3, 4, 5, 6, 7, 8, 9, 10, 11, 12, 13, 14, 15, 16]] [some ([], [121]), some ([], [121]), none, none, some ([121], []), some ([122], []), some ([], [121, 122, 129]), some ([], [121, 122, 129]), some ([], [121, 122]), some ([], [121, 122]), some ([], [121, 122]), none, some ([129], []), some ([130], []), some ([], [129, 130]), some ([], []), none, some ([], [])] ?_ ?_ ?_ ?_ ?_); (· rfl); (· kernel_rfl); (· kernel_rfl); (· kernel_rfl)) | ((with_reducible refine Req.mk ?_ ?_); (· first | (first | ((with_reducible refine of_eq_true (chk_op ?_ ?_)); (· rfl); (· simp only [go_sem, Nat.reduceLT, Nat.reduceLeDiff, Nat.reduceEqDiff, Nat.reduceAdd, Nat.reduceSub, Nat.reduceMul, Nat.reduceBEq, Nat.reduceBNe, reduceIte, reduceCtorEq, Int.reduceToNat, Int.reduceLT, Int.reduceLE, Int.reduceEq, Int.reduceAdd, Int.reduceSub, Int.reduceNeg, Int.reduceMul, Int.reduceNegSucc])) | ((with_reducible refine of_eq_true (chk_op_g ?_ ?_)); (· rfl); (· simp only [go_sem, Nat.reduceLT, Nat.reduceLeDiff, Nat.reduceEqDiff, Nat.reduceAdd, Nat.reduceSub, Nat.reduceMul, Nat.reduceBEq, Nat.reduceBNe, reduceIte, reduceCtorEq, Int.reduceToNat, Int.reduceLT, Int.reduceLE, Int.reduceEq, Int.reduceAdd, Int.reduceSub, Int.reduceNeg, Int.reduceMul, Int.reduceNegSucc]))) | (first | omega | (simp (disch := omega) only [wrap_i64, wrap_i32, wrap_u8, wrap_u16]; omega) | (simp only [go_sem, Nat.reduceLT, Nat.reduceLeDiff, Nat.reduceEqDiff, Nat.reduceAdd, Nat.reduceSub, Nat.reduceMul, Nat.reduceBEq, Nat.reduceBNe, reduceIte, reduceCtorEq, Int.reduceToNat, Int.reduceLT, Int.reduceLE, Int.reduceEq, Int.reduceAdd, Int.reduceSub, Int.reduceNeg, Int.reduceMul, Int.reduceNegSucc]; omega) | (simp only [go_sem, *, Nat.reduceLT, Nat.reduceLeDiff, Nat.reduceEqDiff, Nat.reduceAdd, Nat.reduceSub, Nat.reduceMul, Nat.reduceBEq, Nat.reduceBNe, reduceIte, reduceCtorEq, Int.reduceToNat, Int.reduceLT, Int.reduceLE, Int.reduceEq, Int.reduceAdd, Int.reduceSub, Int.reduceNeg, Int.reduceMul, Int.reduceNegSucc]; done)))) | simp only [go_sem, hps, Nat.reduceLT, Nat.reduceLeDiff, Nat.reduceEqDiff, Nat.reduceAdd, Nat.reduceSub, Nat.reduceMul, Nat.reduceBEq, Nat.reduceBNe, reduceIte, reduceCtorEq, Int.reduceToNat, Int.reduceLT, Int.reduceLE, Int.reduceEq, Int.reduceAdd, Int.reduceSub, Int.reduceNeg, Int.reduceMul, Int.reduceNegSucc] | simp (disch := omega) only [wrap_i64, wrap_i32, wrap_u8, wrap_u16])
  refine Aw.Loop.mk (X := {k : Nat // k ≤ ps.length}) (fun k => ⟨[(13, .p (eI k.1)), (12, .p (eI ps.length)), (11, .p (.fro 10 (ps.map eF))), (5, .ptr 105 0), (4, .ptr 104 0), (0, .fptr [.fmap (r.map eK), .fro 3 (s.structs.map eSt), .fro 2 (s.enums.map eE), .fro 2 s.services])],
      [(105, some (.row 39 5 [.p (eI 12), .p (eI 0), .p (eS []), .sl 150 5 0 ((ps.take k.1).map (fun p => leastL f ⟨r, s⟩ p.type)).length, .sl 151 1 0 ((ps.take k.1).map (·.id)).length])), (104, some (.row 39 5 [.p (eI 0), .p (eI 0), .p (eS []), .p (.c (.slice none 0 0)), .p (.c (.slice none 0 0))])),
       (150, some (.row 39 5 ((flat (((ps.take k.1).map (fun p => leastL f ⟨r, s⟩ p.type)).map eV)).map .p))), (151, some (.row 3 1 ((((ps.take k.1).map (·.id)).map eI).map .p)))], [104, 105, 150, 151]⟩)
      (fun k => ps.length - k.1) ⟨0, by omega⟩ (LeS.trans (LeS.nil 105 3 150 39 5 rfl rfl rfl) (LeS.trans (LeS.nil 105 4 151 3 1 rfl rfl rfl) (LeS.via [] (by simp [go_sem,  List.set]) (by simp [go_sem,  List.set]) (by simp [go_sem,  List.set]) (by simp [go_sem,  List.set]) (by simp [go_sem,  List.set]) (by simp [go_sem]) (by simp [go_sem,  List.set])))) ?_
  rintro ⟨k, hk⟩
  have hk2 : k ≤ 1000000000 := by omega
  have hl1 : ((ps.take k).map (fun p => leastL f ⟨r, s⟩ p.type)).length = k := by simp; omega
  have hl2 : ((ps.take k).map (·.id)).length = k := by simp; omega
  simp only
  generalize hvs : (ps.take k).map (fun p => leastL f ⟨r, s⟩ p.type) = vs at hl1
  generalize his : (ps.take k).map (·.id) = ids at hl2
  repeat' (first | ((with_reducible refine Brn.mk (fun h => ?_) (fun h => ?_)) <;> (simp only [Un_u, h]; try simp only [decide_eq_true_eq, decide_eq_false_iff_not, beq_iff_eq, bne_iff_ne, ne_eq, beq_eq_false_iff_ne, bne_eq_false_iff_eq, Bool.not_eq_true', Bool.not_eq_false', Bool.not_eq_true, Int.not_lt, Int.not_le, gt_iff_lt, ge_iff_le, not_true_eq_false, not_false_eq_true] at h)) | ((with_reducible apply goleast); (· rfl); (· omega); (· exact hgood _ (el_mem (by omega)))) | ((with_reducible apply Draw.hit); (with_reducible refine Draw.mix 17 [[], [0], [], [2], [2, 3], [0, 1, 2, 3, 4], [], [6], [], [], [9], [0, 1, 2, 3, 4, 5, 8, 9, 10], [0, 1, 2, 3, 4, 5, 8, 9, 10, 11], [0, 1, 2, 3, 4, 5, 6, 7, 8, 9, 10, 11, 12], [0, 1, 2, 3, 4, 5, 6, 7], [0, 1, 2, 3, 4, 5, 6, 7, 8, 9, 10, 11, 12, 13, 14], [0, 1, 2, 3, 4, 5, 6, 7, 8, 9, 10, 11, 12, 13, 14, 15], [0, 1, 2, 3, 4, 5, 6, 7, 8, 9, 10, 11, 12, 13, 14, 15, 16]] [some ([], [121]), some ([], [121]), none, none, some ([121], []), some ([122, 151], []), some ([], [121, 122, 129, 151]), some ([], [121, 122, 129, 151]), some ([], [121, 122, 151]), some ([], [121, 122, 151]), some ([], [121, 122, 151]), none, some ([129], []), some ([130, 150], []), some ([], [129, 130, 150]), some ([105], []), none, some ([105], [])] ?_ ?_ ?_ ?_ ?_); (· rfl); (· kernel_rfl); (· kernel_rfl); (· kernel_rfl)) | ((with_reducible refine Req.mk ?_ ?_); (· first | (first | ((with_reducible refine of_eq_true (chk_op ?_ ?_)); (· rfl); (· simp only [go_sem, Nat.reduceLT, Nat.reduceLeDiff, Nat.reduceEqDiff, Nat.reduceAdd, Nat.reduceSub, Nat.reduceMul, Nat.reduceBEq, Nat.reduceBNe, reduceIte, reduceCtorEq, Int.reduceToNat, Int.reduceLT, Int.reduceLE, Int.reduceEq, Int.reduceAdd, Int.reduceSub, Int.reduceNeg, Int.reduceMul, Int.reduceNegSucc])) | ((with_reducible refine of_eq_true (chk_op_g ?_ ?_)); (· rfl); (· simp only [go_sem, Nat.reduceLT, Nat.reduceLeDiff, Nat.reduceEqDiff, Nat.reduceAdd, Nat.reduceSub, Nat.reduceMul, Nat.reduceBEq, Nat.reduceBNe, reduceIte, reduceCtorEq, Int.reduceToNat, Int.reduceLT, Int.reduceLE, Int.reduceEq, Int.reduceAdd, Int.reduceSub, Int.reduceNeg, Int.reduceMul, Int.reduceNegSucc]))) | (first | omega | (simp (disch := omega) only [wrap_i64, wrap_i32, wrap_u8, wrap_u16]; omega) | (simp only [go_sem, Nat.reduceLT, Nat.reduceLeDiff, Nat.reduceEqDiff, Nat.reduceAdd, Nat.reduceSub, Nat.reduceMul, Nat.reduceBEq, Nat.reduceBNe, reduceIte, reduceCtorEq, Int.reduceToNat, Int.reduceLT, Int.reduceLE, Int.reduceEq, Int.reduceAdd, Int.reduceSub, Int.reduceNeg, Int.reduceMul, Int.reduceNegSucc]; omega) | (simp only [go_sem, *, Nat.reduceLT, Nat.reduceLeDiff, Nat.reduceEqDiff, Nat.reduceAdd, Nat.reduceSub, Nat.reduceMul, Nat.reduceBEq, Nat.reduceBNe, reduceIte, reduceCtorEq, Int.reduceToNat, Int.reduceLT, Int.reduceLE, Int.reduceEq, Int.reduceAdd, Int.reduceSub, Int.reduceNeg, Int.reduceMul, Int.reduceNegSucc]; done)))) | simp only [go_sem, Nat.mul_one, Nat.reduceLT, Nat.reduceLeDiff, Nat.reduceEqDiff, Nat.reduceAdd, Nat.reduceSub, Nat.reduceMul, Nat.reduceBEq, Nat.reduceBNe, reduceIte, reduceCtorEq, Int.reduceToNat, Int.reduceLT, Int.reduceLE, Int.reduceEq, Int.reduceAdd, Int.reduceSub, Int.reduceNeg, Int.reduceMul, Int.reduceNegSucc] | simp (disch := omega) only [wrap_i64, wrap_i32, wrap_u8, wrap_u16])
  · have hel : ps[k]? = some (el ps (k : Int)) := by rw [el_nat ps k (by omega)]; exact List.getElem?_eq_getElem (by omega)
    have hv : (ps.take (k + 1)).map (fun p => leastL f ⟨r, s⟩ p.type) = vs ++ [leastL f ⟨r, s⟩ (el ps (k : Int)).type] := by rw [List.take_add_one, hel, List.map_append, hvs]; rfl
    have hi : (ps.take (k + 1)).map (·.id) = ids ++ [(el ps (k : Int)).id] := by rw [List.take_add_one, hel, List.map_append, his]; rfl
    refine ⟨⟨k + 1, by omega⟩, by simp only; omega, ?_⟩
    simp only [hv, hi]
    have hmin : min (k + 1) ps.length = k + 1 := by omega
    exact (LeS.via [(150, 130), (151, 122)] (by simp [go_sem,  hl1, hl2, hmin, -List.map_map]) (by simp [go_sem,  hl1, hl2, hmin, -List.map_map]) (by simp [go_sem,  hl1, hl2, hmin, -List.map_map]) (by simp [go_sem,  hl1, hl2, hmin, -List.map_map]) (by simp [go_sem,  hl1, hl2, hmin, -List.map_map]) (by simp [go_sem]) (by simp [go_sem,  hl1, hl2, hmin, -List.map_map]))
  · have hk' : k = ps.length := by omega
    subst hk'
    rw [List.take_length] at hvs his
    have hF : fieldsL (leastL f ⟨r, s⟩) ⟨r, s⟩ x = ⟨12, 0, [], vs, ids⟩ := by unfold fieldsL; rw [hps, hvs, his]
    rw [RetB_gen]
    simp only [retF, resF, optAll, List.map_cons, List.map_nil, Option.map_some, go_sem, Nat.reduceLT, Nat.reduceLeDiff, Nat.reduceEqDiff, Nat.reduceAdd, Nat.reduceSub, Nat.reduceMul, Nat.reduceBEq, Nat.reduceBNe, reduceIte, reduceCtorEq, Int.reduceToNat, Int.reduceLT, Int.reduceLE, Int.reduceEq, Int.reduceAdd, Int.reduceSub, Int.reduceNeg, Int.reduceMul, Int.reduceNegSucc]
    rw [snap_V7 (l := vs) (by simp [go_sem, TK.isSt, -List.map_map]), snap_I7 (l := ids) (by simp [go_sem, TK.isSt, -List.map_map])]
    simp [go_sem, optAll, hF]
theorem okleast (f : Nat) : (Sleast f).OK Try.prog 33 := by
  induction f with
  | zero => exact mkF_ok (fun x => x.ok.elim) (fun x => ⟨_, rfl⟩)
  | succ f ih =>
    refine mkF_ok (fun x => ?_) (fun x => ⟨_, rfl⟩)
    obtain ⟨⟨r, s⟩, t, ht, hx⟩ := x
    simp only at hx ⊢
    refine spec_w (Γ := [(52, Shead), (54, Senum), (53, Sstruct), (55, Sfields f)]) Dt_ok (.cons okhead (.cons okenum (.cons okstruct (.cons (okmfields f ih) .nil)))) mixed [] [.cell 4 39] Try.func33 rfl rfl Try.ntmps33 rfl rfl fun hg => ?_
    clear hg
    by_cases h1 : (headL t).kind = 0
    · replace hx := hx h1
      by_cases h2 : (enumL s (headL t).name).2 = true
      · rw [if_pos h2] at hx
        have hm : 0 < (enumL s (headL t).name).1.members.length := by cases hm : (enumL s (headL t).name).1.members with | nil => exact absurd hm hx | cons a l => simp
        have hL : leastL (f + 1) ⟨r, s⟩ t = ⟨17, (el (enumL s (headL t).name).1.members 0).n, [], [], []⟩ := by rw [leastL, if_neg (by simpa using h1), if_pos h2]
        repeat' (first | ((with_reducible refine Brn.mk (fun h => ?_) (fun h => ?_)) <;> (simp only [Un_u, h]; try simp only [decide_eq_true_eq, decide_eq_false_iff_not, beq_iff_eq, bne_iff_ne, ne_eq, beq_eq_false_iff_ne, bne_eq_false_iff_eq, Bool.not_eq_true', Bool.not_eq_false', Bool.not_eq_true, Int.not_lt, Int.not_le, gt_iff_lt, ge_iff_le, not_true_eq_false, not_false_eq_true] at h)) | ((with_reducible apply gohead); (· rfl); (· omega); (· exact ht)) | ((with_reducible apply goenum); (· rfl); (· omega)) | ((with_reducible refine Req.mk ?_ ?_); (· first | (first | ((with_reducible refine of_eq_true (chk_op ?_ ?_)); (· rfl); (· simp only [go_sem, Nat.reduceLT, Nat.reduceLeDiff, Nat.reduceEqDiff, Nat.reduceAdd, Nat.reduceSub, Nat.reduceMul, Nat.reduceBEq, Nat.reduceBNe, reduceIte, reduceCtorEq, Int.reduceToNat, Int.reduceLT, Int.reduceLE, Int.reduceEq, Int.reduceAdd, Int.reduceSub, Int.reduceNeg, Int.reduceMul, Int.reduceNegSucc])) | ((with_reducible refine of_eq_true (chk_op_g ?_ ?_)); (· rfl); (· simp only [go_sem, Nat.reduceLT, Nat.reduceLeDiff, Nat.reduceEqDiff, Nat.reduceAdd, Nat.reduceSub, Nat.reduceMul, Nat.reduceBEq, Nat.reduceBNe, reduceIte, reduceCtorEq, Int.reduceToNat, Int.reduceLT, Int.reduceLE, Int.reduceEq, Int.reduceAdd, Int.reduceSub, Int.reduceNeg, Int.reduceMul, Int.reduceNegSucc]))) | (first | omega | (simp (disch := omega) only [wrap_i64, wrap_i32, wrap_u8, wrap_u16]; omega) | (simp only [go_sem, Nat.reduceLT, Nat.reduceLeDiff, Nat.reduceEqDiff, Nat.reduceAdd, Nat.reduceSub, Nat.reduceMul, Nat.reduceBEq, Nat.reduceBNe, reduceIte, reduceCtorEq, Int.reduceToNat, Int.reduceLT, Int.reduceLE, Int.reduceEq, Int.reduceAdd, Int.reduceSub, Int.reduceNeg, Int.reduceMul, Int.reduceNegSucc]; omega) | (simp only [go_sem, *, Nat.reduceLT, Nat.reduceLeDiff, Nat.reduceEqDiff, Nat.reduceAdd, Nat.reduceSub, Nat.reduceMul, Nat.reduceBEq, Nat.reduceBNe, reduceIte, reduceCtorEq, Int.reduceToNat, Int.reduceLT, Int.reduceLE, Int.reduceEq, Int.reduceAdd, Int.reduceSub, Int.reduceNeg, Int.reduceMul, Int.reduceNegSucc]; done)))) | simp only [go_sem, h1, h2, Nat.reduceLT, Nat.reduceLeDiff, Nat.reduceEqDiff, Nat.reduceAdd, Nat.reduceSub, Nat.reduceMul, Nat.reduceBEq, Nat.reduceBNe, reduceIte, reduceCtorEq, Int.reduceToNat, Int.reduceLT, Int.reduceLE, Int.reduceEq, Int.reduceAdd, Int.reduceSub, Int.reduceNeg, Int.reduceMul, Int.reduceNegSucc] | simp (disch := omega) only [wrap_i64, wrap_i32, wrap_u8, wrap_u16])
        all_goals simp [RetB_gen, retF, resF, optAll, go_sem, hL, TK.isSt]
      · rw [if_neg h2] at hx
        have h2' : (enumL s (headL t).name).2 = false := by simpa using h2
        have hL : leastL (f + 1) ⟨r, s⟩ t = fieldsL (leastL f ⟨r, s⟩) ⟨r, s⟩ (structL s (headL t).name).1 := by rw [leastL, if_neg (by simpa using h1), if_neg h2]
        repeat' (first | ((with_reducible refine Brn.mk (fun h => ?_) (fun h => ?_)) <;> (simp only [Un_u, h]; try simp only [decide_eq_true_eq, decide_eq_false_iff_not, beq_iff_eq, bne_iff_ne, ne_eq, beq_eq_false_iff_ne, bne_eq_false_iff_eq, Bool.not_eq_true', Bool.not_eq_false', Bool.not_eq_true, Int.not_lt, Int.not_le, gt_iff_lt, ge_iff_le, not_true_eq_false, not_false_eq_true] at h)) | ((with_reducible apply gohead); (· rfl); (· omega); (· exact ht)) | ((with_reducible apply goenum); (· rfl); (· omega)) | ((with_reducible apply gostruct); (· rfl); (· omega)) | ((with_reducible apply gomfields); (· rfl); (· omega); (· exact hx)) | ((with_reducible refine Req.mk ?_ ?_); (· first | (first | ((with_reducible refine of_eq_true (chk_op ?_ ?_)); (· rfl); (· simp only [go_sem, Nat.reduceLT, Nat.reduceLeDiff, Nat.reduceEqDiff, Nat.reduceAdd, Nat.reduceSub, Nat.reduceMul, Nat.reduceBEq, Nat.reduceBNe, reduceIte, reduceCtorEq, Int.reduceToNat, Int.reduceLT, Int.reduceLE, Int.reduceEq, Int.reduceAdd, Int.reduceSub, Int.reduceNeg, Int.reduceMul, Int.reduceNegSucc])) | ((with_reducible refine of_eq_true (chk_op_g ?_ ?_)); (· rfl); (· simp only [go_sem, Nat.reduceLT, Nat.reduceLeDiff, Nat.reduceEqDiff, Nat.reduceAdd, Nat.reduceSub, Nat.reduceMul, Nat.reduceBEq, Nat.reduceBNe, reduceIte, reduceCtorEq, Int.reduceToNat, Int.reduceLT, Int.reduceLE, Int.reduceEq, Int.reduceAdd, Int.reduceSub, Int.reduceNeg, Int.reduceMul, Int.reduceNegSucc]))) | (first | omega | (simp (disch := omega) only [wrap_i64, wrap_i32, wrap_u8, wrap_u16]; omega) | (simp only [go_sem, Nat.reduceLT, Nat.reduceLeDiff, Nat.reduceEqDiff, Nat.reduceAdd, Nat.reduceSub, Nat.reduceMul, Nat.reduceBEq, Nat.reduceBNe, reduceIte, reduceCtorEq, Int.reduceToNat, Int.reduceLT, Int.reduceLE, Int.reduceEq, Int.reduceAdd, Int.reduceSub, Int.reduceNeg, Int.reduceMul, Int.reduceNegSucc]; omega) | (simp only [go_sem, *, Nat.reduceLT, Nat.reduceLeDiff, Nat.reduceEqDiff, Nat.reduceAdd, Nat.reduceSub, Nat.reduceMul, Nat.reduceBEq, Nat.reduceBNe, reduceIte, reduceCtorEq, Int.reduceToNat, Int.reduceLT, Int.reduceLE, Int.reduceEq, Int.reduceAdd, Int.reduceSub, Int.reduceNeg, Int.reduceMul, Int.reduceNegSucc]; done)))) | simp only [go_sem, h1, h2', Nat.reduceLT, Nat.reduceLeDiff, Nat.reduceEqDiff, Nat.reduceAdd, Nat.reduceSub, Nat.reduceMul, Nat.reduceBEq, Nat.reduceBNe, reduceIte, reduceCtorEq, Int.reduceToNat, Int.reduceLT, Int.reduceLE, Int.reduceEq, Int.reduceAdd, Int.reduceSub, Int.reduceNeg, Int.reduceMul, Int.reduceNegSucc] | simp (disch := omega) only [wrap_i64, wrap_i32, wrap_u8, wrap_u16])
        all_goals simp [RetB_gen, retF, resF, optAll, go_sem, hL, TK.isSt]
    · have hL : leastL (f + 1) ⟨r, s⟩ t = ⟨(headL t).kind, 0, [], [], []⟩ := by rw [leastL, if_pos h1]
      repeat' (first | ((with_reducible refine Brn.mk (fun h => ?_) (fun h => ?_)) <;> (simp only [Un_u, h]; try simp only [decide_eq_true_eq, decide_eq_false_iff_not, beq_iff_eq, bne_iff_ne, ne_eq, beq_eq_false_iff_ne, bne_eq_false_iff_eq, Bool.not_eq_true', Bool.not_eq_false', Bool.not_eq_true, Int.not_lt, Int.not_le, gt_iff_lt, ge_iff_le, not_true_eq_false, not_false_eq_true] at h)) | ((with_reducible apply gohead); (· rfl); (· omega); (· exact ht)) | ((with_reducible apply goenum); (· rfl); (· omega)) | ((with_reducible apply gostruct); (· rfl); (· omega)) | ((with_reducible refine Req.mk ?_ ?_); (· first | (first | ((with_reducible refine of_eq_true (chk_op ?_ ?_)); (· rfl); (· simp only [go_sem, Nat.reduceLT, Nat.reduceLeDiff, Nat.reduceEqDiff, Nat.reduceAdd, Nat.reduceSub, Nat.reduceMul, Nat.reduceBEq, Nat.reduceBNe, reduceIte, reduceCtorEq, Int.reduceToNat, Int.reduceLT, Int.reduceLE, Int.reduceEq, Int.reduceAdd, Int.reduceSub, Int.reduceNeg, Int.reduceMul, Int.reduceNegSucc])) | ((with_reducible refine of_eq_true (chk_op_g ?_ ?_)); (· rfl); (· simp only [go_sem, Nat.reduceLT, Nat.reduceLeDiff, Nat.reduceEqDiff, Nat.reduceAdd, Nat.reduceSub, Nat.reduceMul, Nat.reduceBEq, Nat.reduceBNe, reduceIte, reduceCtorEq, Int.reduceToNat, Int.reduceLT, Int.reduceLE, Int.reduceEq, Int.reduceAdd, Int.reduceSub, Int.reduceNeg, Int.reduceMul, Int.reduceNegSucc]))) | (first | omega | (simp (disch := omega) only [wrap_i64, wrap_i32, wrap_u8, wrap_u16]; omega) | (simp only [go_sem, Nat.reduceLT, Nat.reduceLeDiff, Nat.reduceEqDiff, Nat.reduceAdd, Nat.reduceSub, Nat.reduceMul, Nat.reduceBEq, Nat.reduceBNe, reduceIte, reduceCtorEq, Int.reduceToNat, Int.reduceLT, Int.reduceLE, Int.reduceEq, Int.reduceAdd, Int.reduceSub, Int.reduceNeg, Int.reduceMul, Int.reduceNegSucc]; omega) | (simp only [go_sem, *, Nat.reduceLT, Nat.reduceLeDiff, Nat.reduceEqDiff, Nat.reduceAdd, Nat.reduceSub, Nat.reduceMul, Nat.reduceBEq, Nat.reduceBNe, reduceIte, reduceCtorEq, Int.reduceToNat, Int.reduceLT, Int.reduceLE, Int.reduceEq, Int.reduceAdd, Int.reduceSub, Int.reduceNeg, Int.reduceMul, Int.reduceNegSucc]; done)))) | simp only [go_sem, h1, Nat.reduceLT, Nat.reduceLeDiff, Nat.reduceEqDiff, Nat.reduceAdd, Nat.reduceSub, Nat.reduceMul, Nat.reduceBEq, Nat.reduceBNe, reduceIte, reduceCtorEq, Int.reduceToNat, Int.reduceLT, Int.reduceLE, Int.reduceEq, Int.reduceAdd, Int.reduceSub, Int.reduceNeg, Int.reduceMul, Int.reduceNegSucc] | simp (disch := omega) only [wrap_i64, wrap_i32, wrap_u8, wrap_u16])
      all_goals first
        | (exfalso; omega)
        | simp [RetB_gen, retF, resF, optAll, go_sem, hL, TK.isSt]
end Go.Proofs.Ythiddkhonklbkaa

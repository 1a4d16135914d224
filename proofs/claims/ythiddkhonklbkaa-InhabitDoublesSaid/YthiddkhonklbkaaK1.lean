/- Contracts: types as texts (package kind). -/
import Derived.Test.YthiddkhonklbkaaTy
set_option linter.unusedVariables false
set_option linter.unusedSimpArgs false
set_option maxRecDepth 20000
set_option maxHeartbeats 4000000
namespace Go.Proofs.Ythiddkhonklbkaa
open Go Go.Aw
theorem mixed : Try.prog.follows .mixedOrders = true := by kernel_rfl

/-! ### letters and words -/
def letterL (b : Int) : Bool := b == 95 || (decide (97 ≤ b) && decide (b ≤ 122)) || (decide (65 ≤ b) && decide (b ≤ 90))
noncomputable def Sletter : Aw.Spec := .b (mkF (fun x : Int => match x with | b => [.p (.c (.int .u8 b))]) fun x => match x with | b => is (eB (letterL b)))
theorem injletter : ∀ x y : Int, (match x with | b => [.p (.c (.int .u8 b))] : List AV) = (match y with | b => [.p (.c (.int .u8 b))]) → x = y := by
  rintro b b' h
  simp only [List.cons.injEq, AV.p.injEq, AV.fptr.injEq, PV.fro.injEq, PV.fmap.injEq, PV.c.injEq, Value.int.injEq, keys_inj, names_inj, true_and, and_true, eI_inj, eB_inj, eS_inj, str_inj, eV_inj, eF_inj, eSt_inj, eM_inj, eE_inj, eSc_inj, ints_inj, vals_inj, fields_inj, structs_inj, members_inj, enums_inj] at h
  simp_all
theorem goletter {Γ : Specs} {D : Types} {n0 : Nat} {t0 : List (Nat × AV)} {H0 : Heap} {u0 : List Nat} {K0 : Kn} {d0 : Nat} {b : Int} (hg : Aw.look Γ 135 = some Sletter) (hd : d0 < n0) (hK : K0.k ⟨(d0, .p (eB (letterL b))) :: t0, H0, u0⟩) : @CallG Γ D n0 135 [.p (.c (.int .u8 b))] ⟨t0, H0, u0⟩ (some d0) K0 := by
  have h := call_mk (Γ := Γ) (D := D) (n := n0) (s := ⟨t0, H0, u0⟩) (K := K0) (d := some d0) hg injletter b (by simp [AV.idsL, AV.ids])
  simp only [eV_mk, eI, eS, eB, eSc, eSt, eE, eF, eM] at h
  rw [h]; refine CallA_go hd ?_; exact hK
theorem okletter : Sletter.OK Try.prog 135 := by
  refine mkF_ok (fun b => ?_) (fun b => ⟨_, rfl⟩)
  refine spec_b (Γ := []) Dt_ok .nil mixed [] [.tmp 2] Try.func135 rfl rfl Try.ntmps135 rfl rfl fun hg => ?_
  repeat' (first | ((with_reducible refine Brn.mk (fun h => ?_) (fun h => ?_)) <;> (simp only [Un_u, h]; try simp only [decide_eq_true_eq, decide_eq_false_iff_not, beq_iff_eq, bne_iff_ne, ne_eq, beq_eq_false_iff_ne, bne_eq_false_iff_eq, Bool.not_eq_true', Bool.not_eq_false', Bool.not_eq_true, Int.not_lt, Int.not_le, gt_iff_lt, ge_iff_le, not_true_eq_false, not_false_eq_true] at h)) | ((with_reducible refine Req.mk ?_ ?_); (· first | (first | ((with_reducible refine of_eq_true (chk_op ?_ ?_)); (· rfl); (· simp only [go_sem, Nat.reduceLT, Nat.reduceLeDiff, Nat.reduceEqDiff, Nat.reduceAdd, Nat.reduceSub, Nat.reduceMul, Nat.reduceBEq, Nat.reduceBNe, reduceIte, reduceCtorEq, Int.reduceToNat, Int.reduceLT, Int.reduceLE, Int.reduceEq, Int.reduceAdd, Int.reduceSub, Int.reduceNeg, Int.reduceMul, Int.reduceNegSucc])) | ((with_reducible refine of_eq_true (chk_op_g ?_ ?_)); (· rfl); (· simp only [go_sem, Nat.reduceLT, Nat.reduceLeDiff, Nat.reduceEqDiff, Nat.reduceAdd, Nat.reduceSub, Nat.reduceMul, Nat.reduceBEq, Nat.reduceBNe, reduceIte, reduceCtorEq, Int.reduceToNat, Int.reduceLT, Int.reduceLE, Int.reduceEq, Int.reduceAdd, Int.reduceSub, Int.reduceNeg, Int.reduceMul, Int.reduceNegSucc]))) | (first | omega | (simp (disch := omega) only [wrap_i64, wrap_i32, wrap_u8, wrap_u16]; omega) | (simp only [go_sem, Nat.reduceLT, Nat.reduceLeDiff, Nat.reduceEqDiff, Nat.reduceAdd, Nat.reduceSub, Nat.reduceMul, Nat.reduceBEq, Nat.reduceBNe, reduceIte, reduceCtorEq, Int.reduceToNat, Int.reduceLT, Int.reduceLE, Int.reduceEq, Int.reduceAdd, Int.reduceSub, Int.reduceNeg, Int.reduceMul, Int.reduceNegSucc]; omega) | (simp only [go_sem, *, Nat.reduceLT, Nat.reduceLeDiff, Nat.reduceEqDiff, Nat.reduceAdd, Nat.reduceSub, Nat.reduceMul, Nat.reduceBEq, Nat.reduceBNe, reduceIte, reduceCtorEq, Int.reduceToNat, Int.reduceLT, Int.reduceLE, Int.reduceEq, Int.reduceAdd, Int.reduceSub, Int.reduceNeg, Int.reduceMul, Int.reduceNegSucc]; done)))) | simp only [go_sem, Nat.reduceLT, Nat.reduceLeDiff, Nat.reduceEqDiff, Nat.reduceAdd, Nat.reduceSub, Nat.reduceMul, Nat.reduceBEq, Nat.reduceBNe, reduceIte, reduceCtorEq, Int.reduceToNat, Int.reduceLT, Int.reduceLE, Int.reduceEq, Int.reduceAdd, Int.reduceSub, Int.reduceNeg, Int.reduceMul, Int.reduceNegSucc] | simp (disch := omega) only [wrap_i64, wrap_i32, wrap_u8, wrap_u16])
  all_goals (refine congrArg (fun b => PV.c (Value.bool b)) ?_; rw [Bool.eq_iff_iff]; simp [letterL]; try omega)

def wordL (l : List UInt8) : Int :=
  if l = [98, 111, 111, 108] then 2 else if l = [105, 56] then 3 else if l = [105, 49, 54] then 6 else if l = [105, 51, 50] then 8 else if l = [105, 54, 52] then 10 else
  if l = [100, 111, 117, 98, 108, 101] then 4 else if l = [115, 116, 114, 105, 110, 103] then 11 else if l = [98, 105, 110, 97, 114, 121] then 16 else if l = [108, 105, 115, 116] then 15 else
  if l = [115, 101, 116] then 14 else if l = [109, 97, 112] then 13 else 0
noncomputable def Sword : Aw.Spec := .b (mkF (fun x : List UInt8 => match x with | l => [.p (eS l)]) fun x => match x with | l => is (eI (wordL l)))
theorem injword : ∀ x y : List UInt8, (match x with | l => [.p (eS l)] : List AV) = (match y with | l => [.p (eS l)]) → x = y := by
  rintro l l' h
  simp only [List.cons.injEq, AV.p.injEq, AV.fptr.injEq, PV.fro.injEq, PV.fmap.injEq, PV.c.injEq, Value.int.injEq, keys_inj, names_inj, true_and, and_true, eI_inj, eB_inj, eS_inj, str_inj, eV_inj, eF_inj, eSt_inj, eM_inj, eE_inj, eSc_inj, ints_inj, vals_inj, fields_inj, structs_inj, members_inj, enums_inj] at h
  simp_all
theorem goword {Γ : Specs} {D : Types} {n0 : Nat} {t0 : List (Nat × AV)} {H0 : Heap} {u0 : List Nat} {K0 : Kn} {d0 : Nat} {l : List UInt8} (hg : Aw.look Γ 124 = some Sword) (hd : d0 < n0) (hK : K0.k ⟨(d0, .p (eI (wordL l))) :: t0, H0, u0⟩) : @CallG Γ D n0 124 [.p (.c (str l))] ⟨t0, H0, u0⟩ (some d0) K0 := by
  have h := call_mk (Γ := Γ) (D := D) (n := n0) (s := ⟨t0, H0, u0⟩) (K := K0) (d := some d0) hg injword l (by simp [AV.idsL, AV.ids])
  simp only [eV_mk, eI, eS, eB, eSc, eSt, eE, eF, eM] at h
  rw [h]; refine CallA_go hd ?_; exact hK
theorem okword : Sword.OK Try.prog 124 := by
  refine mkF_ok (fun l => ?_) (fun b => ⟨_, rfl⟩)
  refine spec_b (Γ := []) Dt_ok .nil mixed [] [.tmp 2] Try.func124 rfl rfl Try.ntmps124 rfl rfl fun hg => ?_
  repeat' (first | ((with_reducible refine Brn.mk (fun h => ?_) (fun h => ?_)) <;> (simp only [Un_u, h]; try simp only [decide_eq_true_eq, decide_eq_false_iff_not, beq_iff_eq, bne_iff_ne, ne_eq, beq_eq_false_iff_ne, bne_eq_false_iff_eq, Bool.not_eq_true', Bool.not_eq_false', Bool.not_eq_true, Int.not_lt, Int.not_le, gt_iff_lt, ge_iff_le, not_true_eq_false, not_false_eq_true] at h)) | ((with_reducible refine Req.mk ?_ ?_); (· first | (first | ((with_reducible refine of_eq_true (chk_op ?_ ?_)); (· rfl); (· simp only [go_sem, Nat.reduceLT, Nat.reduceLeDiff, Nat.reduceEqDiff, Nat.reduceAdd, Nat.reduceSub, Nat.reduceMul, Nat.reduceBEq, Nat.reduceBNe, reduceIte, reduceCtorEq, Int.reduceToNat, Int.reduceLT, Int.reduceLE, Int.reduceEq, Int.reduceAdd, Int.reduceSub, Int.reduceNeg, Int.reduceMul, Int.reduceNegSucc])) | ((with_reducible refine of_eq_true (chk_op_g ?_ ?_)); (· rfl); (· simp only [go_sem, Nat.reduceLT, Nat.reduceLeDiff, Nat.reduceEqDiff, Nat.reduceAdd, Nat.reduceSub, Nat.reduceMul, Nat.reduceBEq, Nat.reduceBNe, reduceIte, reduceCtorEq, Int.reduceToNat, Int.reduceLT, Int.reduceLE, Int.reduceEq, Int.reduceAdd, Int.reduceSub, Int.reduceNeg, Int.reduceMul, Int.reduceNegSucc]))) | (first | omega | (simp (disch := omega) only [wrap_i64, wrap_i32, wrap_u8, wrap_u16]; omega) | (simp only [go_sem, Nat.reduceLT, Nat.reduceLeDiff, Nat.reduceEqDiff, Nat.reduceAdd, Nat.reduceSub, Nat.reduceMul, Nat.reduceBEq, Nat.reduceBNe, reduceIte, reduceCtorEq, Int.reduceToNat, Int.reduceLT, Int.reduceLE, Int.reduceEq, Int.reduceAdd, Int.reduceSub, Int.reduceNeg, Int.reduceMul, Int.reduceNegSucc]; omega) | (simp only [go_sem, *, Nat.reduceLT, Nat.reduceLeDiff, Nat.reduceEqDiff, Nat.reduceAdd, Nat.reduceSub, Nat.reduceMul, Nat.reduceBEq, Nat.reduceBNe, reduceIte, reduceCtorEq, Int.reduceToNat, Int.reduceLT, Int.reduceLE, Int.reduceEq, Int.reduceAdd, Int.reduceSub, Int.reduceNeg, Int.reduceMul, Int.reduceNegSucc]; done)))) | simp only [go_sem, Nat.reduceLT, Nat.reduceLeDiff, Nat.reduceEqDiff, Nat.reduceAdd, Nat.reduceSub, Nat.reduceMul, Nat.reduceBEq, Nat.reduceBNe, reduceIte, reduceCtorEq, Int.reduceToNat, Int.reduceLT, Int.reduceLE, Int.reduceEq, Int.reduceAdd, Int.reduceSub, Int.reduceNeg, Int.reduceMul, Int.reduceNegSucc] | simp (disch := omega) only [wrap_i64, wrap_i32, wrap_u8, wrap_u16])
  all_goals simp_all [wordL]

def innerL (k : Int) : Int := if k = 15 ∨ k = 14 then 1 else if k = 13 then 2 else 0
noncomputable def Sinner : Aw.Spec := .b (mkF (fun x : Int => match x with | k => [.p (eI k)]) fun x => match x with | k => is (eI (innerL k)))
theorem injinner : ∀ x y : Int, (match x with | k => [.p (eI k)] : List AV) = (match y with | k => [.p (eI k)]) → x = y := by
  rintro k k' h
  simp only [List.cons.injEq, AV.p.injEq, AV.fptr.injEq, PV.fro.injEq, PV.fmap.injEq, PV.c.injEq, Value.int.injEq, keys_inj, names_inj, true_and, and_true, eI_inj, eB_inj, eS_inj, str_inj, eV_inj, eF_inj, eSt_inj, eM_inj, eE_inj, eSc_inj, ints_inj, vals_inj, fields_inj, structs_inj, members_inj, enums_inj] at h
  simp_all
theorem goinner {Γ : Specs} {D : Types} {n0 : Nat} {t0 : List (Nat × AV)} {H0 : Heap} {u0 : List Nat} {K0 : Kn} {d0 : Nat} {k : Int} (hg : Aw.look Γ 127 = some Sinner) (hd : d0 < n0) (hK : K0.k ⟨(d0, .p (eI (innerL k))) :: t0, H0, u0⟩) : @CallG Γ D n0 127 [.p (.c (.int .i64 k))] ⟨t0, H0, u0⟩ (some d0) K0 := by
  have h := call_mk (Γ := Γ) (D := D) (n := n0) (s := ⟨t0, H0, u0⟩) (K := K0) (d := some d0) hg injinner k (by simp [AV.idsL, AV.ids])
  simp only [eV_mk, eI, eS, eB, eSc, eSt, eE, eF, eM] at h
  rw [h]; refine CallA_go hd ?_; exact hK
theorem okinner : Sinner.OK Try.prog 127 := by
  refine mkF_ok (fun l => ?_) (fun b => ⟨_, rfl⟩)
  refine spec_b (Γ := []) Dt_ok .nil mixed [] [.tmp 2] Try.func127 rfl rfl Try.ntmps127 rfl rfl fun hg => ?_
  repeat' (first | ((with_reducible refine Brn.mk (fun h => ?_) (fun h => ?_)) <;> (simp only [Un_u, h]; try simp only [decide_eq_true_eq, decide_eq_false_iff_not, beq_iff_eq, bne_iff_ne, ne_eq, beq_eq_false_iff_ne, bne_eq_false_iff_eq, Bool.not_eq_true', Bool.not_eq_false', Bool.not_eq_true, Int.not_lt, Int.not_le, gt_iff_lt, ge_iff_le, not_true_eq_false, not_false_eq_true] at h)) | ((with_reducible refine Req.mk ?_ ?_); (· first | (first | ((with_reducible refine of_eq_true (chk_op ?_ ?_)); (· rfl); (· simp only [go_sem, Nat.reduceLT, Nat.reduceLeDiff, Nat.reduceEqDiff, Nat.reduceAdd, Nat.reduceSub, Nat.reduceMul, Nat.reduceBEq, Nat.reduceBNe, reduceIte, reduceCtorEq, Int.reduceToNat, Int.reduceLT, Int.reduceLE, Int.reduceEq, Int.reduceAdd, Int.reduceSub, Int.reduceNeg, Int.reduceMul, Int.reduceNegSucc])) | ((with_reducible refine of_eq_true (chk_op_g ?_ ?_)); (· rfl); (· simp only [go_sem, Nat.reduceLT, Nat.reduceLeDiff, Nat.reduceEqDiff, Nat.reduceAdd, Nat.reduceSub, Nat.reduceMul, Nat.reduceBEq, Nat.reduceBNe, reduceIte, reduceCtorEq, Int.reduceToNat, Int.reduceLT, Int.reduceLE, Int.reduceEq, Int.reduceAdd, Int.reduceSub, Int.reduceNeg, Int.reduceMul, Int.reduceNegSucc]))) | (first | omega | (simp (disch := omega) only [wrap_i64, wrap_i32, wrap_u8, wrap_u16]; omega) | (simp only [go_sem, Nat.reduceLT, Nat.reduceLeDiff, Nat.reduceEqDiff, Nat.reduceAdd, Nat.reduceSub, Nat.reduceMul, Nat.reduceBEq, Nat.reduceBNe, reduceIte, reduceCtorEq, Int.reduceToNat, Int.reduceLT, Int.reduceLE, Int.reduceEq, Int.reduceAdd, Int.reduceSub, Int.reduceNeg, Int.reduceMul, Int.reduceNegSucc]; omega) | (simp only [go_sem, *, Nat.reduceLT, Nat.reduceLeDiff, Nat.reduceEqDiff, Nat.reduceAdd, Nat.reduceSub, Nat.reduceMul, Nat.reduceBEq, Nat.reduceBNe, reduceIte, reduceCtorEq, Int.reduceToNat, Int.reduceLT, Int.reduceLE, Int.reduceEq, Int.reduceAdd, Int.reduceSub, Int.reduceNeg, Int.reduceMul, Int.reduceNegSucc]; done)))) | simp only [go_sem, Nat.reduceLT, Nat.reduceLeDiff, Nat.reduceEqDiff, Nat.reduceAdd, Nat.reduceSub, Nat.reduceMul, Nat.reduceBEq, Nat.reduceBNe, reduceIte, reduceCtorEq, Int.reduceToNat, Int.reduceLT, Int.reduceLE, Int.reduceEq, Int.reduceAdd, Int.reduceSub, Int.reduceNeg, Int.reduceMul, Int.reduceNegSucc] | simp (disch := omega) only [wrap_i64, wrap_i32, wrap_u8, wrap_u16])
  all_goals simp_all [innerL]

/-! ### the cursor -/
structure Cur where
  s : List UInt8
  at_ : Int
  e : Int
  depth : Int
theorem curEta (c : Cur) : Cur.mk c.s c.at_ c.e c.depth = c := rfl
def curB (c : Cur) (nm : AV) : Blk := .row 136 5 [.p (eS c.s), .p (eI c.at_), .p (eI c.e), nm, .p (eI c.depth)]
/-- The same, cell by cell. -/
abbrev rowC (s : List UInt8) (a e : Int) (j n : Nat) (d : Int) : Blk := .row 136 5 [.p (.c (str s)), .p (.c (.int .i64 a)), .p (.c (.int .i64 e)), .sl j 1 0 n, .p (.c (.int .i64 d))]
abbrev rowN (ns : List (List UInt8)) : Blk := .row 9 1 ((ns.map eS).map .p)
def failsE (is : Bool) (c e : Int) : Int := if is = true ∧ c = 0 then e else c
def failsL (c : Cur) (is : Bool) (e : Int) : Cur := ⟨c.s, c.at_, failsE is c.e e, c.depth⟩
def namesR (ns : List (List UInt8)) : Blk := .row 9 1 ((ns.map eS).map .p)
/-- The cursor (name 0) and its names (name 1). -/
def curH (c : Cur) (ns : List (List UInt8)) : Heap := [(0, some (curB c (.sl 1 1 0 ns.length))), (1, some (namesR ns))]
structure XFails where
  c : Cur
  ns : List (List UInt8)
  is : Bool
  e : Int
noncomputable def Sfails : Aw.Spec := .s (mkG (fun x : XFails => ([.ptr 0 0, .p (eB x.is), .p (eI x.e)], curH x.c x.ns)) (fun _ => 0) fun x => isS (.p (.tup [])) (curH (failsL x.c x.is x.e) x.ns))
theorem okfails : Sfails.OK Try.prog 115 := by
  refine mkG_ok (fun x => ?_) (fun x => ⟨_, _, rfl, rfl⟩)
  obtain ⟨c, ns, b, e⟩ := x
  refine spec_s (Γ := []) Dt_ok .nil mixed [] [] Try.func115 rfl rfl Try.ntmps115 rfl [0, 1] 2 rfl rfl rfl rfl fun hg => ?_
  simp only [curH, curB, namesR]
  repeat' (first | ((with_reducible refine Brn.mk (fun h => ?_) (fun h => ?_)) <;> (simp only [Un_u, h]; try simp only [decide_eq_true_eq, decide_eq_false_iff_not, beq_iff_eq, bne_iff_ne, ne_eq, beq_eq_false_iff_ne, bne_eq_false_iff_eq, Bool.not_eq_true', Bool.not_eq_false', Bool.not_eq_true, Int.not_lt, Int.not_le, gt_iff_lt, ge_iff_le, not_true_eq_false, not_false_eq_true] at h)) | ((with_reducible refine Req.mk ?_ ?_); (· first | (first | ((with_reducible refine of_eq_true (chk_op ?_ ?_)); (· rfl); (· simp only [go_sem, Nat.reduceLT, Nat.reduceLeDiff, Nat.reduceEqDiff, Nat.reduceAdd, Nat.reduceSub, Nat.reduceMul, Nat.reduceBEq, Nat.reduceBNe, reduceIte, reduceCtorEq, Int.reduceToNat, Int.reduceLT, Int.reduceLE, Int.reduceEq, Int.reduceAdd, Int.reduceSub, Int.reduceNeg, Int.reduceMul, Int.reduceNegSucc])) | ((with_reducible refine of_eq_true (chk_op_g ?_ ?_)); (· rfl); (· simp only [go_sem, Nat.reduceLT, Nat.reduceLeDiff, Nat.reduceEqDiff, Nat.reduceAdd, Nat.reduceSub, Nat.reduceMul, Nat.reduceBEq, Nat.reduceBNe, reduceIte, reduceCtorEq, Int.reduceToNat, Int.reduceLT, Int.reduceLE, Int.reduceEq, Int.reduceAdd, Int.reduceSub, Int.reduceNeg, Int.reduceMul, Int.reduceNegSucc]))) | (first | omega | (simp (disch := omega) only [wrap_i64, wrap_i32, wrap_u8, wrap_u16]; omega) | (simp only [go_sem, Nat.reduceLT, Nat.reduceLeDiff, Nat.reduceEqDiff, Nat.reduceAdd, Nat.reduceSub, Nat.reduceMul, Nat.reduceBEq, Nat.reduceBNe, reduceIte, reduceCtorEq, Int.reduceToNat, Int.reduceLT, Int.reduceLE, Int.reduceEq, Int.reduceAdd, Int.reduceSub, Int.reduceNeg, Int.reduceMul, Int.reduceNegSucc]; omega) | (simp only [go_sem, *, Nat.reduceLT, Nat.reduceLeDiff, Nat.reduceEqDiff, Nat.reduceAdd, Nat.reduceSub, Nat.reduceMul, Nat.reduceBEq, Nat.reduceBNe, reduceIte, reduceCtorEq, Int.reduceToNat, Int.reduceLT, Int.reduceLE, Int.reduceEq, Int.reduceAdd, Int.reduceSub, Int.reduceNeg, Int.reduceMul, Int.reduceNegSucc]; done)))) | simp only [go_sem, Nat.reduceLT, Nat.reduceLeDiff, Nat.reduceEqDiff, Nat.reduceAdd, Nat.reduceSub, Nat.reduceMul, Nat.reduceBEq, Nat.reduceBNe, reduceIte, reduceCtorEq, Int.reduceToNat, Int.reduceLT, Int.reduceLE, Int.reduceEq, Int.reduceAdd, Int.reduceSub, Int.reduceNeg, Int.reduceMul, Int.reduceNegSucc] | simp (disch := omega) only [wrap_i64, wrap_i32, wrap_u8, wrap_u16])
  all_goals (refine RetS.to (s' := ⟨[], curH (failsL c b e) ns, [0, 1]⟩) (LeS.less ?_ ?_ ?_ ?_ ?_) rfl rfl ?_ ⟨rfl, rfl⟩)
  all_goals simp_all [go_sem, curH, curB, namesR, failsL, failsE, -List.map_map]
theorem renL_none {f : Nat → Nat} : ∀ (l : List AV), AV.idsL l = [] → l.map (AV.ren f) = l := by
  intro l h
  have := renL_renL (f := id) (g := f) l (fun i hi => by rw [h] at hi; cases hi)
  rw [renL_id, renL_map] at this; exact this
/-- A call of a cursor's function. -/
theorem callCur {Γ : Specs} {D : Types} {n : Nat} {s : St} {K : Kn} {d : Option Nat} {g : Nat} {X : Type} {args : X → List AV × Heap} {nR : X → Nat} {Q : X → AV → Heap → Prop} (hg : Aw.look Γ g = some (.s (mkG args nR Q)))
    (inj : ∀ x y, args x = args y → x = y) (x : X) {i j : Nat} {c : Cur} {ns : List (List UInt8)} {rest : List AV} (hargs : args x = (.ptr 0 0 :: rest, curH c ns)) (hrest : AV.idsL rest = [])
    (h0 : hlook s.H i = some (curB c (.sl j 1 0 ns.length))) (h1 : hlook s.H j = some (namesR ns)) (hij : i ≠ j) : @CallG Γ D n g (.ptr i 0 :: rest) s d K = @CallS (some (nR x, Q x)) [i, j] s d n K := by
  have hI : AV.idsL (.ptr i 0 :: rest) = [i] := by simp [AV.idsL, AV.ids, hrest]
  have hb0 : (curB c (.sl j 1 0 ns.length)).ids = [j] := by simp [curB, Blk.ids, AV.idsL, AV.ids]
  have hb1 : (namesR ns).ids = [] := by simp [namesR, Blk.ids, idsL_p, -List.map_map]
  have hr : once (reach (hlook s.H) 8 [i]) [] = [i, j] := by
    simp [reach, once, idsAt, h0, h1, hb0, hb1, Ne.symm hij]
  rw [CallG_s hg [i, j] (by rw [hI]; exact hr) (by simp [closedB, h0, h1, hb0, hb1]) (by rw [hI]; simp)]
  have e1 : (AV.ptr i 0 :: rest).map (AV.ren (at_ [i, j])) = .ptr 0 0 :: rest := by
    rw [List.map_cons, renL_none rest hrest]; simp [AV.ren, at_]
  have e2 : sub (hlook s.H) (at_ [i, j]) 0 [i, j] = curH c ns := by
    simp [sub, h0, h1, curH, curB, namesR, Blk.ren, AV.renL, AV.ren, at_, renL_p, Ne.symm hij, -List.map_map]
  rw [e1, e2]
  have := mkG_eq (nR := nR) (Q := Q) inj x
  rw [hargs] at this
  rw [this]

theorem chkCur {Γ : Specs} {D : Types} {n : Nat} {s : St} {A : Arr} {d : Option Nat} {ty : TypeId} {pos : String} {af : Array Edge} {args : Array Operand} {ts : Array TypeId} {w b : List Nat} {g : Nat} {X : Type} {ar : X → List AV × Heap} {nR : X → Nat} {Q : X → AV → Heap → Prop} (hg : Aw.look Γ g = some (.s (mkG ar nR Q)))
    (inj : ∀ x y, ar x = ar y → x = y) (x : X) {i j : Nat} {c : Cur} {ns : List (List UInt8)} {rest : List AV} (he : args.toList.map s.ev = .ptr i 0 :: rest) (hargs : ar x = (.ptr 0 0 :: rest, curH c ns)) (hrest : AV.idsL rest = [])
    (h0 : hlook s.H i = some (curB c (.sl j 1 0 ns.length))) (h1 : hlook s.H j = some (namesR ns)) (hij : i ≠ j)
    (hb : outB b [i, j] = true) (hw : inB w ((List.range (2 + nR x)).map (nm [i, j] (d.getD 0))) = true) :
    @ChkA Γ D n w b A ⟨d, .call ⟨.value (.func g), args, ts⟩, ty, pos, af, none⟩ s := by
  have hI : AV.idsL (.ptr i 0 :: rest) = [i] := by simp [AV.idsL, AV.ids, hrest]
  have hb0 : (curB c (.sl j 1 0 ns.length)).ids = [j] := by simp [curB, Blk.ids, AV.idsL, AV.ids]
  have hb1 : (namesR ns).ids = [] := by simp [namesR, Blk.ids, idsL_p, -List.map_map]
  have hr : once (reach (hlook s.H) 8 [i]) [] = [i, j] := by
    simp [reach, once, idsAt, h0, h1, hb0, hb1, Ne.symm hij]
  intro S hS
  unfold effStep stepOf at hS
  simp only [St.ev, callStep, hg, List.nil_append, List.append_nil, he] at hS
  refine chk_s hS (by rw [hI, hr]; exact hb) (fun k Q' hQ => ?_)
  rw [hI, hr] at hQ ⊢
  have e1 : (AV.ptr i 0 :: rest).map (AV.ren (at_ [i, j])) = .ptr 0 0 :: rest := by
    rw [List.map_cons, renL_none rest hrest]; simp [AV.ren, at_]
  have e2 : sub (hlook s.H) (at_ [i, j]) 0 [i, j] = curH c ns := by
    simp [sub, h0, h1, curH, curB, namesR, Blk.ren, AV.renL, AV.ren, at_, renL_p, Ne.symm hij, -List.map_map]
  rw [e1, e2] at hQ
  have := mkG_eq (nR := nR) (Q := Q) inj x
  rw [hargs] at this
  rw [this] at hQ
  cases hQ; exact hw
theorem curH_inj {c c' : Cur} {ns ns' : List (List UInt8)} (h : curH c ns = curH c' ns') : c = c' ∧ ns = ns' := by
  obtain ⟨s, a, e, d⟩ := c
  obtain ⟨s', a', e', d'⟩ := c'
  simp only [curH, curB, namesR, List.cons.injEq, Prod.mk.injEq, Option.some.injEq, Blk.row.injEq, AV.p.injEq, eS_inj, eI_inj, true_and, and_true, AV.sl.injEq] at h
  obtain ⟨⟨rfl, rfl, rfl, _, rfl⟩, h⟩ := h
  refine ⟨rfl, ?_⟩
  have h2 := map_inj (f := AV.p) (fun a b h => by cases h; rfl) |>.1 h
  exact (map_inj (fun a b h => eS_inj.1 h)).1 h2
theorem callfails {Γ : Specs} {D : Types} {n : Nat} {s : St} {K : Kn} {d : Option Nat} (hg : Aw.look Γ 115 = some Sfails) {i j : Nat} {c : Cur} {ns : List (List UInt8)} {b : Bool} {e : Int}
    (h0 : hlook s.H i = some (curB c (.sl j 1 0 ns.length))) (h1 : hlook s.H j = some (namesR ns)) (hij : i ≠ j) :
    @CallG Γ D n 115 [.ptr i 0, .p (eB b), .p (eI e)] s d K = @CallS (some (0, isS (.p (.tup [])) (curH (failsL c b e) ns))) [i, j] s d n K := by
  refine callCur hg (fun x y h => ?_) ⟨c, ns, b, e⟩ rfl rfl h0 h1 hij
  obtain ⟨c, ns, b, e⟩ := x
  obtain ⟨c', ns', b', e'⟩ := y
  simp only [Prod.mk.injEq, List.cons.injEq, AV.p.injEq, eB_inj, eI_inj, true_and, and_true] at h
  obtain ⟨⟨rfl, rfl⟩, h⟩ := h
  obtain ⟨rfl, rfl⟩ := curH_inj h
  rfl

/-! ### sign -/
def okCur (c : Cur) : Prop := 0 ≤ c.at_ ∧ c.at_ ≤ c.s.length ∧ c.s.length ≤ 1000000000
def atB (c : Cur) : Int := (el c.s c.at_).toNat
def signL (c : Cur) (b : Int) : Cur :=
  let e := failsE (decide ((c.s.length : Int) ≤ c.at_) || atB c != b) c.e 2
  ⟨c.s, if e = 0 then c.at_ + 1 else c.at_, e, c.depth⟩
structure XSign where
  c : Cur
  ns : List (List UInt8)
  b : Int
  ok : okCur c
noncomputable def Ssign : Aw.Spec := .s (mkG (fun x : XSign => ([.ptr 0 0, .p (.c (.int .u8 x.b))], curH x.c x.ns)) (fun _ => 0) fun x => isS (.p (.tup [])) (curH (signL x.c x.b) x.ns))
theorem injfails (x y : XFails) (h : (([.ptr 0 0, .p (eB x.is), .p (eI x.e)], curH x.c x.ns) : List AV × Heap) = ([.ptr 0 0, .p (eB y.is), .p (eI y.e)], curH y.c y.ns)) : x = y := by
  obtain ⟨c, ns, b, e⟩ := x
  obtain ⟨c', ns', b', e'⟩ := y
  simp only [Prod.mk.injEq, List.cons.injEq, AV.p.injEq, eB_inj, eI_inj, true_and, and_true] at h
  obtain ⟨⟨rfl, rfl⟩, h⟩ := h
  obtain ⟨rfl, rfl⟩ := curH_inj h
  rfl
end Go.Proofs.Ythiddkhonklbkaa

/- Contracts: a cursor's names (package kind). -/
import Derived.Test.YthiddkhonklbkaaK2
set_option linter.unusedVariables false
set_option linter.unusedSimpArgs false
set_option maxRecDepth 20000
set_option maxHeartbeats 4000000
namespace Go.Proofs.Ythiddkhonklbkaa
open Go Go.Aw

theorem injcur {r : List AV} {x y : XCur} (h : ((.ptr 0 0 :: r, curH x.c x.ns) : List AV × Heap) = (.ptr 0 0 :: r, curH y.c y.ns)) : x = y := by
  obtain ⟨c, ns, b⟩ := x
  obtain ⟨c', ns', b'⟩ := y
  simp only [Prod.mk.injEq, true_and] at h
  obtain ⟨rfl, rfl⟩ := curH_inj h
  rfl
theorem gopart {Γ : Specs} {D : Types} {n : Nat} {t : List (Nat × AV)} {H : Heap} {u : List Nat} {K : Kn} {d : Nat} (hg : Aw.look Γ 125 = some Spart) {i j : Nat} {cs : List UInt8} {ca ce cd : Int} {ns : List (List UInt8)}
    (h0 : hlook H i = some (rowC cs ca ce j ns.length cd)) (h1 : hlook H j = some (rowN ns)) (hij : Nat.beq i j = false) (hd : d < n) (ho : okCur ⟨cs, ca, ce, cd⟩)
    (hK : K.k ⟨(d, .p (eS (partS ⟨cs, ca, ce, cd⟩))) :: t, (i, some (curB (partL ⟨cs, ca, ce, cd⟩) (.sl j 1 0 ns.length))) :: (j, some (namesR ns)) :: H, u⟩) : @CallG Γ D n 125 [.ptr i 0] ⟨t, H, u⟩ (some d) K :=
  goCur hg (fun x y h => injcur h) ⟨⟨cs, ca, ce, cd⟩, ns, ho⟩ rfl rfl rfl rfl h0 h1 hij hd hK

theorem partAt_ge (c : Cur) : c.at_ ≤ partAt c := by
  unfold partAt
  split
  · have := le_scan c.s c.at_.toNat; omega
  · exact Int.le_refl _
theorem partAt_le {c : Cur} (h : okCur c) : partAt c ≤ c.s.length := by
  obtain ⟨h1, h2, _⟩ := h
  unfold partAt
  split
  · have := scan_le (s := c.s) (k := c.at_.toNat) (by omega); omega
  · exact h2
theorem okCur_part {c : Cur} (h : okCur c) : okCur (partL c) := by
  have h1 := partAt_ge c
  have h2 := partAt_le h
  obtain ⟨h3, h4, h5⟩ := h
  exact ⟨by simp only [partL]; omega, by simp only [partL]; omega, h5⟩
/-- Does another part follow? -/
def more (c : Cur) : Bool := decide (c.e = 0) && decide (c.at_ < c.s.length) && decide (atB c = 46)
def restL : Nat → Cur → Cur
  | 0, c => c
  | f + 1, c => if more c = true then restL f (partL ⟨c.s, c.at_ + 1, c.e, c.depth⟩) else c
theorem restL_enough (f : Nat) (c : Cur) (h : (c.s.length : Int) - c.at_ ≤ f) : restL f c = restL (f + 1) c := by
  induction f generalizing c with
  | zero =>
    have : more c = false := by simp [more]; omega
    rw [restL, restL, this]; simp
  | succ f ih =>
    rw [restL]
    conv => rhs; rw [restL]
    split
    · have := partAt_ge ⟨c.s, c.at_ + 1, c.e, c.depth⟩
      simp only at this
      exact ih _ (by simp only [partL]; omega)
    · rfl
def restR (c : Cur) : Cur := restL c.s.length c
theorem restR_eq {c : Cur} (h : okCur c) : restR c = if more c = true then restR (partL ⟨c.s, c.at_ + 1, c.e, c.depth⟩) else c := by
  obtain ⟨h1, h2, _⟩ := h
  unfold restR
  show restL c.s.length c = if more c = true then restL c.s.length _ else c
  have hg := partAt_ge ⟨c.s, c.at_ + 1, c.e, c.depth⟩
  simp only at hg
  cases hl : c.s.length with
  | zero =>
    have : more c = false := by simp [more]; omega
    rw [restL, this]; simp
  | succ f =>
    rw [restL]
    split
    · exact restL_enough f _ (by simp only [partL]; omega)
    · rfl
theorem restL_s (f : Nat) (c : Cur) : (restL f c).s = c.s ∧ (restL f c).depth = c.depth := by
  induction f generalizing c with
  | zero => exact ⟨rfl, rfl⟩
  | succ f ih =>
    rw [restL]; split
    · exact ih _
    · exact ⟨rfl, rfl⟩
theorem more_ok {c : Cur} (h : okCur c) (hm : more c = true) : okCur ⟨c.s, c.at_ + 1, c.e, c.depth⟩ := by
  obtain ⟨h1, h2, h3⟩ := h
  simp only [more, Bool.and_eq_true, decide_eq_true_eq] at hm
  exact ⟨by simp only; omega, by simp only; omega, h3⟩
noncomputable def Srest : Aw.Spec := .s (mkG (fun x : XCur => ([.ptr 0 0], curH x.c x.ns)) (fun _ => 0) fun x => isS (.p (eB (decide (x.c.at_ < (restR x.c).at_)))) (curH (restR x.c) x.ns))
theorem gorest {Γ : Specs} {D : Types} {n : Nat} {t : List (Nat × AV)} {H : Heap} {u : List Nat} {K : Kn} {d : Nat} (hg : Aw.look Γ 126 = some Srest) {i j : Nat} {cs : List UInt8} {ca ce cd : Int} {ns : List (List UInt8)}
    (h0 : hlook H i = some (rowC cs ca ce j ns.length cd)) (h1 : hlook H j = some (rowN ns)) (hij : Nat.beq i j = false) (hd : d < n) (ho : okCur ⟨cs, ca, ce, cd⟩)
    (hK : K.k ⟨(d, .p (eB (decide (ca < (restR ⟨cs, ca, ce, cd⟩).at_)))) :: t, (i, some (curB (restR ⟨cs, ca, ce, cd⟩) (.sl j 1 0 ns.length))) :: (j, some (namesR ns)) :: H, u⟩) : @CallG Γ D n 126 [.ptr i 0] ⟨t, H, u⟩ (some d) K :=
  goCur hg (fun x y h => injcur h) ⟨⟨cs, ca, ce, cd⟩, ns, ho⟩ rfl rfl rfl rfl h0 h1 hij hd hK
theorem okrest : Srest.OK Try.prog 126 := by
  refine mkG_ok (fun x => ?_) (fun x => ⟨_, _, rfl, rfl⟩)
  obtain ⟨⟨s, a, e0, d⟩, ns, ho⟩ := x
  obtain ⟨ho1, ho2, ho3⟩ := ho
  simp only at ho1 ho2 ho3
  refine spec_s (Γ := [(125, Spart)]) Dt_ok (.cons okpart .nil) mixed [] [.tmp 2] Try.func126 rfl rfl Try.ntmps126 rfl [0, 1] 2 rfl rfl rfl rfl fun hg => ?_
  simp only [curH]
  repeat' (first | ((with_reducible refine Brn.mk (fun h => ?_) (fun h => ?_)) <;> (simp only [Un_u, h]; try simp only [decide_eq_true_eq, decide_eq_false_iff_not, beq_iff_eq, bne_iff_ne, ne_eq, beq_eq_false_iff_ne, bne_eq_false_iff_eq, Bool.not_eq_true', Bool.not_eq_false', Bool.not_eq_true, Int.not_lt, Int.not_le, gt_iff_lt, ge_iff_le, not_true_eq_false, not_false_eq_true] at h)) | ((with_reducible refine Req.mk ?_ ?_); (· first | (first | ((with_reducible refine of_eq_true (chk_op ?_ ?_)); (· rfl); (· simp only [go_sem, Nat.reduceLT, Nat.reduceLeDiff, Nat.reduceEqDiff, Nat.reduceAdd, Nat.reduceSub, Nat.reduceMul, Nat.reduceBEq, Nat.reduceBNe, reduceIte, reduceCtorEq, Int.reduceToNat, Int.reduceLT, Int.reduceLE, Int.reduceEq, Int.reduceAdd, Int.reduceSub, Int.reduceNeg, Int.reduceMul, Int.reduceNegSucc])) | ((with_reducible refine of_eq_true (chk_op_g ?_ ?_)); (· rfl); (· simp only [go_sem, Nat.reduceLT, Nat.reduceLeDiff, Nat.reduceEqDiff, Nat.reduceAdd, Nat.reduceSub, Nat.reduceMul, Nat.reduceBEq, Nat.reduceBNe, reduceIte, reduceCtorEq, Int.reduceToNat, Int.reduceLT, Int.reduceLE, Int.reduceEq, Int.reduceAdd, Int.reduceSub, Int.reduceNeg, Int.reduceMul, Int.reduceNegSucc]))) | (first | omega | (simp (disch := omega) only [wrap_i64, wrap_i32, wrap_u8, wrap_u16]; omega) | (simp only [go_sem, Nat.reduceLT, Nat.reduceLeDiff, Nat.reduceEqDiff, Nat.reduceAdd, Nat.reduceSub, Nat.reduceMul, Nat.reduceBEq, Nat.reduceBNe, reduceIte, reduceCtorEq, Int.reduceToNat, Int.reduceLT, Int.reduceLE, Int.reduceEq, Int.reduceAdd, Int.reduceSub, Int.reduceNeg, Int.reduceMul, Int.reduceNegSucc]; omega) | (simp only [go_sem, *, Nat.reduceLT, Nat.reduceLeDiff, Nat.reduceEqDiff, Nat.reduceAdd, Nat.reduceSub, Nat.reduceMul, Nat.reduceBEq, Nat.reduceBNe, reduceIte, reduceCtorEq, Int.reduceToNat, Int.reduceLT, Int.reduceLE, Int.reduceEq, Int.reduceAdd, Int.reduceSub, Int.reduceNeg, Int.reduceMul, Int.reduceNegSucc]; done)))) | simp only [go_sem, curB, namesR, Nat.reduceLT, Nat.reduceLeDiff, Nat.reduceEqDiff, Nat.reduceAdd, Nat.reduceSub, Nat.reduceMul, Nat.reduceBEq, Nat.reduceBNe, reduceIte, reduceCtorEq, Int.reduceToNat, Int.reduceLT, Int.reduceLE, Int.reduceEq, Int.reduceAdd, Int.reduceSub, Int.reduceNeg, Int.reduceMul, Int.reduceNegSucc] | simp (disch := omega) only [wrap_i64, wrap_i32, wrap_u8, wrap_u16])
  refine Aw.Loop.mk (X := {x : Int × Int // a ≤ x.1 ∧ x.1 ≤ s.length ∧ restR ⟨s, x.1, x.2, d⟩ = restR ⟨s, a, e0, d⟩}) (fun x => ⟨[(3, .p (eI a)), (0, .ptr 0 0)], curH ⟨s, x.1.1, x.1.2, d⟩ ns, [0, 1]⟩) (fun x => (s.length - x.1.1).toNat) ⟨(a, e0), by simp, ho2, rfl⟩ (LeS.less (by simp [go_sem, curH, curB, namesR, -List.map_map]) (by simp [go_sem, curH, curB, namesR, -List.map_map]) (by simp [go_sem, curH, curB, namesR, -List.map_map]) (by simp [go_sem, curH, curB, namesR, -List.map_map]) (by simp [go_sem, curH, curB, namesR, -List.map_map])) ?_
  rintro ⟨⟨k, e⟩, h1, h2, h3⟩
  simp only at h1 h2 h3
  have hok : okCur ⟨s, k, e, d⟩ := ⟨by simp only; omega, by simp only; omega, ho3⟩
  simp only [curH]
  repeat' (first | ((with_reducible refine Brn.mk (fun h => ?_) (fun h => ?_)) <;> (simp only [Un_u, h]; try simp only [decide_eq_true_eq, decide_eq_false_iff_not, beq_iff_eq, bne_iff_ne, ne_eq, beq_eq_false_iff_ne, bne_eq_false_iff_eq, Bool.not_eq_true', Bool.not_eq_false', Bool.not_eq_true, Int.not_lt, Int.not_le, gt_iff_lt, ge_iff_le, not_true_eq_false, not_false_eq_true] at h)) | ((with_reducible apply gopart); (· rfl); (· simp only [go_sem, Nat.reduceLT, Nat.reduceLeDiff, Nat.reduceEqDiff, Nat.reduceAdd, Nat.reduceSub, Nat.reduceMul, Nat.reduceBEq, Nat.reduceBNe, reduceIte, reduceCtorEq, Int.reduceToNat, Int.reduceLT, Int.reduceLE, Int.reduceEq, Int.reduceAdd, Int.reduceSub, Int.reduceNeg, Int.reduceMul, Int.reduceNegSucc]; try rfl); (· simp only [go_sem, Nat.reduceLT, Nat.reduceLeDiff, Nat.reduceEqDiff, Nat.reduceAdd, Nat.reduceSub, Nat.reduceMul, Nat.reduceBEq, Nat.reduceBNe, reduceIte, reduceCtorEq, Int.reduceToNat, Int.reduceLT, Int.reduceLE, Int.reduceEq, Int.reduceAdd, Int.reduceSub, Int.reduceNeg, Int.reduceMul, Int.reduceNegSucc]; try rfl); (· rfl); (· omega); (· exact ⟨by simp only; omega, by simp only; omega, ho3⟩)) | ((with_reducible apply Draw.hit); (with_reducible refine Draw.mix 8 [[], [0], [0, 1], [0, 1, 2], [0, 1, 2, 3], [0, 1, 2, 3, 4], [0, 1, 2, 3, 4, 5], [0, 1, 2, 3, 4, 5, 6], [0, 1, 2, 3, 4, 5, 6, 7], [0, 1, 2, 3, 4, 5, 6, 7, 8], [0, 1, 2, 3, 4, 5], [0, 1, 2, 3, 4, 5, 10], [0, 1, 2, 3, 4, 5, 10, 11], [0, 1, 2, 3, 4, 5, 10, 11, 12], [0, 1, 2, 3, 4, 5, 10, 11, 12, 13], [0, 1, 2, 3, 4, 5, 6, 7, 8, 9, 10, 11, 12, 13, 14], [0, 1, 2, 3, 4, 5, 6, 7, 8, 9, 10, 11, 12, 13, 14, 15], [0, 1, 2, 3, 4, 5, 6, 7, 8, 9, 10, 11, 12, 13, 14, 15, 16], [0, 1, 2, 3, 4, 5, 6, 7, 8, 9, 10, 11, 12, 13, 14, 15, 16, 17], [0, 1, 2, 3, 4, 5, 6, 7, 8, 9, 10, 11, 12, 13, 14, 15, 16, 17, 18], [0, 1, 2, 3, 4, 5, 6, 7, 8, 9, 10, 11, 12, 13, 14, 15, 16, 17, 18, 19], [0, 1, 2, 3, 4, 5, 6, 7, 8, 9, 10, 11, 12, 13, 14, 15, 16, 17, 18, 19, 20], [0, 1, 2, 3, 4, 5, 6, 7, 8, 9, 10, 11, 12, 13, 14, 15, 16, 17], [0, 1, 2, 3, 4, 5, 6, 7, 8, 9, 10, 11, 12, 13, 14, 15, 16, 17, 22], [0, 1, 2, 3, 4, 5, 6, 7, 8, 9, 10, 11, 12, 13, 14, 15, 16, 17, 22, 23], [0, 1, 2, 3, 4, 5, 6, 7, 8, 9, 10, 11, 12, 13, 14, 15, 16, 17, 22, 23, 24], [0, 1, 2, 3, 4, 5, 6, 7, 8, 9, 10, 11, 12, 13, 14, 15, 16, 17, 18, 19, 20, 21, 22, 23, 24, 25], [0, 1, 2, 3, 4, 5, 6, 7, 8, 9, 10, 11, 12, 13, 14, 15, 16, 17, 18, 19, 20, 21, 22, 23, 24, 25, 26], [0, 1, 2, 3, 4, 5, 6, 7, 8, 9, 10, 11, 12, 13, 14, 15, 16, 17, 18, 19, 20, 21, 22, 23, 24, 25, 26, 27]] [none, none, none, none, none, none, none, none, none, none, none, none, none, none, none, none, none, none, none, none, none, none, none, none, none, none, none, none, none] ?_ ?_ ?_ ?_ ?_); (· rfl); (· kernel_rfl); (· kernel_rfl); (· kernel_rfl)) | ((with_reducible refine Req.mk ?_ ?_); (· first | (first | ((with_reducible refine of_eq_true (chk_op ?_ ?_)); (· rfl); (· simp only [go_sem, Nat.reduceLT, Nat.reduceLeDiff, Nat.reduceEqDiff, Nat.reduceAdd, Nat.reduceSub, Nat.reduceMul, Nat.reduceBEq, Nat.reduceBNe, reduceIte, reduceCtorEq, Int.reduceToNat, Int.reduceLT, Int.reduceLE, Int.reduceEq, Int.reduceAdd, Int.reduceSub, Int.reduceNeg, Int.reduceMul, Int.reduceNegSucc])) | ((with_reducible refine of_eq_true (chk_op_g ?_ ?_)); (· rfl); (· simp only [go_sem, Nat.reduceLT, Nat.reduceLeDiff, Nat.reduceEqDiff, Nat.reduceAdd, Nat.reduceSub, Nat.reduceMul, Nat.reduceBEq, Nat.reduceBNe, reduceIte, reduceCtorEq, Int.reduceToNat, Int.reduceLT, Int.reduceLE, Int.reduceEq, Int.reduceAdd, Int.reduceSub, Int.reduceNeg, Int.reduceMul, Int.reduceNegSucc]))) | (first | omega | (simp (disch := omega) only [wrap_i64, wrap_i32, wrap_u8, wrap_u16]; omega) | (simp only [go_sem, Nat.reduceLT, Nat.reduceLeDiff, Nat.reduceEqDiff, Nat.reduceAdd, Nat.reduceSub, Nat.reduceMul, Nat.reduceBEq, Nat.reduceBNe, reduceIte, reduceCtorEq, Int.reduceToNat, Int.reduceLT, Int.reduceLE, Int.reduceEq, Int.reduceAdd, Int.reduceSub, Int.reduceNeg, Int.reduceMul, Int.reduceNegSucc]; omega) | (simp only [go_sem, *, Nat.reduceLT, Nat.reduceLeDiff, Nat.reduceEqDiff, Nat.reduceAdd, Nat.reduceSub, Nat.reduceMul, Nat.reduceBEq, Nat.reduceBNe, reduceIte, reduceCtorEq, Int.reduceToNat, Int.reduceLT, Int.reduceLE, Int.reduceEq, Int.reduceAdd, Int.reduceSub, Int.reduceNeg, Int.reduceMul, Int.reduceNegSucc]; done)))) | simp only [go_sem, curB, namesR, Nat.reduceLT, Nat.reduceLeDiff, Nat.reduceEqDiff, Nat.reduceAdd, Nat.reduceSub, Nat.reduceMul, Nat.reduceBEq, Nat.reduceBNe, reduceIte, reduceCtorEq, Int.reduceToNat, Int.reduceLT, Int.reduceLE, Int.reduceEq, Int.reduceAdd, Int.reduceSub, Int.reduceNeg, Int.reduceMul, Int.reduceNegSucc] | simp (disch := omega) only [wrap_i64, wrap_i32, wrap_u8, wrap_u16])
  all_goals first
    | (have hm : more ⟨s, k, e, d⟩ = true := by simp_all [more, atB]
       have hr := restR_eq hok
       rw [if_pos hm] at hr
       have hge := partAt_ge ⟨s, k + 1, e, d⟩
       have hle := partAt_le (more_ok hok hm)
       simp only at hge hle
       exact ⟨⟨(partAt ⟨s, k + 1, e, d⟩, partE ⟨s, k + 1, e, d⟩), by simp only; omega, by simp only; omega, hr.symm.trans h3⟩, by simp only; omega, (LeS.less (by simp [go_sem, curH, curB, namesR, partL, -List.map_map]) (by simp [go_sem, curH, curB, namesR, partL, -List.map_map]) (by simp [go_sem, curH, curB, namesR, partL, -List.map_map]) (by simp [go_sem, curH, curB, namesR, partL, -List.map_map]) (by simp [go_sem, curH, curB, namesR, partL, -List.map_map]))⟩)
    | (have hm : more ⟨s, k, e, d⟩ = false := by simp_all [more, atB]; try (intro _; omega)
       have hr := restR_eq hok
       rw [hm] at hr
       simp only [Bool.false_eq_true, if_false] at hr
       rw [hr] at h3
       (refine RetS.to (s' := ⟨[(2, .p (eB (decide (a < (restR ⟨s, a, e0, d⟩).at_))))], curH (restR ⟨s, a, e0, d⟩) (ns), [0, 1]⟩) (LeS.less ?_ ?_ ?_ ?_ ?_) rfl rfl ?_ ⟨rfl, rfl⟩ <;> simp [go_sem, curH, curB, namesR, ← h3, -List.map_map]))
end Go.Proofs.Ythiddkhonklbkaa

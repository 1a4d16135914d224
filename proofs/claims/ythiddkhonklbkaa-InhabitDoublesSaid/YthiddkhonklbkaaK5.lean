/- Contracts: what a type's text begins with (package kind). -/
import Derived.Test.YthiddkhonklbkaaK4
import Derived.Test.YthiddkhonklbkaaL1
set_option linter.unusedVariables false
set_option linter.unusedSimpArgs false
set_option maxRecDepth 20000
set_option maxHeartbeats 4000000
namespace Go.Proofs.Ythiddkhonklbkaa
open Go Go.Aw

/-- What a cursor has read of a whole text. -/
def readL (t : List UInt8) : OneR :=
  let r := oneL 13 0 ⟨t, 0, 0, 0⟩ []
  ⟨r.kind, r.ends, failsL r.c (decide (r.c.at_ < t.length)) 2, r.ns⟩
structure Txt where
  t : List UInt8
  le : t.length ≤ 1000000000
/-- Head's answer. -/
structure HeadR where
  kind : Int
  name : List UInt8
  a : List UInt8
  b : List UInt8
  e : Int
noncomputable def Sread : Aw.Spec := .s (mkG (fun x : Txt => ([.p (.c (str x.t))], [])) (fun _ => 2) fun x =>
  isS (.tup [.ptr 0 0, .p (eI (readL x.t).kind), .p (.fro 1 ((readL x.t).ends.map eI))]) [(0, some (curB (readL x.t).c (.sl 1 1 0 (readL x.t).ns.length))), (1, some (namesR (readL x.t).ns))])
theorem okread : Sread.OK Try.prog 83 := by
  refine mkG_ok (fun x => ?_) (fun x => ⟨_, _, rfl, rfl⟩)
  obtain ⟨t, ht⟩ := x
  refine spec_s (Γ := [(115, Sfails), (114, Sone 13)]) Dt_ok (.cons okfails (.cons (okone 13) .nil)) mixed [2] [.tmp 2, .tmp 3, .tmp 4] Try.func83 rfl rfl Try.ntmps83 rfl [] 2 rfl rfl rfl rfl fun hg => ?_
  clear hg
  repeat' (first | ((with_reducible refine Brn.mk (fun h => ?_) (fun h => ?_)) <;> (simp only [Un_u, h]; try simp only [decide_eq_true_eq, decide_eq_false_iff_not, beq_iff_eq, bne_iff_ne, ne_eq, beq_eq_false_iff_ne, bne_eq_false_iff_eq, Bool.not_eq_true', Bool.not_eq_false', Bool.not_eq_true, Int.not_lt, Int.not_le, gt_iff_lt, ge_iff_le, not_true_eq_false, not_false_eq_true] at h)) | ((with_reducible refine Req.mk ?_ ?_); (· first | (first | ((with_reducible refine of_eq_true (chk_op ?_ ?_)); (· rfl); (· simp only [go_sem, Nat.reduceLT, Nat.reduceLeDiff, Nat.reduceEqDiff, Nat.reduceAdd, Nat.reduceSub, Nat.reduceMul, Nat.reduceBEq, Nat.reduceBNe, reduceIte, reduceCtorEq, Int.reduceToNat, Int.reduceLT, Int.reduceLE, Int.reduceEq, Int.reduceAdd, Int.reduceSub, Int.reduceNeg, Int.reduceMul, Int.reduceNegSucc])) | ((with_reducible refine of_eq_true (chk_op_g ?_ ?_)); (· rfl); (· simp only [go_sem, Nat.reduceLT, Nat.reduceLeDiff, Nat.reduceEqDiff, Nat.reduceAdd, Nat.reduceSub, Nat.reduceMul, Nat.reduceBEq, Nat.reduceBNe, reduceIte, reduceCtorEq, Int.reduceToNat, Int.reduceLT, Int.reduceLE, Int.reduceEq, Int.reduceAdd, Int.reduceSub, Int.reduceNeg, Int.reduceMul, Int.reduceNegSucc]))) | (first | omega | (simp (disch := omega) only [wrap_i64, wrap_i32, wrap_u8, wrap_u16]; omega) | (simp only [go_sem, Nat.reduceLT, Nat.reduceLeDiff, Nat.reduceEqDiff, Nat.reduceAdd, Nat.reduceSub, Nat.reduceMul, Nat.reduceBEq, Nat.reduceBNe, reduceIte, reduceCtorEq, Int.reduceToNat, Int.reduceLT, Int.reduceLE, Int.reduceEq, Int.reduceAdd, Int.reduceSub, Int.reduceNeg, Int.reduceMul, Int.reduceNegSucc]; omega) | (simp only [go_sem, *, Nat.reduceLT, Nat.reduceLeDiff, Nat.reduceEqDiff, Nat.reduceAdd, Nat.reduceSub, Nat.reduceMul, Nat.reduceBEq, Nat.reduceBNe, reduceIte, reduceCtorEq, Int.reduceToNat, Int.reduceLT, Int.reduceLE, Int.reduceEq, Int.reduceAdd, Int.reduceSub, Int.reduceNeg, Int.reduceMul, Int.reduceNegSucc]; done)))) | simp only [go_sem, Nat.reduceLT, Nat.reduceLeDiff, Nat.reduceEqDiff, Nat.reduceAdd, Nat.reduceSub, Nat.reduceMul, Nat.reduceBEq, Nat.reduceBNe, reduceIte, reduceCtorEq, Int.reduceToNat, Int.reduceLT, Int.reduceLE, Int.reduceEq, Int.reduceAdd, Int.reduceSub, Int.reduceNeg, Int.reduceMul, Int.reduceNegSucc] | simp (disch := omega) only [wrap_i64, wrap_i32, wrap_u8, wrap_u16])
  obtain ⟨n0, hn0⟩ : ∃ n0 : NS, n0 = [] := ⟨_, rfl⟩
  refine Cut.to (s' := ⟨[(2, .ptr 107 0), (0, .p (.c (str t)))], [(107, some (rowC t 0 0 150 n0.length 0)), (150, some (rowN n0))], [107, 150]⟩) rfl (LeS.trans (LeS.nil 107 3 150 9 1 rfl rfl rfl) (LeS.via [] (by simp [go_sem,  hn0]) (by simp [go_sem,  hn0]) (by simp [go_sem,  hn0]) (by simp [go_sem,  hn0]) (by simp [go_sem,  hn0]) (by simp [go_sem]) (by simp [go_sem,  hn0]))) ?_
  have ho : okCur ⟨t, 0, 0, 0⟩ := ⟨by simp, by simp, ht⟩
  have hR : readL t = ⟨(oneL 13 0 ⟨t, 0, 0, 0⟩ n0).kind, (oneL 13 0 ⟨t, 0, 0, 0⟩ n0).ends, failsL (oneL 13 0 ⟨t, 0, 0, 0⟩ n0).c (decide ((oneL 13 0 ⟨t, 0, 0, 0⟩ n0).c.at_ < t.length)) 2, (oneL 13 0 ⟨t, 0, 0, 0⟩ n0).ns⟩ := by rw [hn0]; rfl
  repeat' (first | ((with_reducible refine Brn.mk (fun h => ?_) (fun h => ?_)) <;> (simp only [Un_u, h]; try simp only [decide_eq_true_eq, decide_eq_false_iff_not, beq_iff_eq, bne_iff_ne, ne_eq, beq_eq_false_iff_ne, bne_eq_false_iff_eq, Bool.not_eq_true', Bool.not_eq_false', Bool.not_eq_true, Int.not_lt, Int.not_le, gt_iff_lt, ge_iff_le, not_true_eq_false, not_false_eq_true] at h)) | ((with_reducible apply goone); (· rfl); (· simp only [go_sem, Nat.reduceLT, Nat.reduceLeDiff, Nat.reduceEqDiff, Nat.reduceAdd, Nat.reduceSub, Nat.reduceMul, Nat.reduceBEq, Nat.reduceBNe, reduceIte, reduceCtorEq, Int.reduceToNat, Int.reduceLT, Int.reduceLE, Int.reduceEq, Int.reduceAdd, Int.reduceSub, Int.reduceNeg, Int.reduceMul, Int.reduceNegSucc]; try rfl); (· simp only [go_sem, Nat.reduceLT, Nat.reduceLeDiff, Nat.reduceEqDiff, Nat.reduceAdd, Nat.reduceSub, Nat.reduceMul, Nat.reduceBEq, Nat.reduceBNe, reduceIte, reduceCtorEq, Int.reduceToNat, Int.reduceLT, Int.reduceLE, Int.reduceEq, Int.reduceAdd, Int.reduceSub, Int.reduceNeg, Int.reduceMul, Int.reduceNegSucc]; try rfl); (· rfl); (· omega); (· exact ho); (· rfl); (· rw [hn0]; simp); (· omega); (· omega); (· omega); (· rfl)) | ((with_reducible apply gofails); (· rfl); (· simp only [go_sem, Nat.reduceLT, Nat.reduceLeDiff, Nat.reduceEqDiff, Nat.reduceAdd, Nat.reduceSub, Nat.reduceMul, Nat.reduceBEq, Nat.reduceBNe, reduceIte, reduceCtorEq, Int.reduceToNat, Int.reduceLT, Int.reduceLE, Int.reduceEq, Int.reduceAdd, Int.reduceSub, Int.reduceNeg, Int.reduceMul, Int.reduceNegSucc]; try rfl); (· simp only [go_sem, Nat.reduceLT, Nat.reduceLeDiff, Nat.reduceEqDiff, Nat.reduceAdd, Nat.reduceSub, Nat.reduceMul, Nat.reduceBEq, Nat.reduceBNe, reduceIte, reduceCtorEq, Int.reduceToNat, Int.reduceLT, Int.reduceLE, Int.reduceEq, Int.reduceAdd, Int.reduceSub, Int.reduceNeg, Int.reduceMul, Int.reduceNegSucc]; try rfl); (· rfl); (· omega)) | ((with_reducible refine Req.mk ?_ ?_); (· first | (first | ((with_reducible refine of_eq_true (chk_op ?_ ?_)); (· rfl); (· simp only [go_sem, Nat.reduceLT, Nat.reduceLeDiff, Nat.reduceEqDiff, Nat.reduceAdd, Nat.reduceSub, Nat.reduceMul, Nat.reduceBEq, Nat.reduceBNe, reduceIte, reduceCtorEq, Int.reduceToNat, Int.reduceLT, Int.reduceLE, Int.reduceEq, Int.reduceAdd, Int.reduceSub, Int.reduceNeg, Int.reduceMul, Int.reduceNegSucc])) | ((with_reducible refine of_eq_true (chk_op_g ?_ ?_)); (· rfl); (· simp only [go_sem, Nat.reduceLT, Nat.reduceLeDiff, Nat.reduceEqDiff, Nat.reduceAdd, Nat.reduceSub, Nat.reduceMul, Nat.reduceBEq, Nat.reduceBNe, reduceIte, reduceCtorEq, Int.reduceToNat, Int.reduceLT, Int.reduceLE, Int.reduceEq, Int.reduceAdd, Int.reduceSub, Int.reduceNeg, Int.reduceMul, Int.reduceNegSucc]))) | (first | omega | (simp (disch := omega) only [wrap_i64, wrap_i32, wrap_u8, wrap_u16]; omega) | (simp only [go_sem, Nat.reduceLT, Nat.reduceLeDiff, Nat.reduceEqDiff, Nat.reduceAdd, Nat.reduceSub, Nat.reduceMul, Nat.reduceBEq, Nat.reduceBNe, reduceIte, reduceCtorEq, Int.reduceToNat, Int.reduceLT, Int.reduceLE, Int.reduceEq, Int.reduceAdd, Int.reduceSub, Int.reduceNeg, Int.reduceMul, Int.reduceNegSucc]; omega) | (simp only [go_sem, *, Nat.reduceLT, Nat.reduceLeDiff, Nat.reduceEqDiff, Nat.reduceAdd, Nat.reduceSub, Nat.reduceMul, Nat.reduceBEq, Nat.reduceBNe, reduceIte, reduceCtorEq, Int.reduceToNat, Int.reduceLT, Int.reduceLE, Int.reduceEq, Int.reduceAdd, Int.reduceSub, Int.reduceNeg, Int.reduceMul, Int.reduceNegSucc]; done)))) | simp only [go_sem, curB, namesR, failsL, Nat.reduceLT, Nat.reduceLeDiff, Nat.reduceEqDiff, Nat.reduceAdd, Nat.reduceSub, Nat.reduceMul, Nat.reduceBEq, Nat.reduceBNe, reduceIte, reduceCtorEq, Int.reduceToNat, Int.reduceLT, Int.reduceLE, Int.reduceEq, Int.reduceAdd, Int.reduceSub, Int.reduceNeg, Int.reduceMul, Int.reduceNegSucc] | simp (disch := omega) only [wrap_i64, wrap_i32, wrap_u8, wrap_u16])
  rw [hR]
  generalize oneL 13 0 ⟨t, 0, 0, 0⟩ n0 = R
  refine RetS.to (s' := ⟨[(2, .ptr 0 0), (3, .p (eI R.kind)), (4, .p (.fro 1 (R.ends.map eI)))], [(0, some (curB (failsL R.c (decide (R.c.at_ < t.length)) 2) (.sl 1 1 0 R.ns.length))), (1, some (namesR R.ns))], [0, 1]⟩) (LeS.via [(0, 107), (1, 11002)] (by simp [go_sem,  curB, namesR, failsL, -List.map_map]) (by simp [go_sem,  curB, namesR, failsL, -List.map_map]) (by simp [go_sem,  curB, namesR, failsL, -List.map_map]) (by simp [go_sem,  curB, namesR, failsL, -List.map_map]) (by simp [go_sem,  curB, namesR, failsL, -List.map_map]) (by simp [go_sem]) (by simp [go_sem,  curB, namesR, failsL, -List.map_map])) rfl rfl ?_ ⟨rfl, rfl⟩
  simp [go_sem, curB, namesR, failsL, -List.map_map]
theorem goread {Γ : Specs} {D : Types} {n : Nat} {T : List (Nat × AV)} {H : Heap} {u : List Nat} {K : Kn} {d : Nat} (hg : Aw.look Γ 83 = some Sread) {t : List UInt8} (hd : d < n) (ht : t.length ≤ 1000000000) (hm : outB u [(d + 1) * 1000, (d + 1) * 1000 + 1] = true)
    (hK : K.k ⟨(d, .tup [.ptr ((d + 1) * 1000) 0, .p (eI (readL t).kind), .p (.fro 1 ((readL t).ends.map eI))]) :: T, ((d + 1) * 1000, some (curB (readL t).c (.sl ((d + 1) * 1000 + 1) 1 0 (readL t).ns.length))) :: ((d + 1) * 1000 + 1, some (namesR (readL t).ns)) :: H, (d + 1) * 1000 :: ((d + 1) * 1000 + 1) :: u⟩) :
    @CallG Γ D n 83 [.p (.c (str t))] ⟨T, H, u⟩ (some d) K := by
  have inj : ∀ x y : Txt, (([.p (.c (str x.t))], []) : List AV × Heap) = ([.p (.c (str y.t))], []) → x = y := by
    rintro ⟨x, hx⟩ ⟨y, hy⟩ h
    simp only [Prod.mk.injEq, List.cons.injEq, AV.p.injEq, PV.c.injEq, str_inj, and_true] at h
    subst h; rfl
  rw [CallG_s hg [] rfl rfl rfl]
  have h2 := mkG_eq (nR := fun _ => 2) (Q := fun x : Txt => isS (.tup [.ptr 0 0, .p (eI (readL x.t).kind), .p (.fro 1 ((readL x.t).ends.map eI))]) [(0, some (curB (readL x.t).c (.sl 1 1 0 (readL x.t).ns.length))), (1, some (namesR (readL x.t).ns))]) inj ⟨t, ht⟩
  have h3 : ([AV.p (.c (str t))] : List AV).map (AV.ren (at_ [])) = [.p (.c (str t))] := rfl
  rw [h3]
  show @CallS (mkG _ _ _ [.p (.c (str t))] []) _ _ _ _ _
  rw [h2]
  refine ⟨hm, (fun d' e => by cases e; exact hd), ?_⟩
  rw [AllS_is]
  have e1 : ∀ (c' : Cur) (ns' : NS), backH (nm [] ((some d).getD 0)) [(0, some (curB c' (.sl 1 1 0 ns'.length))), (1, some (namesR ns'))] (List.range (([] : List Nat).length + 2)) = [((d + 1) * 1000, some (curB c' (.sl ((d + 1) * 1000 + 1) 1 0 ns'.length))), ((d + 1) * 1000 + 1, some (namesR ns'))] := by
    intro c' ns'
    simp [List.range, List.range.loop, backH, nm, hlook_cons, curB, namesR, Blk.ren, AV.renL, AV.ren, renL_p, -List.map_map]
  show K.k _
  rw [e1]; exact hK

def headL (t : List UInt8) : HeadR :=
  let r := readL t
  if r.c.e ≠ 0 then ⟨0, [], [], [], r.c.e⟩
  else if r.kind = 0 then ⟨0, t, [], [], 0⟩
  else if r.ends.length = 0 then ⟨r.kind, [], [], [], 0⟩
  else ⟨r.kind, [], segL t (Lib.indexByte t 60 + 1) (el r.ends 0), if r.ends.length = 2 then segL t (el r.ends 0 + 1) (el r.ends 1) else [], 0⟩

/-! ### where the types within lie -/
theorem index_at {c : UInt8} : ∀ (l : List UInt8) (k : Nat), (∀ x ∈ l.take k, x ≠ c) → l[k]? = some c → Lib.indexByte l c = k := by
  intro l
  induction l with
  | nil => intro k _ h; simp at h
  | cons x r ih =>
    intro k h1 h2
    cases k with
    | zero =>
      simp at h2; subst h2
      simp [Lib.indexByte]
    | succ k =>
      have hx : x ≠ c := h1 x (by simp)
      have := ih k (fun y hy => h1 y (by simp [hy])) (by simpa using h2)
      simp [Lib.indexByte, hx, this]
theorem signOk {c : Cur} {b : Int} (h : okCur c) (he : (signL c b).e = 0) : (signL c b).at_ = c.at_ + 1 ∧ c.at_ < c.s.length ∧ atB c = b := by
  have he' : failsE (decide ((c.s.length : Int) ≤ c.at_) || atB c != b) c.e 2 = 0 := he
  have hb := (failsE_zero he' (by decide)).2
  simp only [Bool.or_eq_false_iff, decide_eq_false_iff_not, bne_eq_false_iff_eq] at hb
  refine ⟨?_, by omega, hb.2⟩
  simp only [signL]
  rw [if_pos he']
theorem step_zero {rc : Cur → NS → Cur × NS} {b : Int} {x : Cur × NS × List Int} (ho : okCur x.1) (hn : x.1.e = 0 → (x.2.1.length : Int) ≤ x.1.at_) (hr : ∀ c ns, okCur c → c.e = 0 → (ns.length : Int) ≤ c.at_ → Fine c ns (rc c ns).1 (rc c ns).2) (he : (stepO rc b x).1.e = 0) :
    x.1.e = 0 ∧ x.1.at_ < x.1.s.length ∧ atB x.1 = b ∧ x.1.at_ + 1 ≤ (stepO rc b x).1.at_ ∧ (stepO rc b x).1.at_ ≤ x.1.s.length ∧ (stepO rc b x).2.2 = x.2.2 ++ [(stepO rc b x).1.at_] ∧ okCur (stepO rc b x).1 ∧ (stepO rc b x).1.s = x.1.s ∧ ((stepO rc b x).2.1.length : Int) ≤ (stepO rc b x).1.at_ := by
  have hs := goes_sign ho b
  have hse : (signL x.1 b).e = 0 := by
    by_cases h : (signL x.1 b).e = 0
    · exact h
    · unfold stepO at he
      simp only at he
      rw [if_neg h] at he
      exact he
  have hx := hs.e hse
  obtain ⟨h1, h2, h3⟩ := signOk ho hse
  have hf := hr (signL x.1 b) x.2.1 hs.ok hse (by have := hn hx; omega)
  have hst : stepO rc b x = ((rc (signL x.1 b) x.2.1).1, (rc (signL x.1 b) x.2.1).2, x.2.2 ++ [(rc (signL x.1 b) x.2.1).1.at_]) := by
    unfold stepO
    simp only
    rw [if_pos hse]
  rw [hst] at he ⊢
  have hg := hf.1.ge
  have hgo := hf.1.ok.2.1
  have hgs := hf.1.s
  refine ⟨hx, h2, h3, by simp only; omega, ?_, rfl, hf.1.ok, hgs.trans hs.s, hf.2 he⟩
  simp only
  rw [hgs, hs.s] at hgo
  exact hgo
theorem takeWhile_all {p : UInt8 → Bool} : ∀ (l : List UInt8), ∀ x ∈ l.take (l.takeWhile p).length, p x = true := by
  intro l
  induction l with
  | nil => intro x hx; simp at hx
  | cons y r ih =>
    intro x hx
    rw [List.takeWhile_cons] at hx
    split at hx
    · rename_i hy
      simp only [List.length_cons, List.take_succ_cons, List.mem_cons] at hx
      rcases hx with rfl | hx
      · exact hy
      · exact ih x hx
    · simp at hx
theorem ends_ok {t : List UInt8} (ht : t.length ≤ 1000000000) (he : (readL t).c.e = 0) (hk : (readL t).kind ≠ 0) (hn : (readL t).ends.length ≠ 0) :
    0 ≤ Lib.indexByte t 60 + 1 ∧ Lib.indexByte t 60 + 1 ≤ el (readL t).ends 0 ∧ el (readL t).ends 0 ≤ t.length ∧ ((readL t).ends.length = 2 → el (readL t).ends 0 + 1 ≤ el (readL t).ends 1 ∧ el (readL t).ends 1 ≤ t.length) := by
  have ho : okCur ⟨t, 0, 0, 0⟩ := ⟨by simp, by simp, ht⟩
  unfold readL at he hk hn ⊢
  simp only at he hk hn ⊢
  replace he : (oneL 13 0 ⟨t, 0, 0, 0⟩ []).c.e = 0 := (failsE_zero he (by decide)).1
  have h1 := goes_part ho
  have h2 := goes_rest h1.ok
  have hr : ∃ r, r = oneL 13 0 ⟨t, 0, 0, 0⟩ [] := ⟨_, rfl⟩
  obtain ⟨r, hr⟩ := hr
  rw [← hr] at he hk hn ⊢
  rw [oneL] at hr
  simp only at hr
  split at hr
  · subst hr; exact absurd rfl hk
  · rename_i hA
    split at hr
    · subst hr; exact absurd rfl hn
    · rename_i hB
      generalize hrc : (fun (c : Cur) (ns : NS) => ((oneL 12 (0 + 1) c ns).c, (oneL 12 (0 + 1) c ns).ns)) = rc at hr
      have hrf : ∀ c ns, okCur c → c.e = 0 → (ns.length : Int) ≤ c.at_ → Fine c ns (rc c ns).1 (rc c ns).2 := fun c ns a b d => by rw [← hrc]; exact one_fine 12 (0 + 1) c ns a b d
      have h3 := goes_deep h2.ok 0
      have hm := inner_02 (wordL (partS ⟨t, 0, 0, 0⟩))
      generalize innerL (wordL (partS ⟨t, 0, 0, 0⟩)) = m at hr hm hB
      have hB' : m ≠ 0 := fun h => hB (.inl h)
      have hA' : (restR (partL ⟨t, 0, 0, 0⟩)).at_ = partAt ⟨t, 0, 0, 0⟩ := by
        have := h2.ge
        have e : (partL ⟨t, 0, 0, 0⟩).at_ = partAt ⟨t, 0, 0, 0⟩ := rfl
        rw [e] at this hA
        omega
      have hs3 : (deepC (restR (partL ⟨t, 0, 0, 0⟩)) 0).s = t := h3.s.trans (h2.s.trans h1.s)
      have hn0 : (deepC (restR (partL ⟨t, 0, 0, 0⟩)) 0).e = 0 → ((([] : NS)).length : Int) ≤ (deepC (restR (partL ⟨t, 0, 0, 0⟩)) 0).at_ := fun _ => by
        have := h3.ok.1; simpa using this
      have key : ∀ y, y = stepO rc ((el [60, 44] ((0 : Nat) : Int) : UInt8).toNat) (deepC (restR (partL ⟨t, 0, 0, 0⟩)) 0, [], []) → y.1.e = 0 →
          0 ≤ Lib.indexByte t 60 + 1 ∧ Lib.indexByte t 60 + 1 ≤ y.1.at_ ∧ y.1.at_ ≤ t.length ∧ y.2.2 = [y.1.at_] ∧ okCur y.1 ∧ y.1.s = t ∧ (y.2.1.length : Int) ≤ y.1.at_ := by
        intro y hy hye
        subst hy
        obtain ⟨g1, g2, g3, g4, g5, g6, g7, g8, g9⟩ := step_zero (rc := rc) (x := (deepC (restR (partL ⟨t, 0, 0, 0⟩)) 0, [], [])) h3.ok hn0 hrf hye
        simp only at g1 g2 g3 g4 g5 g6 g7 g8 g9
        have e1 : (partL ⟨t, 0, 0, 0⟩).e = 0 := h2.e (h3.e g1)
        have e2 : partAt ⟨t, 0, 0, 0⟩ = (scan t 0 : Nat) := by
          have e1' : partE ⟨t, 0, 0, 0⟩ = 0 := e1
          unfold partAt
          rw [if_pos e1']; rfl
        have e3 : (deepC (restR (partL ⟨t, 0, 0, 0⟩)) 0).at_ = (scan t 0 : Nat) := hA'.trans e2
        have hi : Lib.indexByte t 60 = (scan t 0 : Nat) := by
          refine index_at t _ (fun x hx => ?_) ?_
          · have : scan t 0 = (t.takeWhile fun b => nameB b.toNat).length := by unfold scan; simp
            rw [this] at hx
            have := takeWhile_all t x hx
            intro e; subst e; revert this; decide
          · unfold atB at g3
            rw [e3, hs3] at g3 g2
            have hlt : scan t 0 < t.length := by omega
            rw [el_nat t _ hlt] at g3
            rw [List.getElem?_eq_getElem hlt]
            have e4 : ((el [60, 44] ((0 : Nat) : Int) : UInt8).toNat : Int) = 60 := by decide
            rw [e4] at g3
            have : (t[scan t 0]).toNat = (60 : UInt8).toNat := by
              have : (60 : UInt8).toNat = 60 := by decide
              omega
            rw [UInt8.toNat_inj.1 this]
        rw [e3] at g4
        rw [hs3] at g5 g8
        refine ⟨by omega, by omega, g5, by simpa using g6, g7, g8, g9⟩
      rcases hm with hm | hm | hm
      · exact absurd hm hB'
      · subst hm
        subst hr
        simp only at he hk hn ⊢
        have e1 : ∀ x : Cur × NS × List Int, itO rc x (Int.toNat 1) = stepO rc ((el [60, 44] ((0 : Nat) : Int) : UInt8).toNat) x := fun x => rfl
        rw [e1] at he hn ⊢
        generalize hy : stepO rc ((el [60, 44] ((0 : Nat) : Int) : UInt8).toNat) (deepC (restR (partL ⟨t, 0, 0, 0⟩)) 0, [], []) = y at he hn ⊢
        have hok : okCur y.1 := by
          rw [← hy]
          exact (step_fine (rc := rc) (x := (deepC (restR (partL ⟨t, 0, 0, 0⟩)) 0, [], [])) (c := deepC (restR (partL ⟨t, 0, 0, 0⟩)) 0) (ns := []) ⟨Goes.refl h3.ok, hn0⟩ hrf).1.ok
        obtain ⟨g1, g2, g3, g4, _⟩ := key y hy.symm ((goes_sign hok 62).e he)
        rw [g4]
        refine ⟨g1, g2, g3, fun h => by simp at h⟩
      · subst hm
        subst hr
        simp only at he hk hn ⊢
        have e1 : ∀ x : Cur × NS × List Int, itO rc x (Int.toNat 2) = stepO rc ((el [60, 44] ((1 : Nat) : Int) : UInt8).toNat) (stepO rc ((el [60, 44] ((0 : Nat) : Int) : UInt8).toNat) x) := fun x => rfl
        rw [e1] at he hn ⊢
        generalize hy : stepO rc ((el [60, 44] ((0 : Nat) : Int) : UInt8).toNat) (deepC (restR (partL ⟨t, 0, 0, 0⟩)) 0, [], []) = y at he hn ⊢
        have hyf : Fine (deepC (restR (partL ⟨t, 0, 0, 0⟩)) 0) [] y.1 y.2.1 := by
          rw [← hy]
          exact step_fine (rc := rc) (x := (deepC (restR (partL ⟨t, 0, 0, 0⟩)) 0, [], [])) (c := deepC (restR (partL ⟨t, 0, 0, 0⟩)) 0) (ns := []) ⟨Goes.refl h3.ok, hn0⟩ hrf
        have hok2 := (step_fine (b := ((el [60, 44] ((1 : Nat) : Int) : UInt8).toNat : Int)) (x := y) hyf hrf).1.ok
        have hz := (goes_sign hok2 62).e he
        obtain ⟨k1, k2, k3, k4, k5, k6, k7, k8, k9⟩ := step_zero (x := y) hyf.1.ok hyf.2 hrf hz
        obtain ⟨g1, g2, g3, g4, g5, g6, g7⟩ := key y hy.symm k1
        rw [k6, g4]
        rw [g6] at k5
        refine ⟨g1, g2, g3, fun _ => ⟨k4, k5⟩⟩
theorem toU8_60 : Nat.toUInt8 60 = 60 := rfl
noncomputable def Shead : Aw.Spec := .b (mkF (fun x : {x : List UInt8 // match x with | t => t.length ≤ 1000000000} => match x with | ⟨t, _⟩ => [.p (eS t)]) fun x => match x with | ⟨t, _⟩ => is (.tup [eI (headL t).kind, eS (headL t).name, eS (headL t).a, eS (headL t).b, eI (headL t).e]))
theorem injhead : ∀ x y : {x : List UInt8 // match x with | t => t.length ≤ 1000000000}, (match x with | ⟨t, _⟩ => [.p (eS t)] : List AV) = (match y with | ⟨t, _⟩ => [.p (eS t)]) → x = y := by
  rintro ⟨t, _⟩ ⟨t', _⟩ h
  simp only [List.cons.injEq, AV.p.injEq, AV.fptr.injEq, PV.fro.injEq, PV.fmap.injEq, PV.c.injEq, Value.int.injEq, keys_inj, names_inj, true_and, and_true, eI_inj, eB_inj, eS_inj, str_inj, eV_inj, eF_inj, eSt_inj, eM_inj, eE_inj, eSc_inj, ints_inj, vals_inj, fields_inj, structs_inj, members_inj, enums_inj] at h
  simp_all
theorem gohead {Γ : Specs} {D : Types} {n0 : Nat} {t0 : List (Nat × AV)} {H0 : Heap} {u0 : List Nat} {K0 : Kn} {d0 : Nat} {t : List UInt8} (hg : Aw.look Γ 52 = some Shead) (hd : d0 < n0) (hp : t.length ≤ 1000000000) (hK : K0.k ⟨(d0, .p (.tup [eI (headL t).kind, eS (headL t).name, eS (headL t).a, eS (headL t).b, eI (headL t).e])) :: t0, H0, u0⟩) : @CallG Γ D n0 52 [.p (.c (str t))] ⟨t0, H0, u0⟩ (some d0) K0 := by
  have h := call_mk (Γ := Γ) (D := D) (n := n0) (s := ⟨t0, H0, u0⟩) (K := K0) (d := some d0) hg injhead ⟨t, hp⟩ (by simp [AV.idsL, AV.ids])
  simp only [eV_mk, eI, eS, eB, eSc, eSt, eE, eF, eM] at h
  rw [h]; refine CallA_go hd ?_; exact hK
theorem okhead : Shead.OK Try.prog 52 := by
  refine mkF_ok (fun x => ?_) (fun x => ⟨_, rfl⟩)
  obtain ⟨t, ht⟩ := x
  simp only at ht
  refine spec_b (Γ := [(83, Sread), (84, SindexByte)]) Dt_ok (.cons okread (.cons okindexByte .nil)) mixed [] [.tmp 2, .tmp 3, .tmp 4, .tmp 5, .tmp 6] Try.func52 rfl rfl Try.ntmps52 rfl rfl fun hg => ?_
  clear hg
  have hE := ends_ok ht
  have key : ∀ hz : ¬ ((readL t).c.e = 0 ∧ (readL t).kind ≠ 0 ∧ (readL t).ends.length ≠ 0) ∨ (0 ≤ Lib.indexByte t 60 + 1 ∧ Lib.indexByte t 60 + 1 ≤ el (readL t).ends 0 ∧ el (readL t).ends 0 ≤ t.length ∧ ((readL t).ends.length = 2 → el (readL t).ends 0 + 1 ≤ el (readL t).ends 1 ∧ el (readL t).ends 1 ≤ t.length)), True := fun _ => trivial
  have hz : ¬ ((readL t).c.e = 0 ∧ (readL t).kind ≠ 0 ∧ (readL t).ends.length ≠ 0) ∨ (0 ≤ Lib.indexByte t 60 + 1 ∧ Lib.indexByte t 60 + 1 ≤ el (readL t).ends 0 ∧ el (readL t).ends 0 ≤ t.length ∧ ((readL t).ends.length = 2 → el (readL t).ends 0 + 1 ≤ el (readL t).ends 1 ∧ el (readL t).ends 1 ≤ t.length)) := by
    by_cases h1 : (readL t).c.e = 0 ∧ (readL t).kind ≠ 0 ∧ (readL t).ends.length ≠ 0
    · exact .inr (hE h1.1 h1.2.1 h1.2.2)
    · exact .inl h1
  clear key hE
  repeat' (first | ((with_reducible refine Brn.mk (fun h => ?_) (fun h => ?_)) <;> (simp only [Un_u, h]; try simp only [decide_eq_true_eq, decide_eq_false_iff_not, beq_iff_eq, bne_iff_ne, ne_eq, beq_eq_false_iff_ne, bne_eq_false_iff_eq, Bool.not_eq_true', Bool.not_eq_false', Bool.not_eq_true, Int.not_lt, Int.not_le, gt_iff_lt, ge_iff_le, not_true_eq_false, not_false_eq_true] at h)) | ((with_reducible apply goread); (· rfl); (· omega); (· exact ht); (· rfl)) | ((with_reducible apply goindexByte); (· rfl); (· omega)) | ((with_reducible apply Draw.hit); (with_reducible refine Draw.mix 22 [[], [0], [0, 1], [0, 1, 2], [], [4], [4, 5], [4, 5, 6], [0, 1, 2, 3, 4, 5, 6, 7]] [none, none, none, none, none, none, none, none, none] ?_ ?_ ?_ ?_ ?_); (· rfl); (· kernel_rfl); (· kernel_rfl); (· kernel_rfl)) | ((with_reducible apply Draw.hit); (with_reducible refine Draw.mix 47 [[], [], [1], [1, 2], [1, 2, 3], [], [5], [5, 6], [0, 1, 2, 3, 4, 5, 6, 7], [0, 1, 2, 3, 4, 5, 6, 7, 8]] [none, none, none, none, none, none, none, none, none, none] ?_ ?_ ?_ ?_ ?_); (· rfl); (· kernel_rfl); (· kernel_rfl); (· kernel_rfl)) | ((with_reducible refine Req.mk ?_ ?_); (· first | (first | ((with_reducible refine of_eq_true (chk_op ?_ ?_)); (· rfl); (· simp only [go_sem, Nat.reduceLT, Nat.reduceLeDiff, Nat.reduceEqDiff, Nat.reduceAdd, Nat.reduceSub, Nat.reduceMul, Nat.reduceBEq, Nat.reduceBNe, reduceIte, reduceCtorEq, Int.reduceToNat, Int.reduceLT, Int.reduceLE, Int.reduceEq, Int.reduceAdd, Int.reduceSub, Int.reduceNeg, Int.reduceMul, Int.reduceNegSucc])) | ((with_reducible refine of_eq_true (chk_op_g ?_ ?_)); (· rfl); (· simp only [go_sem, Nat.reduceLT, Nat.reduceLeDiff, Nat.reduceEqDiff, Nat.reduceAdd, Nat.reduceSub, Nat.reduceMul, Nat.reduceBEq, Nat.reduceBNe, reduceIte, reduceCtorEq, Int.reduceToNat, Int.reduceLT, Int.reduceLE, Int.reduceEq, Int.reduceAdd, Int.reduceSub, Int.reduceNeg, Int.reduceMul, Int.reduceNegSucc]))) | (first | omega | (simp (disch := omega) only [wrap_i64, wrap_i32, wrap_u8, wrap_u16]; omega) | (simp only [go_sem, Nat.reduceLT, Nat.reduceLeDiff, Nat.reduceEqDiff, Nat.reduceAdd, Nat.reduceSub, Nat.reduceMul, Nat.reduceBEq, Nat.reduceBNe, reduceIte, reduceCtorEq, Int.reduceToNat, Int.reduceLT, Int.reduceLE, Int.reduceEq, Int.reduceAdd, Int.reduceSub, Int.reduceNeg, Int.reduceMul, Int.reduceNegSucc]; omega) | (simp only [go_sem, *, Nat.reduceLT, Nat.reduceLeDiff, Nat.reduceEqDiff, Nat.reduceAdd, Nat.reduceSub, Nat.reduceMul, Nat.reduceBEq, Nat.reduceBNe, reduceIte, reduceCtorEq, Int.reduceToNat, Int.reduceLT, Int.reduceLE, Int.reduceEq, Int.reduceAdd, Int.reduceSub, Int.reduceNeg, Int.reduceMul, Int.reduceNegSucc]; done)))) | simp only [go_sem, curB, namesR, toU8_60, Nat.reduceLT, Nat.reduceLeDiff, Nat.reduceEqDiff, Nat.reduceAdd, Nat.reduceSub, Nat.reduceMul, Nat.reduceBEq, Nat.reduceBNe, reduceIte, reduceCtorEq, Int.reduceToNat, Int.reduceLT, Int.reduceLE, Int.reduceEq, Int.reduceAdd, Int.reduceSub, Int.reduceNeg, Int.reduceMul, Int.reduceNegSucc] | simp (disch := omega) only [wrap_i64, wrap_i32, wrap_u8, wrap_u16])
  · simp [RetB_gen, retF, resF, optAll, go_sem, headL, h]
  · simp [RetB_gen, retF, resF, optAll, go_sem, headL, h, *]
  · have h' : (readL t).ends = [] := List.eq_nil_of_length_eq_zero (by omega)
    simp [RetB_gen, retF, resF, optAll, go_sem, headL, h', *]
  · have hH : headL t = ⟨(readL t).kind, [], segL t (Lib.indexByte t 60 + 1) (el (readL t).ends 0), segL t (el (readL t).ends 0 + 1) (el (readL t).ends 1), 0⟩ := by
      unfold headL
      simp only
      rw [if_neg (by omega), if_neg (by omega), if_neg (by omega), if_pos (by omega)]
    simp [RetB_gen, retF, resF, optAll, go_sem, hH, segL]
  · have hH : headL t = ⟨(readL t).kind, [], segL t (Lib.indexByte t 60 + 1) (el (readL t).ends 0), [], 0⟩ := by
      unfold headL
      simp only
      rw [if_neg (by omega), if_neg (by omega), if_neg (by omega), if_neg (by omega)]
    simp [RetB_gen, retF, resF, optAll, go_sem, hH, segL]
end Go.Proofs.Ythiddkhonklbkaa

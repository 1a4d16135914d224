/- Contracts: a cursor reads a type (package kind). -/
import Derived.Test.YthiddkhonklbkaaK3
set_option linter.unusedVariables false
set_option linter.unusedSimpArgs false
set_option maxRecDepth 20000
set_option maxHeartbeats 4000000
namespace Go.Proofs.Ythiddkhonklbkaa
open Go Go.Aw

theorem gosign {Γ : Specs} {D : Types} {n : Nat} {t : List (Nat × AV)} {H : Heap} {u : List Nat} {K : Kn} {d : Nat} (hg : Aw.look Γ 128 = some Ssign) {i j : Nat} {cs : List UInt8} {ca ce cd b : Int} {ns : List (List UInt8)}
    (h0 : hlook H i = some (rowC cs ca ce j ns.length cd)) (h1 : hlook H j = some (rowN ns)) (hij : Nat.beq i j = false) (hd : d < n) (ho : okCur ⟨cs, ca, ce, cd⟩)
    (hK : K.k ⟨(d, .p (.tup [])) :: t, (i, some (curB (signL ⟨cs, ca, ce, cd⟩ b) (.sl j 1 0 ns.length))) :: (j, some (namesR ns)) :: H, u⟩) : @CallG Γ D n 128 [.ptr i 0, .p (.c (.int .u8 b))] ⟨t, H, u⟩ (some d) K := by
  refine goCur hg (fun x y h => ?_) ⟨⟨cs, ca, ce, cd⟩, ns, b, ho⟩ rfl rfl rfl rfl h0 h1 hij hd hK
  obtain ⟨c, ns, b, h1⟩ := x
  obtain ⟨c', ns', b', h2⟩ := y
  simp only [Prod.mk.injEq, List.cons.injEq, AV.p.injEq, PV.c.injEq, Value.int.injEq, true_and, and_true] at h
  obtain ⟨rfl, h⟩ := h
  obtain ⟨rfl, rfl⟩ := curH_inj h
  rfl

/-! ### what errors tell of what was -/
theorem failsE_zero {b : Bool} {e er : Int} (h : failsE b e er = 0) (her : er ≠ 0) : e = 0 ∧ b = false := by
  unfold failsE at h
  split at h
  · exact absurd h her
  · rename_i hn
    refine ⟨h, ?_⟩
    cases b with
    | false => rfl
    | true => exact absurd ⟨rfl, h⟩ hn
/-- c' comes of c by going on in the text. -/
structure Goes (c c' : Cur) : Prop where
  ok : okCur c'
  s : c'.s = c.s
  ge : c.at_ ≤ c'.at_
  e : c'.e = 0 → c.e = 0
theorem Goes.trans {a b c : Cur} (h : Goes a b) (h' : Goes b c) : Goes a c := ⟨h'.ok, h'.s.trans h.s, Int.le_trans h.ge h'.ge, fun e => h.e (h'.e e)⟩
theorem Goes.refl {c : Cur} (h : okCur c) : Goes c c := ⟨h, rfl, Int.le_refl _, fun e => e⟩
theorem goes_part {c : Cur} (h : okCur c) : Goes c (partL c) := ⟨okCur_part h, rfl, partAt_ge c, fun e => (failsE_zero e (by decide)).1⟩
theorem goes_fails {c : Cur} (h : okCur c) (b : Bool) (er : Int) (her : er ≠ 0) : Goes c (failsL c b er) := ⟨h, rfl, Int.le_refl _, fun e => (failsE_zero e her).1⟩
theorem goes_sign {c : Cur} (h : okCur c) (b : Int) : Goes c (signL c b) := by
  obtain ⟨h1, h2, h3⟩ := h
  refine ⟨⟨?_, ?_, h3⟩, rfl, ?_, fun e => (failsE_zero e (by decide)).1⟩
  · simp only [signL]; split <;> omega
  · simp only [signL]
    split
    · rename_i he
      have := (failsE_zero he (by decide)).2
      simp only [Bool.or_eq_false_iff, decide_eq_false_iff_not] at this
      omega
    · exact h2
  · simp only [signL]; split <;> omega
theorem goes_restL (f : Nat) {c : Cur} (h : okCur c) : Goes c (restL f c) := by
  induction f generalizing c with
  | zero => exact Goes.refl h
  | succ f ih =>
    rw [restL]
    split
    · rename_i hm
      have h1 := more_ok h hm
      have h2 : Goes c ⟨c.s, c.at_ + 1, c.e, c.depth⟩ := ⟨h1, rfl, by simp only; omega, fun e => e⟩
      exact h2.trans ((goes_part h1).trans (ih (okCur_part h1)))
    · exact Goes.refl h
theorem goes_rest {c : Cur} (h : okCur c) : Goes c (restR c) := goes_restL _ h
theorem part_more {c : Cur} (h : okCur c) (he : (partL c).e = 0) : c.at_ + 1 ≤ (partL c).at_ := by
  obtain ⟨h1, h2, h3⟩ := h
  have he' : partE c = 0 := he
  have hb := (failsE_zero he' (by decide)).2
  simp only [Bool.or_eq_false_iff, decide_eq_false_iff_not, Bool.not_eq_false'] at hb
  show _ ≤ partAt c
  unfold partAt
  rw [if_pos he']
  have hlt : c.at_.toNat < c.s.length := by omega
  have hn : nameB (el c.s c.at_.toNat).toNat = true := by
    have : (c.at_.toNat : Int) = c.at_ := by omega
    rw [this]
    simp only [nameB, Bool.or_eq_true]
    exact .inl hb.2
  have := scan_step hlt hn
  have := le_scan c.s (c.at_.toNat + 1)
  omega

/-! ### one -/
abbrev NS := List (List UInt8)
structure OneR where
  kind : Int
  ends : List Int
  c : Cur
  ns : NS
def stepO (rc : Cur → NS → Cur × NS) (b : Int) (x : Cur × NS × List Int) : Cur × NS × List Int :=
  let c1 := signL x.1 b
  let r := if c1.e = 0 then rc c1 x.2.1 else (c1, x.2.1)
  (r.1, r.2, x.2.2 ++ [r.1.at_])
def itO (rc : Cur → NS → Cur × NS) (x : Cur × NS × List Int) : Nat → Cur × NS × List Int
  | 0 => x
  | i + 1 => stepO rc ((el [60, 44] (i : Int) : UInt8).toNat) (itO rc x i)
def segL (s : List UInt8) (a b : Int) : List UInt8 := (s.take b.toNat).drop a.toNat
def deepC (c : Cur) (deep : Int) : Cur := ⟨c.s, c.at_, failsE (decide (12 ≤ deep)) c.e 6, if deep + 1 > c.depth then deep + 1 else c.depth⟩
def oneL : Nat → Int → Cur → NS → OneR
  | 0, _, c, ns => ⟨0, [], c, ns⟩
  | f + 1, deep, c, ns =>
    let k := wordL (partS c)
    let c1 := partL c
    let c2 := restR c1
    if c1.at_ < c2.at_ ∨ k = 0 then ⟨0, [], failsL c2 (k != 0) 2, ns ++ [segL c.s c.at_ c2.at_]⟩
    else if innerL k = 0 ∨ c2.e ≠ 0 then ⟨k, [], c2, ns⟩
    else
      let x := itO (fun c ns => let r := oneL f (deep + 1) c ns; (r.c, r.ns)) (deepC c2 deep, ns, []) (innerL k).toNat
      ⟨k, x.2.2, signL x.1 62, x.2.1⟩
/-- A run of rc goes on in the text, and has no more names than places. -/
def Fine (c : Cur) (ns : NS) (c' : Cur) (ns' : NS) : Prop := Goes c c' ∧ (c'.e = 0 → (ns'.length : Int) ≤ c'.at_)
theorem step_fine {rc : Cur → NS → Cur × NS} {b : Int} {x : Cur × NS × List Int} {c : Cur} {ns : NS} (h : Fine c ns x.1 x.2.1) (hr : ∀ c ns, okCur c → c.e = 0 → (ns.length : Int) ≤ c.at_ → Fine c ns (rc c ns).1 (rc c ns).2) : Fine c ns (stepO rc b x).1 (stepO rc b x).2.1 := by
  have hs := goes_sign h.1.ok b
  unfold stepO
  simp only
  split
  · rename_i he
    have h2 := hr (signL x.1 b) x.2.1 hs.ok he (Int.le_trans (h.2 (hs.e he)) hs.ge)
    exact ⟨h.1.trans (hs.trans h2.1), h2.2⟩
  · rename_i he
    exact ⟨h.1.trans hs, fun e => absurd e he⟩
theorem it_fine {rc : Cur → NS → Cur × NS} {c : Cur} {ns : NS} {x : Cur × NS × List Int} (h : Fine c ns x.1 x.2.1) (hr : ∀ c ns, okCur c → c.e = 0 → (ns.length : Int) ≤ c.at_ → Fine c ns (rc c ns).1 (rc c ns).2) (i : Nat) : Fine c ns (itO rc x i).1 (itO rc x i).2.1 := by
  induction i with
  | zero => exact h
  | succ i ih => exact step_fine ih hr
theorem it_len {rc : Cur → NS → Cur × NS} {x : Cur × NS × List Int} (i : Nat) : (itO rc x i).2.2.length = x.2.2.length + i := by
  induction i with
  | zero => rfl
  | succ i ih => rw [itO, stepO]; simp [ih]; omega
theorem goes_deep {c : Cur} (h : okCur c) (deep : Int) : Goes c (deepC c deep) := ⟨h, rfl, Int.le_refl _, fun e => (failsE_zero e (by decide)).1⟩
theorem one_fine (f : Nat) : ∀ (deep : Int) (c : Cur) (ns : NS), okCur c → c.e = 0 → (ns.length : Int) ≤ c.at_ → Fine c ns (oneL f deep c ns).c (oneL f deep c ns).ns := by
  induction f with
  | zero => intro deep c ns h he hn; exact ⟨Goes.refl h, fun _ => hn⟩
  | succ f ih =>
    intro deep c ns h he hn
    have h1 := goes_part h
    have h2 := goes_rest h1.ok
    rw [oneL]
    simp only
    split
    · have h3 := goes_fails h2.ok (wordL (partS c) != 0) 2 (by decide)
      refine ⟨h1.trans (h2.trans h3), fun e => ?_⟩
      have := part_more h (h2.e (h3.e e))
      have := h2.ge
      have := h3.ge
      simp only [List.length_append, List.length_singleton]
      omega
    · split
      · exact ⟨h1.trans h2, fun e => by have := h1.ge; have := h2.ge; simp only; omega⟩
      · have h3 := goes_deep h2.ok deep
        have hx : Fine c ns (deepC (restR (partL c)) deep) ns := ⟨h1.trans (h2.trans h3), fun e => by have := h1.ge; have := h2.ge; have := h3.ge; omega⟩
        have hi := it_fine (rc := fun c ns => ((oneL f (deep + 1) c ns).c, (oneL f (deep + 1) c ns).ns)) (x := (deepC (restR (partL c)) deep, ns, [])) hx (fun c ns a b d => ih (deep + 1) c ns a b d) (innerL (wordL (partS c))).toNat
        have h4 := goes_sign hi.1.ok 62
        exact ⟨hi.1.trans h4, fun e => Int.le_trans (hi.2 (h4.e e)) h4.ge⟩

structure XOne (f : Nat) where
  c : Cur
  ns : NS
  deep : Int
  ok : okCur c
  e : c.e = 0
  le : (ns.length : Int) ≤ c.at_
  lo : 0 ≤ deep
  hi : deep ≤ 12
  fu : 12 - deep < f
def oneH (c : Cur) (ns : NS) : Heap := [(0, some (curB c (.sl 2 1 0 ns.length))), (2, some (namesR ns))]
noncomputable def Sone (f : Nat) : Aw.Spec := .s (mkG (fun x : XOne f => ([.ptr 0 0, .p (eI x.deep)], curH x.c x.ns)) (fun _ => 1) fun x => isS (.p (.tup [eI (oneL f x.deep x.c x.ns).kind, .fro 1 ((oneL f x.deep x.c x.ns).ends.map eI)])) (oneH (oneL f x.deep x.c x.ns).c (oneL f x.deep x.c x.ns).ns))
theorem goone {Γ : Specs} {D : Types} {n : Nat} {t : List (Nat × AV)} {H : Heap} {u : List Nat} {K : Kn} {d : Nat} {f : Nat} (hg : Aw.look Γ 114 = some (Sone f)) {i j : Nat} {cs : List UInt8} {ca ce cd deep : Int} {ns : List (List UInt8)}
    (h0 : hlook H i = some (rowC cs ca ce j ns.length cd)) (h1 : hlook H j = some (rowN ns)) (hij : Nat.beq i j = false) (hd : d < n)
    (ho : okCur ⟨cs, ca, ce, cd⟩) (he : ce = 0) (hl : (ns.length : Int) ≤ ca) (hlo : 0 ≤ deep) (hhi : deep ≤ 12) (hfu : 12 - deep < f) (hm : outB u [(d + 1) * 1000 + 2] = true)
    (hK : K.k ⟨(d, .p (.tup [eI (oneL f deep ⟨cs, ca, ce, cd⟩ ns).kind, .fro 1 ((oneL f deep ⟨cs, ca, ce, cd⟩ ns).ends.map eI)])) :: t, (i, some (curB (oneL f deep ⟨cs, ca, ce, cd⟩ ns).c (.sl ((d + 1) * 1000 + 2) 1 0 (oneL f deep ⟨cs, ca, ce, cd⟩ ns).ns.length))) :: (j, none) :: ((d + 1) * 1000 + 2, some (namesR (oneL f deep ⟨cs, ca, ce, cd⟩ ns).ns)) :: H, ((d + 1) * 1000 + 2) :: u⟩) :
    @CallG Γ D n 114 [.ptr i 0, .p (.c (.int .i64 deep))] ⟨t, H, u⟩ (some d) K := by
  have hne : i ≠ j := fun e => by subst e; simp at hij
  refine (callCur hg (fun x y h => ?_) (⟨⟨cs, ca, ce, cd⟩, ns, deep, ho, he, hl, hlo, hhi, hfu⟩ : XOne f) rfl rfl h0 h1 hne).mpr ?_
  · obtain ⟨c, ns, b, _, _, _, _, _, _⟩ := x
    obtain ⟨c', ns', b', _, _, _, _, _, _⟩ := y
    simp only [Prod.mk.injEq, List.cons.injEq, AV.p.injEq, eI_inj, true_and, and_true] at h
    obtain ⟨rfl, h⟩ := h
    obtain ⟨rfl, rfl⟩ := curH_inj h
    rfl
  · refine ⟨hm, (fun d' e => by cases e; exact hd), ?_⟩
    rw [AllS_is]
    have e1 : ∀ (c' : Cur) (ns' : NS), backH (nm [i, j] ((some d).getD 0)) (oneH c' ns') (List.range ([i, j].length + 1)) = [(i, some (curB c' (.sl ((d + 1) * 1000 + 2) 1 0 ns'.length))), (j, none), ((d + 1) * 1000 + 2, some (namesR ns'))] := by
      intro c' ns'
      simp [List.range, List.range.loop, backH, nm, oneH, hlook_cons, curB, namesR, Blk.ren, AV.renL, AV.ren, renL_p, -List.map_map]
    show K.k _
    rw [e1]; exact hK
theorem inner_02 (k : Int) : innerL k = 0 ∨ innerL k = 1 ∨ innerL k = 2 := by unfold innerL; split <;> (try split) <;> simp
theorem okone (f : Nat) : (Sone f).OK Try.prog 114 := by
  induction f with
  | zero => exact mkG_ok (fun x => by have := x.hi; have := x.fu; omega) (fun x => ⟨_, _, rfl, rfl⟩)
  | succ f ih =>
    refine mkG_ok (fun x => ?_) (fun x => ⟨_, _, rfl, rfl⟩)
    obtain ⟨⟨s, a, e0, dp⟩, ns, deep, ho, he, hle, hlo, hhi, hfu⟩ := x
    simp only at he hle
    subst he
    have ho' := ho
    obtain ⟨ho1, ho2, ho3⟩ := ho'
    simp only at ho1 ho2 ho3
    have hp := goes_part ho
    have hr := goes_rest hp.ok
    have hq := hp.trans hr
    have hq0 := hq.ok
    obtain ⟨⟨q1, q2, q3⟩, q4, q5, q6⟩ := hq
    simp only [partL] at q1 q2 q3 q4 q5 q6 hq0
    generalize hc2 : restR ⟨s, partAt ⟨s, a, 0, dp⟩, partE ⟨s, a, 0, dp⟩, dp⟩ = c2 at q1 q2 q3 q4 q5 q6 hq0
    obtain ⟨s2, a2, e2, d2⟩ := c2
    simp only at q1 q2 q3 q4 q5 q6
    subst q4
    refine spec_s (Γ := [(115, Sfails), (125, Spart), (124, Sword), (126, Srest), (127, Sinner), (128, Ssign), (114, Sone f)]) Dt_ok (.cons okfails (.cons okpart (.cons okword (.cons okrest (.cons okinner (.cons oksign (.cons ih .nil))))))) mixed [] [.tmp 4, .tmp 5] Try.func114 rfl rfl Try.ntmps114 rfl [0, 1] 3 rfl rfl rfl rfl fun hg => ?_
    simp only [curH]
    clear hg
    generalize hk : wordL (partS ⟨s2, a, 0, dp⟩) = k
    have hO : oneL (f + 1) deep ⟨s2, a, 0, dp⟩ ns = (if partAt ⟨s2, a, 0, dp⟩ < a2 ∨ k = 0 then ⟨0, [], ⟨s2, a2, failsE (k != 0) e2 2, d2⟩, ns ++ [segL s2 a a2]⟩
        else if innerL k = 0 ∨ e2 ≠ 0 then ⟨k, [], ⟨s2, a2, e2, d2⟩, ns⟩
        else
          let x := itO (fun c ns => ((oneL f (deep + 1) c ns).c, (oneL f (deep + 1) c ns).ns)) (deepC ⟨s2, a2, e2, d2⟩ deep, ns, []) (innerL k).toNat
          ⟨k, x.2.2, signL x.1 62, x.2.1⟩) := by
      rw [oneL]
      simp only [partL, hc2, hk]
      rfl
    repeat' (first | ((with_reducible refine Brn.mk (fun h => ?_) (fun h => ?_)) <;> (simp only [Un_u, h]; try simp only [decide_eq_true_eq, decide_eq_false_iff_not, beq_iff_eq, bne_iff_ne, ne_eq, beq_eq_false_iff_ne, bne_eq_false_iff_eq, Bool.not_eq_true', Bool.not_eq_false', Bool.not_eq_true, Int.not_lt, Int.not_le, gt_iff_lt, ge_iff_le, not_true_eq_false, not_false_eq_true] at h)) | ((with_reducible apply gopart); (· rfl); (· simp only [go_sem, Nat.reduceLT, Nat.reduceLeDiff, Nat.reduceEqDiff, Nat.reduceAdd, Nat.reduceSub, Nat.reduceMul, Nat.reduceBEq, Nat.reduceBNe, reduceIte, reduceCtorEq, Int.reduceToNat, Int.reduceLT, Int.reduceLE, Int.reduceEq, Int.reduceAdd, Int.reduceSub, Int.reduceNeg, Int.reduceMul, Int.reduceNegSucc]; try rfl); (· simp only [go_sem, Nat.reduceLT, Nat.reduceLeDiff, Nat.reduceEqDiff, Nat.reduceAdd, Nat.reduceSub, Nat.reduceMul, Nat.reduceBEq, Nat.reduceBNe, reduceIte, reduceCtorEq, Int.reduceToNat, Int.reduceLT, Int.reduceLE, Int.reduceEq, Int.reduceAdd, Int.reduceSub, Int.reduceNeg, Int.reduceMul, Int.reduceNegSucc]; try rfl); (· rfl); (· omega); (· exact ho)) | ((with_reducible apply goword); (· rfl); (· omega)) | ((with_reducible apply gorest); (· rfl); (· simp only [go_sem, Nat.reduceLT, Nat.reduceLeDiff, Nat.reduceEqDiff, Nat.reduceAdd, Nat.reduceSub, Nat.reduceMul, Nat.reduceBEq, Nat.reduceBNe, reduceIte, reduceCtorEq, Int.reduceToNat, Int.reduceLT, Int.reduceLE, Int.reduceEq, Int.reduceAdd, Int.reduceSub, Int.reduceNeg, Int.reduceMul, Int.reduceNegSucc]; try rfl); (· simp only [go_sem, Nat.reduceLT, Nat.reduceLeDiff, Nat.reduceEqDiff, Nat.reduceAdd, Nat.reduceSub, Nat.reduceMul, Nat.reduceBEq, Nat.reduceBNe, reduceIte, reduceCtorEq, Int.reduceToNat, Int.reduceLT, Int.reduceLE, Int.reduceEq, Int.reduceAdd, Int.reduceSub, Int.reduceNeg, Int.reduceMul, Int.reduceNegSucc]; try rfl); (· rfl); (· omega); (· exact hp.ok)) | ((with_reducible apply gofails); (· rfl); (· simp only [go_sem, Nat.reduceLT, Nat.reduceLeDiff, Nat.reduceEqDiff, Nat.reduceAdd, Nat.reduceSub, Nat.reduceMul, Nat.reduceBEq, Nat.reduceBNe, reduceIte, reduceCtorEq, Int.reduceToNat, Int.reduceLT, Int.reduceLE, Int.reduceEq, Int.reduceAdd, Int.reduceSub, Int.reduceNeg, Int.reduceMul, Int.reduceNegSucc]; try rfl); (· simp only [go_sem, Nat.reduceLT, Nat.reduceLeDiff, Nat.reduceEqDiff, Nat.reduceAdd, Nat.reduceSub, Nat.reduceMul, Nat.reduceBEq, Nat.reduceBNe, reduceIte, reduceCtorEq, Int.reduceToNat, Int.reduceLT, Int.reduceLE, Int.reduceEq, Int.reduceAdd, Int.reduceSub, Int.reduceNeg, Int.reduceMul, Int.reduceNegSucc]; try rfl); (· rfl); (· omega)) | ((with_reducible apply goinner); (· rfl); (· omega)) | ((with_reducible apply Draw.hit); (with_reducible refine Draw.mix 28 [[], [], [1], [1, 2], [1, 2, 3], [], [5], [5, 6], [5, 6, 7], [], [], [10], [10, 11], [10, 11, 12], [5, 6, 7, 8, 9, 10, 11, 12, 13], [5, 6, 7, 8, 9, 10, 11, 12, 13, 14], [1, 2, 3, 4, 5, 6, 7, 8, 9, 10, 11, 12, 13, 14, 15], [0, 1, 2, 3, 4, 5, 6, 7, 8, 9, 10, 11, 12, 13, 14, 15, 16], [0, 1, 2, 3, 4, 5, 6, 7, 8, 9, 10, 11, 12, 13, 14, 15, 16, 17], [0, 1, 2, 3, 4, 5, 6, 7, 8, 9, 10, 11, 12, 13, 14, 15, 16, 17, 18]] [some ([], [1, 143, 144]), some ([], [143]), some ([], [143]), some ([], [143]), some ([], [143]), none, none, none, none, none, none, none, none, none, none, some ([143], []), some ([1, 144], []), none, none, some ([0], [])] ?_ ?_ ?_ ?_ ?_); (· rfl); (· kernel_rfl); (· kernel_rfl); (· kernel_rfl)) | ((with_reducible refine Req.mk ?_ ?_); (· first | (first | ((with_reducible refine of_eq_true (chk_op ?_ ?_)); (· rfl); (· simp only [go_sem, Nat.reduceLT, Nat.reduceLeDiff, Nat.reduceEqDiff, Nat.reduceAdd, Nat.reduceSub, Nat.reduceMul, Nat.reduceBEq, Nat.reduceBNe, reduceIte, reduceCtorEq, Int.reduceToNat, Int.reduceLT, Int.reduceLE, Int.reduceEq, Int.reduceAdd, Int.reduceSub, Int.reduceNeg, Int.reduceMul, Int.reduceNegSucc])) | ((with_reducible refine of_eq_true (chk_op_g ?_ ?_)); (· rfl); (· simp only [go_sem, Nat.reduceLT, Nat.reduceLeDiff, Nat.reduceEqDiff, Nat.reduceAdd, Nat.reduceSub, Nat.reduceMul, Nat.reduceBEq, Nat.reduceBNe, reduceIte, reduceCtorEq, Int.reduceToNat, Int.reduceLT, Int.reduceLE, Int.reduceEq, Int.reduceAdd, Int.reduceSub, Int.reduceNeg, Int.reduceMul, Int.reduceNegSucc]))) | (first | omega | (simp (disch := omega) only [wrap_i64, wrap_i32, wrap_u8, wrap_u16]; omega) | (simp only [go_sem, Nat.reduceLT, Nat.reduceLeDiff, Nat.reduceEqDiff, Nat.reduceAdd, Nat.reduceSub, Nat.reduceMul, Nat.reduceBEq, Nat.reduceBNe, reduceIte, reduceCtorEq, Int.reduceToNat, Int.reduceLT, Int.reduceLE, Int.reduceEq, Int.reduceAdd, Int.reduceSub, Int.reduceNeg, Int.reduceMul, Int.reduceNegSucc]; omega) | (simp only [go_sem, *, Nat.reduceLT, Nat.reduceLeDiff, Nat.reduceEqDiff, Nat.reduceAdd, Nat.reduceSub, Nat.reduceMul, Nat.reduceBEq, Nat.reduceBNe, reduceIte, reduceCtorEq, Int.reduceToNat, Int.reduceLT, Int.reduceLE, Int.reduceEq, Int.reduceAdd, Int.reduceSub, Int.reduceNeg, Int.reduceMul, Int.reduceNegSucc]; done)))) | simp only [go_sem, curB, namesR, failsL, partL, Nat.mul_one, hc2, hk, Nat.reduceLT, Nat.reduceLeDiff, Nat.reduceEqDiff, Nat.reduceAdd, Nat.reduceSub, Nat.reduceMul, Nat.reduceBEq, Nat.reduceBNe, reduceIte, reduceCtorEq, Int.reduceToNat, Int.reduceLT, Int.reduceLE, Int.reduceEq, Int.reduceAdd, Int.reduceSub, Int.reduceNeg, Int.reduceMul, Int.reduceNegSucc] | simp (disch := omega) only [wrap_i64, wrap_i32, wrap_u8, wrap_u16])
    · rw [hO, if_pos (.inl h)]
      refine RetS.to (s' := ⟨[(4, .p (eI 0)), (5, .p (.fro 1 []))], oneH ⟨s2, a2, failsE (k != 0) e2 2, d2⟩ (ns ++ [segL s2 a a2]), [0, 1, 2]⟩) (LeS.via [(2, 144)] (by simp [go_sem,  oneH, curB, namesR, segL, List.map_append, -List.map_map]) (by simp [go_sem,  oneH, curB, namesR, segL, List.map_append, -List.map_map]) (by simp [go_sem,  oneH, curB, namesR, segL, List.map_append, -List.map_map]) (by simp [go_sem,  oneH, curB, namesR, segL, List.map_append, -List.map_map]) (by simp [go_sem,  oneH, curB, namesR, segL, List.map_append, -List.map_map]) (by simp [go_sem]) (by simp [go_sem,  oneH, curB, namesR, segL, List.map_append, -List.map_map])) rfl rfl ?_ ⟨rfl, rfl⟩
      simp [go_sem, oneH, curB, namesR, -List.map_map]
    · rw [hO, if_pos (.inr h)]
      refine RetS.to (s' := ⟨[(4, .p (eI 0)), (5, .p (.fro 1 []))], oneH ⟨s2, a2, failsE (k != 0) e2 2, d2⟩ (ns ++ [segL s2 a a2]), [0, 1, 2]⟩) (LeS.via [(2, 144)] (by simp [go_sem,  oneH, curB, namesR, segL, h, List.map_append, -List.map_map]) (by simp [go_sem,  oneH, curB, namesR, segL, h, List.map_append, -List.map_map]) (by simp [go_sem,  oneH, curB, namesR, segL, h, List.map_append, -List.map_map]) (by simp [go_sem,  oneH, curB, namesR, segL, h, List.map_append, -List.map_map]) (by simp [go_sem,  oneH, curB, namesR, segL, h, List.map_append, -List.map_map]) (by simp [go_sem]) (by simp [go_sem,  oneH, curB, namesR, segL, h, List.map_append, -List.map_map])) rfl rfl ?_ ⟨rfl, rfl⟩
      simp [go_sem, oneH, curB, namesR, -List.map_map]
    · rename_i h1 h2
      rw [hO, if_neg (by omega), if_pos (.inl h)]
      refine RetS.to (s' := ⟨[(4, .p (eI k)), (5, .p (.fro 1 []))], oneH ⟨s2, a2, e2, d2⟩ ns, [0, 1, 2]⟩) (LeS.via [(2, 1)] (by simp [go_sem,  oneH, curB, namesR, -List.map_map]) (by simp [go_sem,  oneH, curB, namesR, -List.map_map]) (by simp [go_sem,  oneH, curB, namesR, -List.map_map]) (by simp [go_sem,  oneH, curB, namesR, -List.map_map]) (by simp [go_sem,  oneH, curB, namesR, -List.map_map]) (by simp [go_sem]) (by simp [go_sem,  oneH, curB, namesR, -List.map_map])) rfl rfl ?_ ⟨rfl, rfl⟩
      simp [go_sem, oneH, curB, namesR, -List.map_map]
    · rename_i h1 h2 h3
      rw [hO, if_neg (by omega), if_pos (.inr h)]
      refine RetS.to (s' := ⟨[(4, .p (eI k)), (5, .p (.fro 1 []))], oneH ⟨s2, a2, e2, d2⟩ ns, [0, 1, 2]⟩) (LeS.via [(2, 1)] (by simp [go_sem,  oneH, curB, namesR, -List.map_map]) (by simp [go_sem,  oneH, curB, namesR, -List.map_map]) (by simp [go_sem,  oneH, curB, namesR, -List.map_map]) (by simp [go_sem,  oneH, curB, namesR, -List.map_map]) (by simp [go_sem,  oneH, curB, namesR, -List.map_map]) (by simp [go_sem]) (by simp [go_sem,  oneH, curB, namesR, -List.map_map])) rfl rfl ?_ ⟨rfl, rfl⟩
      simp [go_sem, oneH, curB, namesR, -List.map_map]
    · rename_i h1 h2 h3
      subst h
      rw [if_neg (show ¬(partAt ⟨s2, a, 0, dp⟩ < a2 ∨ k = 0) by omega), if_neg (show ¬(innerL k = 0 ∨ (0 : Int) ≠ 0) by omega)] at hO
      rw [hO]
      generalize hrc : (fun c ns => ((oneL f (deep + 1) c ns).c, (oneL f (deep + 1) c ns).ns)) = rc
      have hrc' : ∀ c ns, rc c ns = ((oneL f (deep + 1) c ns).c, (oneL f (deep + 1) c ns).ns) := fun c ns => by rw [← hrc]
      obtain ⟨m, hm⟩ : ∃ m : Nat, innerL k = m := ⟨(innerL k).toNat, by have := inner_02 k; omega⟩
      have hm2 : m ≤ 2 := by have := inner_02 k; omega
      rw [hm, Int.toNat_natCast]
      have hd0 := goes_deep hq0 deep
      have hfine : ∀ i, Fine (deepC ⟨s2, a2, 0, d2⟩ deep) ns (itO rc (deepC ⟨s2, a2, 0, d2⟩ deep, ns, []) i).1 (itO rc (deepC ⟨s2, a2, 0, d2⟩ deep, ns, []) i).2.1 := fun i =>
        it_fine (x := (deepC ⟨s2, a2, 0, d2⟩ deep, ns, [])) ⟨Goes.refl hd0.ok, fun _ => by have := hd0.ge; simp only at this ⊢; omega⟩ (fun c ns a b d => by rw [hrc']; exact one_fine f (deep + 1) c ns a b d) i
      refine Aw.Loop.mk (X := {i : Nat // i ≤ m}) (fun i => ⟨[(74, .p (eI i.1)), (73, .p (eI m)), (5, .sl 151 1 0 (itO rc (deepC ⟨s2, a2, 0, d2⟩ deep, ns, []) i.1).2.2.length), (4, .p (eI k)), (0, .ptr 0 0), (1, .p (eI deep))],
        [(0, some (curB (itO rc (deepC ⟨s2, a2, 0, d2⟩ deep, ns, []) i.1).1 (.sl 150 1 0 (itO rc (deepC ⟨s2, a2, 0, d2⟩ deep, ns, []) i.1).2.1.length))), (150, some (namesR (itO rc (deepC ⟨s2, a2, 0, d2⟩ deep, ns, []) i.1).2.1)), (151, some (.row 3 1 (((itO rc (deepC ⟨s2, a2, 0, d2⟩ deep, ns, []) i.1).2.2.map eI).map .p)))], [0, 1, 150, 151]⟩) (fun i => m - i.1) ⟨0, by omega⟩
        (LeS.trans (LeS.nilT 5 151 3 1 rfl rfl) (LeS.via [(150, 1)] (by simp [go_sem,  itO, deepC, curB, namesR, hm, -List.map_map]) (by simp [go_sem,  itO, deepC, curB, namesR, hm, -List.map_map]) (by simp [go_sem,  itO, deepC, curB, namesR, hm, -List.map_map]) (by simp [go_sem,  itO, deepC, curB, namesR, hm, -List.map_map]) (by simp [go_sem,  itO, deepC, curB, namesR, hm, -List.map_map]) (by simp [go_sem]) (by simp [go_sem,  itO, deepC, curB, namesR, hm, -List.map_map]))) ?_
      rintro ⟨i, hi⟩
      have hF := hfine i
      have hL := it_len (rc := rc) (x := (deepC ⟨s2, a2, 0, d2⟩ deep, ns, [])) i
      simp only
      generalize hx : itO rc (deepC ⟨s2, a2, 0, d2⟩ deep, ns, []) i = x at hF hL
      obtain ⟨⟨sx, ax, ex, dx⟩, nsx, endsx⟩ := x
      obtain ⟨⟨g1, g2, g3, g4⟩, g5⟩ := hF
      simp only [List.length_nil, Nat.zero_add] at g1 g2 g3 g4 g5 hL
      have hz : ex = 0 → deep < 12 := fun e => by
        have := (failsE_zero (g4 e) (by decide)).2
        simpa using this
      have hs := goes_sign g1 ((el [60, 44] (i : Int) : UInt8).toNat : Int)
      have hl' : (signL ⟨sx, ax, ex, dx⟩ ((el [60, 44] (i : Int) : UInt8).toNat : Int)).e = 0 → (nsx.length : Int) ≤ (signL ⟨sx, ax, ex, dx⟩ ((el [60, 44] (i : Int) : UInt8).toNat : Int)).at_ := fun e => Int.le_trans (g5 (hs.e e)) hs.ge
      have hd' : (signL ⟨sx, ax, ex, dx⟩ ((el [60, 44] (i : Int) : UInt8).toNat : Int)).e = 0 → deep + 1 ≤ 12 := fun e => by have := hz (hs.e e); omega
      repeat' (first | ((with_reducible refine Brn.mk (fun h => ?_) (fun h => ?_)) <;> (simp only [Un_u, h]; try simp only [decide_eq_true_eq, decide_eq_false_iff_not, beq_iff_eq, bne_iff_ne, ne_eq, beq_eq_false_iff_ne, bne_eq_false_iff_eq, Bool.not_eq_true', Bool.not_eq_false', Bool.not_eq_true, Int.not_lt, Int.not_le, gt_iff_lt, ge_iff_le, not_true_eq_false, not_false_eq_true] at h)) | ((with_reducible apply gosign); (· rfl); (· simp only [go_sem, Nat.reduceLT, Nat.reduceLeDiff, Nat.reduceEqDiff, Nat.reduceAdd, Nat.reduceSub, Nat.reduceMul, Nat.reduceBEq, Nat.reduceBNe, reduceIte, reduceCtorEq, Int.reduceToNat, Int.reduceLT, Int.reduceLE, Int.reduceEq, Int.reduceAdd, Int.reduceSub, Int.reduceNeg, Int.reduceMul, Int.reduceNegSucc]; try rfl); (· simp only [go_sem, Nat.reduceLT, Nat.reduceLeDiff, Nat.reduceEqDiff, Nat.reduceAdd, Nat.reduceSub, Nat.reduceMul, Nat.reduceBEq, Nat.reduceBNe, reduceIte, reduceCtorEq, Int.reduceToNat, Int.reduceLT, Int.reduceLE, Int.reduceEq, Int.reduceAdd, Int.reduceSub, Int.reduceNeg, Int.reduceMul, Int.reduceNegSucc]; try rfl); (· rfl); (· omega); (· exact g1)) | ((with_reducible apply goone); (· rfl); (· simp only [go_sem, Nat.reduceLT, Nat.reduceLeDiff, Nat.reduceEqDiff, Nat.reduceAdd, Nat.reduceSub, Nat.reduceMul, Nat.reduceBEq, Nat.reduceBNe, reduceIte, reduceCtorEq, Int.reduceToNat, Int.reduceLT, Int.reduceLE, Int.reduceEq, Int.reduceAdd, Int.reduceSub, Int.reduceNeg, Int.reduceMul, Int.reduceNegSucc]; try rfl); (· simp only [go_sem, Nat.reduceLT, Nat.reduceLeDiff, Nat.reduceEqDiff, Nat.reduceAdd, Nat.reduceSub, Nat.reduceMul, Nat.reduceBEq, Nat.reduceBNe, reduceIte, reduceCtorEq, Int.reduceToNat, Int.reduceLT, Int.reduceLE, Int.reduceEq, Int.reduceAdd, Int.reduceSub, Int.reduceNeg, Int.reduceMul, Int.reduceNegSucc]; try rfl); (· rfl); (· omega); (· exact hs.ok); (· assumption); (· exact hl' (by assumption)); (· omega); (· exact hd' (by assumption)); (· omega); (· rfl)) | ((with_reducible refine Req.mk ?_ ?_); (· first | (first | ((with_reducible refine of_eq_true (chk_op ?_ ?_)); (· rfl); (· simp only [go_sem, Nat.reduceLT, Nat.reduceLeDiff, Nat.reduceEqDiff, Nat.reduceAdd, Nat.reduceSub, Nat.reduceMul, Nat.reduceBEq, Nat.reduceBNe, reduceIte, reduceCtorEq, Int.reduceToNat, Int.reduceLT, Int.reduceLE, Int.reduceEq, Int.reduceAdd, Int.reduceSub, Int.reduceNeg, Int.reduceMul, Int.reduceNegSucc])) | ((with_reducible refine of_eq_true (chk_op_g ?_ ?_)); (· rfl); (· simp only [go_sem, Nat.reduceLT, Nat.reduceLeDiff, Nat.reduceEqDiff, Nat.reduceAdd, Nat.reduceSub, Nat.reduceMul, Nat.reduceBEq, Nat.reduceBNe, reduceIte, reduceCtorEq, Int.reduceToNat, Int.reduceLT, Int.reduceLE, Int.reduceEq, Int.reduceAdd, Int.reduceSub, Int.reduceNeg, Int.reduceMul, Int.reduceNegSucc]))) | (first | omega | (simp (disch := omega) only [wrap_i64, wrap_i32, wrap_u8, wrap_u16]; omega) | (simp only [go_sem, Nat.reduceLT, Nat.reduceLeDiff, Nat.reduceEqDiff, Nat.reduceAdd, Nat.reduceSub, Nat.reduceMul, Nat.reduceBEq, Nat.reduceBNe, reduceIte, reduceCtorEq, Int.reduceToNat, Int.reduceLT, Int.reduceLE, Int.reduceEq, Int.reduceAdd, Int.reduceSub, Int.reduceNeg, Int.reduceMul, Int.reduceNegSucc]; omega) | (simp only [go_sem, *, Nat.reduceLT, Nat.reduceLeDiff, Nat.reduceEqDiff, Nat.reduceAdd, Nat.reduceSub, Nat.reduceMul, Nat.reduceBEq, Nat.reduceBNe, reduceIte, reduceCtorEq, Int.reduceToNat, Int.reduceLT, Int.reduceLE, Int.reduceEq, Int.reduceAdd, Int.reduceSub, Int.reduceNeg, Int.reduceMul, Int.reduceNegSucc]; done)))) | simp only [go_sem, curB, namesR, Nat.mul_one, Nat.reduceLT, Nat.reduceLeDiff, Nat.reduceEqDiff, Nat.reduceAdd, Nat.reduceSub, Nat.reduceMul, Nat.reduceBEq, Nat.reduceBNe, reduceIte, reduceCtorEq, Int.reduceToNat, Int.reduceLT, Int.reduceLE, Int.reduceEq, Int.reduceAdd, Int.reduceSub, Int.reduceNeg, Int.reduceMul, Int.reduceNegSucc] | simp (disch := omega) only [wrap_i64, wrap_i32, wrap_u8, wrap_u16])
      · have hn : itO rc (deepC ⟨s2, a2, 0, d2⟩ deep, ns, []) (i + 1) = ((oneL f (deep + 1) (signL ⟨sx, ax, ex, dx⟩ ((el [60, 44] (i : Int) : UInt8).toNat : Int)) nsx).c, (oneL f (deep + 1) (signL ⟨sx, ax, ex, dx⟩ ((el [60, 44] (i : Int) : UInt8).toNat : Int)) nsx).ns, endsx ++ [(oneL f (deep + 1) (signL ⟨sx, ax, ex, dx⟩ ((el [60, 44] (i : Int) : UInt8).toNat : Int)) nsx).c.at_]) := by
          rw [itO, hx, stepO]
          simp only [h, if_true, hrc']
        refine ⟨⟨i + 1, by omega⟩, by simp only; omega, ?_⟩
        simp only [hn]
        exact (LeS.via [(150, 90002), (151, 196)] (by simp [go_sem,  curB, namesR, curEta, List.map_append, -List.map_map]) (by simp [go_sem,  curB, namesR, curEta, List.map_append, -List.map_map]) (by simp [go_sem,  curB, namesR, curEta, List.map_append, -List.map_map]) (by simp [go_sem,  curB, namesR, curEta, List.map_append, -List.map_map]) (by simp [go_sem,  curB, namesR, curEta, List.map_append, -List.map_map]) (by simp [go_sem]) (by simp [go_sem,  curB, namesR, curEta, List.map_append, -List.map_map]))
      · have hn : itO rc (deepC ⟨s2, a2, 0, d2⟩ deep, ns, []) (i + 1) = (signL ⟨sx, ax, ex, dx⟩ ((el [60, 44] (i : Int) : UInt8).toNat : Int), nsx, endsx ++ [(signL ⟨sx, ax, ex, dx⟩ ((el [60, 44] (i : Int) : UInt8).toNat : Int)).at_]) := by
          rw [itO, hx, stepO]
          simp only [h, if_false]
        refine ⟨⟨i + 1, by omega⟩, by simp only; omega, ?_⟩
        simp only [hn]
        exact (LeS.via [(151, 196)] (by simp [go_sem,  curB, namesR, curEta, List.map_append, -List.map_map]) (by simp [go_sem,  curB, namesR, curEta, List.map_append, -List.map_map]) (by simp [go_sem,  curB, namesR, curEta, List.map_append, -List.map_map]) (by simp [go_sem,  curB, namesR, curEta, List.map_append, -List.map_map]) (by simp [go_sem,  curB, namesR, curEta, List.map_append, -List.map_map]) (by simp [go_sem]) (by simp [go_sem,  curB, namesR, curEta, List.map_append, -List.map_map]))
      · have him : i = m := by omega
        subst him
        rw [hx]
        refine RetS.to (s' := ⟨[(4, .p (eI k)), (5, .p (.fro 1 (endsx.map eI)))], oneH (signL ⟨sx, ax, ex, dx⟩ 62) nsx, [0, 1, 2]⟩) (LeS.trans (frz_1 Dt_ok eI endsx 5 151 rfl rfl rfl rfl rfl) (LeS.via [(2, 150)] (by simp [go_sem,  oneH, curB, namesR, -List.map_map]) (by simp [go_sem,  oneH, curB, namesR, -List.map_map]) (by simp [go_sem,  oneH, curB, namesR, -List.map_map]) (by simp [go_sem,  oneH, curB, namesR, -List.map_map]) (by simp [go_sem,  oneH, curB, namesR, -List.map_map]) (by simp [go_sem]) (by simp [go_sem,  oneH, curB, namesR, -List.map_map]))) rfl rfl ?_ ⟨rfl, rfl⟩
        simp [go_sem, oneH, curB, namesR, -List.map_map]
end Go.Proofs.Ythiddkhonklbkaa

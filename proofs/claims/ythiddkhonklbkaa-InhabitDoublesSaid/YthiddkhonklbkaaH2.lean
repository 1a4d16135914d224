/- Contract: which structs have a rank (package inhabit). -/
import Derived.Test.YthiddkhonklbkaaH1
import Derived.Test.YthiddkhonklbkaaM1
set_option linter.unusedVariables false
set_option linter.unusedSimpArgs false
set_option maxRecDepth 20000
set_option maxHeartbeats 4000000
namespace Go.Proofs.Ythiddkhonklbkaa
open Go Go.Aw

theorem goclone {Γ : Specs} {D : Types} {n : Nat} {T : List (Nat × AV)} {H : Heap} {u : List Nat} {K : Kn} {d i : Nat} {r : KM} (hg : Aw.look Γ 26 = some Sclone) (h0 : hlook H i = some (.map (r.map eK))) (hd : d < n) (hm : outB u [(d + 1) * 1000 + 1] = true)
    (hK : K.k ⟨(d, .mp ((d + 1) * 1000 + 1)) :: T, (i, some (.map (r.map eK))) :: ((d + 1) * 1000 + 1, some (.map (r.map eK))) :: H, ((d + 1) * 1000 + 1) :: u⟩) : @CallG Γ D n 26 [.mp i] ⟨T, H, u⟩ (some d) K := by
  have inj : ∀ x y : KM, (([.mp 0], [(0, some (.map (x.map eK)))]) : List AV × Heap) = ([.mp 0], [(0, some (.map (y.map eK)))]) → x = y := by
    intro x y h
    simp only [Prod.mk.injEq, List.cons.injEq, Option.some.injEq, Blk.map.injEq, keys_inj, true_and, and_true] at h
    exact h
  have hr : once (reach (hlook H) 8 (AV.idsL [.mp i])) [] = [i] := by simp [AV.idsL, AV.ids, reach, once, idsAt, h0, Blk.ids]
  rw [CallG_s hg [i] hr (by simp [closedB, h0, Blk.ids]) (by simp [AV.idsL, AV.ids])]
  have h2 := mkG_eq (nR := fun _ => 1) (Q := fun r : KM => isS (.mp 1) [(0, some (.map (r.map eK))), (1, some (.map (r.map eK)))]) inj r
  have h3 : ([AV.mp i] : List AV).map (AV.ren (at_ [i])) = [.mp 0] := by simp [AV.ren, at_]
  have h4 : sub (hlook H) (at_ [i]) 0 [i] = [(0, some (.map (r.map eK)))] := by simp [sub, h0, Blk.ren]
  show @CallS (mkG _ _ _ (List.map (AV.ren (at_ [i])) [.mp i]) (sub (hlook H) (at_ [i]) 0 [i])) _ _ _ _ _
  rw [h3, h4, h2]
  refine ⟨hm, (fun d' e => by cases e; exact hd), ?_⟩
  rw [AllS_is]
  have e1 : backH (nm [i] ((some d).getD 0)) [(0, some (.map (r.map eK))), (1, some (.map (r.map eK)))] (List.range ([i].length + 1)) = [(i, some (.map (r.map eK))), ((d + 1) * 1000 + 1, some (.map (r.map eK)))] := by
    simp [List.range, List.range.loop, backH, nm, hlook_cons, Blk.ren]
  show K.k _
  rw [e1]
  exact hK

def okSc (s : Schema) : Prop := s.structs.length ≤ 1000000000 ∧ ∀ x ∈ s.structs, okF x.fields
def roundN (r : KM) (s : Schema) (l : List SStruct) : Nat → KM
  | 0 => r
  | k + 1 => if (getK (el l (k : Int)).name r).isSome = true then roundN r s l k else if 0 ≤ rankL r s (el l (k : Int)) then putK (el l (k : Int)).name (rankL r s (el l (k : Int))) (roundN r s l k) else roundN r s l k
def roundL (r : KM) (s : Schema) : KM := roundN r s s.structs s.structs.length
def hasIt (s : Schema) : Nat → KM → KM
  | 0, r => r
  | f + 1, r => if (roundL r s).length = r.length then r else hasIt s f (roundL r s)
def hasL (s : Schema) : KM := hasIt s (s.structs.length + 1) []
/-- How many structs have no rank. -/
def open_ (s : Schema) (r : KM) : Nat := (s.structs.filter fun x => (getK x.name r).isNone).length
theorem round_keeps (r : KM) (s : Schema) (l : List SStruct) (k : Nat) (w : List UInt8) : (getK w r).isSome = true → (getK w (roundN r s l k)).isSome = true := by
  intro h
  induction k with
  | zero => exact h
  | succ k ih =>
    rw [roundN]
    split
    · exact ih
    · split
      · rw [getK_put]; split
        · rfl
        · exact ih
      · exact ih
theorem round_len (r : KM) (s : Schema) (l : List SStruct) (k : Nat) : r.length ≤ (roundN r s l k).length := by
  induction k with
  | zero => exact Nat.le_refl _
  | succ k ih =>
    rw [roundN]
    split
    · exact ih
    · split
      · rw [putK_length]; split <;> omega
      · exact ih
theorem round_new (r : KM) (s : Schema) (l : List SStruct) (k : Nat) (hk : k ≤ l.length) (h : (roundN r s l k).length ≠ r.length) : ∃ x ∈ l, getK x.name r = none ∧ (getK x.name (roundN r s l k)).isSome = true := by
  induction k with
  | zero => exact absurd rfl h
  | succ k ih =>
    by_cases h' : (roundN r s l k).length = r.length
    · have hm : el l (k : Int) ∈ l := el_mem (by omega)
      rw [roundN] at h ⊢
      split at h
      · exact absurd h' h
      · rename_i hs
        rw [if_neg hs]
        split at h
        · rename_i hp
          rw [if_pos hp]
          refine ⟨_, hm, ?_, ?_⟩
          · cases hg : getK (el l (k : Int)).name r with
            | none => rfl
            | some v => rw [hg] at hs; exact absurd rfl hs
          · rw [getK_put, if_pos rfl]; rfl
        · exact absurd h' h
    · obtain ⟨x, hx, h1, h2⟩ := ih (by omega) h'
      refine ⟨x, hx, h1, ?_⟩
      rw [roundN]
      split
      · exact h2
      · split
        · rw [getK_put]; split
          · rfl
          · exact h2
        · exact h2
theorem filter_lt {α : Type} {p q : α → Bool} {l : List α} (h : ∀ x ∈ l, q x = true → p x = true) {x : α} (hx : x ∈ l) (hp : p x = true) (hq : q x = false) : (l.filter q).length < (l.filter p).length := by
  have hle : ∀ m : List α, (∀ x ∈ m, q x = true → p x = true) → (m.filter q).length ≤ (m.filter p).length := by
    intro m
    induction m with
    | nil => intro _; exact Nat.le_refl _
    | cons y m ih =>
      intro hm
      have := ih (fun z hz => hm z (by simp [hz]))
      have hy := hm y (by simp)
      rw [List.filter_cons, List.filter_cons]
      cases hqy : q y with
      | true => rw [hy hqy]; simp; exact this
      | false => cases p y <;> simp <;> omega
  induction l with
  | nil => cases hx
  | cons y l ih =>
    rw [List.filter_cons, List.filter_cons]
    rcases List.mem_cons.1 hx with rfl | hx'
    · rw [hp, hq]
      have := hle l (fun z hz => h z (by simp [hz]))
      simp; omega
    · have := ih (fun z hz => h z (by simp [hz])) hx'
      have hy := h y (by simp)
      cases hqy : q y with
      | true => rw [hy hqy]; simp; exact this
      | false => cases p y <;> simp <;> omega
theorem open_lt (s : Schema) (r : KM) (h : (roundL r s).length ≠ r.length) : open_ s (roundL r s) < open_ s r := by
  obtain ⟨x, hx, h1, h2⟩ := round_new r s s.structs s.structs.length (Nat.le_refl _) h
  refine filter_lt (fun y hy h => ?_) hx (by rw [h1]; rfl) ?_
  · cases hg : getK y.name r with
    | none => rfl
    | some v =>
      have := round_keeps r s s.structs s.structs.length y.name (by rw [hg]; rfl)
      unfold roundL at h
      cases hq : getK y.name (roundN r s s.structs s.structs.length) with
      | none => rw [hq] at this; cases this
      | some _ => rw [hq] at h; cases h
  · cases hq : getK x.name (roundL r s) with
    | none => unfold roundL at hq; rw [hq] at h2; cases h2
    | some _ => rfl
/-- All ranks are B at the most. -/
def below (B : Int) (r : KM) : Prop := ∀ w v, getK w r = some v → v ≤ B
theorem of_below {B : Int} (hB : 0 ≤ B) {r : KM} (hr : below B r) (s : Schema) (t : List UInt8) : ofL r s t ≤ B := by
  unfold ofL
  split
  · omega
  · split
    · omega
    · split
      · split <;> omega
      · split
        · rename_i n hn; exact hr _ _ hn
        · omega
theorem rank_below {B : Int} (hB : 0 ≤ B) {r : KM} (hr : below B r) (s : Schema) (x : SStruct) : rankL r s x ≤ B + 1 := by
  have hb : ∀ k, (bestN r s x.fields k).2 ≤ B := by
    intro k
    induction k with
    | zero => show (-1 : Int) ≤ B; omega
    | succ k ih =>
      rw [bestN]; split
      · exact of_below hB hr s _
      · exact ih
  have ho : ∀ k o, outN r s x.fields k = some o → o ≤ B := by
    intro k
    induction k with
    | zero => intro o h; cases h; exact hB
    | succ k ih =>
      intro o h
      rw [outN] at h
      split at h
      · cases h
      · rename_i p hp
        have hp' := ih p hp
        split at h
        · cases h; exact hp'
        · split at h
          · cases h
          · cases h
            have := of_below hB hr s (el x.fields (k : Int)).type
            split <;> omega
  unfold rankL
  split
  · have := hb x.fields.length
    unfold bestL
    split <;> omega
  · split
    · omega
    · rename_i o h; have := ho _ _ h; omega
theorem round_below {B : Int} (hB : 0 ≤ B) {r : KM} (hr : below B r) (s : Schema) (l : List SStruct) (k : Nat) : below (B + 1) (roundN r s l k) := by
  induction k with
  | zero => intro w v h; have := hr w v h; omega
  | succ k ih =>
    rw [roundN]
    split
    · exact ih
    · split
      · intro w v h
        rw [getK_put] at h
        split at h
        · cases h; exact rank_below hB hr s _
        · exact ih w v h
      · exact ih
noncomputable def Shas : Aw.Spec := .b (mkF (fun x : {x : Schema // match x with | s => okSc s} => match x with | ⟨s, _⟩ => [.p (eSc s)]) fun x => match x with | ⟨s, _⟩ => is (.fmap ((hasL s).map eK)))
theorem injhas : ∀ x y : {x : Schema // match x with | s => okSc s}, (match x with | ⟨s, _⟩ => [.p (eSc s)] : List AV) = (match y with | ⟨s, _⟩ => [.p (eSc s)]) → x = y := by
  rintro ⟨s, _⟩ ⟨s', _⟩ h
  simp only [List.cons.injEq, AV.p.injEq, AV.fptr.injEq, PV.fro.injEq, PV.fmap.injEq, PV.c.injEq, Value.int.injEq, keys_inj, names_inj, true_and, and_true, eI_inj, eB_inj, eS_inj, str_inj, eV_inj, eF_inj, eSt_inj, eM_inj, eE_inj, eSc_inj, ints_inj, vals_inj, fields_inj, structs_inj, members_inj, enums_inj] at h
  simp_all
theorem gohas {Γ : Specs} {D : Types} {n0 : Nat} {t0 : List (Nat × AV)} {H0 : Heap} {u0 : List Nat} {K0 : Kn} {d0 : Nat} {ss : List SStruct} {se : List SEnum} {sv : List PV} (hg : Aw.look Γ 10 = some Shas) (hd : d0 < n0) (hp : okSc (⟨ss, se, sv⟩ : Schema)) (hK : K0.k ⟨(d0, .p (.fmap ((hasL (⟨ss, se, sv⟩ : Schema)).map eK))) :: t0, H0, u0⟩) : @CallG Γ D n0 10 [.p (.agg [.fro 3 (ss.map eSt), .fro 2 (se.map eE), .fro 2 sv])] ⟨t0, H0, u0⟩ (some d0) K0 := by
  have h := call_mk (Γ := Γ) (D := D) (n := n0) (s := ⟨t0, H0, u0⟩) (K := K0) (d := some d0) hg injhas ⟨(⟨ss, se, sv⟩ : Schema), hp⟩ (by simp [AV.idsL, AV.ids])
  simp only [eV_mk, eI, eS, eB, eSc, eSt, eE, eF, eM] at h
  rw [h]; refine CallA_go hd ?_; exact hK
theorem okhas : Shas.OK Try.prog 10 := by
  refine mkF_ok (fun x => ?_) (fun x => ⟨_, rfl⟩)
  obtain ⟨s, hs⟩ := x
  simp only at hs
  obtain ⟨hs1, hs2⟩ := hs
  refine spec_w (Γ := [(26, Sclone), (27, Srank)]) Dt_ok (.cons okclone (.cons okrank .nil)) mixed [] [.tmp 2] Try.func10 rfl rfl Try.ntmps10 rfl rfl fun hg => ?_
  clear hg
  repeat' (first | ((with_reducible refine Brn.mk (fun h => ?_) (fun h => ?_)) <;> (simp only [Un_u, h]; try simp only [decide_eq_true_eq, decide_eq_false_iff_not, beq_iff_eq, bne_iff_ne, ne_eq, beq_eq_false_iff_ne, bne_eq_false_iff_eq, Bool.not_eq_true', Bool.not_eq_false', Bool.not_eq_true, Int.not_lt, Int.not_le, gt_iff_lt, ge_iff_le, not_true_eq_false, not_false_eq_true] at h)) | ((with_reducible refine Req.mk ?_ ?_); (· first | (first | ((with_reducible refine of_eq_true (chk_op ?_ ?_)); (· rfl); (· simp only [go_sem, Nat.reduceLT, Nat.reduceLeDiff, Nat.reduceEqDiff, Nat.reduceAdd, Nat.reduceSub, Nat.reduceMul, Nat.reduceBEq, Nat.reduceBNe, reduceIte, reduceCtorEq, Int.reduceToNat, Int.reduceLT, Int.reduceLE, Int.reduceEq, Int.reduceAdd, Int.reduceSub, Int.reduceNeg, Int.reduceMul, Int.reduceNegSucc])) | ((with_reducible refine of_eq_true (chk_op_g ?_ ?_)); (· rfl); (· simp only [go_sem, Nat.reduceLT, Nat.reduceLeDiff, Nat.reduceEqDiff, Nat.reduceAdd, Nat.reduceSub, Nat.reduceMul, Nat.reduceBEq, Nat.reduceBNe, reduceIte, reduceCtorEq, Int.reduceToNat, Int.reduceLT, Int.reduceLE, Int.reduceEq, Int.reduceAdd, Int.reduceSub, Int.reduceNeg, Int.reduceMul, Int.reduceNegSucc]))) | (first | omega | (simp (disch := omega) only [wrap_i64, wrap_i32, wrap_u8, wrap_u16]; omega) | (simp only [go_sem, Nat.reduceLT, Nat.reduceLeDiff, Nat.reduceEqDiff, Nat.reduceAdd, Nat.reduceSub, Nat.reduceMul, Nat.reduceBEq, Nat.reduceBNe, reduceIte, reduceCtorEq, Int.reduceToNat, Int.reduceLT, Int.reduceLE, Int.reduceEq, Int.reduceAdd, Int.reduceSub, Int.reduceNeg, Int.reduceMul, Int.reduceNegSucc]; omega) | (simp only [go_sem, *, Nat.reduceLT, Nat.reduceLeDiff, Nat.reduceEqDiff, Nat.reduceAdd, Nat.reduceSub, Nat.reduceMul, Nat.reduceBEq, Nat.reduceBNe, reduceIte, reduceCtorEq, Int.reduceToNat, Int.reduceLT, Int.reduceLE, Int.reduceEq, Int.reduceAdd, Int.reduceSub, Int.reduceNeg, Int.reduceMul, Int.reduceNegSucc]; done)))) | simp only [go_sem, Nat.reduceLT, Nat.reduceLeDiff, Nat.reduceEqDiff, Nat.reduceAdd, Nat.reduceSub, Nat.reduceMul, Nat.reduceBEq, Nat.reduceBNe, reduceIte, reduceCtorEq, Int.reduceToNat, Int.reduceLT, Int.reduceLE, Int.reduceEq, Int.reduceAdd, Int.reduceSub, Int.reduceNeg, Int.reduceMul, Int.reduceNegSucc] | simp (disch := omega) only [wrap_i64, wrap_i32, wrap_u8, wrap_u16])
  refine Aw.Loop.mk (X := {r : KM // ∃ f : Nat, open_ s r < f ∧ f ≤ s.structs.length + 1 ∧ hasIt s f r = hasL s ∧ below (s.structs.length + 1 - f) r}) (fun r => ⟨[(3, .mp 150), (1, .ptr 101 0)], [(101, some (.row 28 3 [.p (.fro 3 (s.structs.map eSt)), .p (.fro 2 (s.enums.map eE)), .p (.fro 2 s.services)])), (150, some (.map (r.1.map eK)))], [101, 150]⟩)
    (fun r => open_ s r.1) ⟨[], s.structs.length + 1, by unfold open_; have := List.length_filter_le (fun x : SStruct => (getK x.name []).isNone) s.structs; omega, Nat.le_refl _, rfl, fun w v h => by cases h⟩ (LeS.via [(150, 110)] (by simp [go_sem, eq_self]) (by simp [go_sem, eq_self]) (by simp [go_sem, eq_self]) (by simp [go_sem, eq_self]) (by simp [go_sem, eq_self]) (by simp [go_sem]) (by simp [go_sem, eq_self])) ?_
  rintro ⟨r, f, hf1, hf2, hf3, hf4⟩
  have hr : okR r := fun w v h => by have := hf4 w v h; omega
  repeat' (first | ((with_reducible refine Brn.mk (fun h => ?_) (fun h => ?_)) <;> (simp only [Un_u, h]; try simp only [decide_eq_true_eq, decide_eq_false_iff_not, beq_iff_eq, bne_iff_ne, ne_eq, beq_eq_false_iff_ne, bne_eq_false_iff_eq, Bool.not_eq_true', Bool.not_eq_false', Bool.not_eq_true, Int.not_lt, Int.not_le, gt_iff_lt, ge_iff_le, not_true_eq_false, not_false_eq_true] at h)) | ((with_reducible apply goclone); (· rfl); (· simp only [go_sem, Nat.reduceLT, Nat.reduceLeDiff, Nat.reduceEqDiff, Nat.reduceAdd, Nat.reduceSub, Nat.reduceMul, Nat.reduceBEq, Nat.reduceBNe, reduceIte, reduceCtorEq, Int.reduceToNat, Int.reduceLT, Int.reduceLE, Int.reduceEq, Int.reduceAdd, Int.reduceSub, Int.reduceNeg, Int.reduceMul, Int.reduceNegSucc]; try rfl); (· omega); (· rfl)) | ((with_reducible refine Req.mk ?_ ?_); (· first | (first | ((with_reducible refine of_eq_true (chk_op ?_ ?_)); (· rfl); (· simp only [go_sem, Nat.reduceLT, Nat.reduceLeDiff, Nat.reduceEqDiff, Nat.reduceAdd, Nat.reduceSub, Nat.reduceMul, Nat.reduceBEq, Nat.reduceBNe, reduceIte, reduceCtorEq, Int.reduceToNat, Int.reduceLT, Int.reduceLE, Int.reduceEq, Int.reduceAdd, Int.reduceSub, Int.reduceNeg, Int.reduceMul, Int.reduceNegSucc])) | ((with_reducible refine of_eq_true (chk_op_g ?_ ?_)); (· rfl); (· simp only [go_sem, Nat.reduceLT, Nat.reduceLeDiff, Nat.reduceEqDiff, Nat.reduceAdd, Nat.reduceSub, Nat.reduceMul, Nat.reduceBEq, Nat.reduceBNe, reduceIte, reduceCtorEq, Int.reduceToNat, Int.reduceLT, Int.reduceLE, Int.reduceEq, Int.reduceAdd, Int.reduceSub, Int.reduceNeg, Int.reduceMul, Int.reduceNegSucc]))) | (first | omega | (simp (disch := omega) only [wrap_i64, wrap_i32, wrap_u8, wrap_u16]; omega) | (simp only [go_sem, Nat.reduceLT, Nat.reduceLeDiff, Nat.reduceEqDiff, Nat.reduceAdd, Nat.reduceSub, Nat.reduceMul, Nat.reduceBEq, Nat.reduceBNe, reduceIte, reduceCtorEq, Int.reduceToNat, Int.reduceLT, Int.reduceLE, Int.reduceEq, Int.reduceAdd, Int.reduceSub, Int.reduceNeg, Int.reduceMul, Int.reduceNegSucc]; omega) | (simp only [go_sem, *, Nat.reduceLT, Nat.reduceLeDiff, Nat.reduceEqDiff, Nat.reduceAdd, Nat.reduceSub, Nat.reduceMul, Nat.reduceBEq, Nat.reduceBNe, reduceIte, reduceCtorEq, Int.reduceToNat, Int.reduceLT, Int.reduceLE, Int.reduceEq, Int.reduceAdd, Int.reduceSub, Int.reduceNeg, Int.reduceMul, Int.reduceNegSucc]; done)))) | simp only [go_sem, Nat.reduceLT, Nat.reduceLeDiff, Nat.reduceEqDiff, Nat.reduceAdd, Nat.reduceSub, Nat.reduceMul, Nat.reduceBEq, Nat.reduceBNe, reduceIte, reduceCtorEq, Int.reduceToNat, Int.reduceLT, Int.reduceLE, Int.reduceEq, Int.reduceAdd, Int.reduceSub, Int.reduceNeg, Int.reduceMul, Int.reduceNegSucc] | simp (disch := omega) only [wrap_i64, wrap_i32, wrap_u8, wrap_u16])
  refine Aw.Loop.mk (X := {k : Nat // k ≤ s.structs.length}) (fun k => ⟨[(16, .p (eI k.1)), (15, .p (eI s.structs.length)), (14, .p (.fro 3 (s.structs.map eSt))), (4, .mp 151), (3, .mp 150), (1, .ptr 101 0)], [(101, some (.row 28 3 [.p (.fro 3 (s.structs.map eSt)), .p (.fro 2 (s.enums.map eE)), .p (.fro 2 s.services)])), (150, some (.map (r.map eK))), (151, some (.map ((roundN r s s.structs k.1).map eK)))], [101, 150, 151]⟩)
    (fun k => s.structs.length - k.1) ⟨0, by omega⟩ (LeS.via [(151, 13001)] (by simp [go_sem,  roundN]) (by simp [go_sem,  roundN]) (by simp [go_sem,  roundN]) (by simp [go_sem,  roundN]) (by simp [go_sem,  roundN]) (by simp [go_sem]) (by simp [go_sem,  roundN])) ?_
  rintro ⟨k, hk⟩
  repeat' (first | ((with_reducible refine Brn.mk (fun h => ?_) (fun h => ?_)) <;> (simp only [Un_u, h]; try simp only [decide_eq_true_eq, decide_eq_false_iff_not, beq_iff_eq, bne_iff_ne, ne_eq, beq_eq_false_iff_ne, bne_eq_false_iff_eq, Bool.not_eq_true', Bool.not_eq_false', Bool.not_eq_true, Int.not_lt, Int.not_le, gt_iff_lt, ge_iff_le, not_true_eq_false, not_false_eq_true] at h)) | ((with_reducible apply gorankO); (· rfl); (· simp only [go_sem, Nat.reduceLT, Nat.reduceLeDiff, Nat.reduceEqDiff, Nat.reduceAdd, Nat.reduceSub, Nat.reduceMul, Nat.reduceBEq, Nat.reduceBNe, reduceIte, reduceCtorEq, Int.reduceToNat, Int.reduceLT, Int.reduceLE, Int.reduceEq, Int.reduceAdd, Int.reduceSub, Int.reduceNeg, Int.reduceMul, Int.reduceNegSucc]; try rfl); (· omega); (· exact ⟨hs2 _ (el_mem (by omega)), hr⟩)) | ((with_reducible refine Req.mk ?_ ?_); (· first | (first | ((with_reducible refine of_eq_true (chk_op ?_ ?_)); (· rfl); (· simp only [go_sem, Nat.reduceLT, Nat.reduceLeDiff, Nat.reduceEqDiff, Nat.reduceAdd, Nat.reduceSub, Nat.reduceMul, Nat.reduceBEq, Nat.reduceBNe, reduceIte, reduceCtorEq, Int.reduceToNat, Int.reduceLT, Int.reduceLE, Int.reduceEq, Int.reduceAdd, Int.reduceSub, Int.reduceNeg, Int.reduceMul, Int.reduceNegSucc])) | ((with_reducible refine of_eq_true (chk_op_g ?_ ?_)); (· rfl); (· simp only [go_sem, Nat.reduceLT, Nat.reduceLeDiff, Nat.reduceEqDiff, Nat.reduceAdd, Nat.reduceSub, Nat.reduceMul, Nat.reduceBEq, Nat.reduceBNe, reduceIte, reduceCtorEq, Int.reduceToNat, Int.reduceLT, Int.reduceLE, Int.reduceEq, Int.reduceAdd, Int.reduceSub, Int.reduceNeg, Int.reduceMul, Int.reduceNegSucc]))) | (first | omega | (simp (disch := omega) only [wrap_i64, wrap_i32, wrap_u8, wrap_u16]; omega) | (simp only [go_sem, Nat.reduceLT, Nat.reduceLeDiff, Nat.reduceEqDiff, Nat.reduceAdd, Nat.reduceSub, Nat.reduceMul, Nat.reduceBEq, Nat.reduceBNe, reduceIte, reduceCtorEq, Int.reduceToNat, Int.reduceLT, Int.reduceLE, Int.reduceEq, Int.reduceAdd, Int.reduceSub, Int.reduceNeg, Int.reduceMul, Int.reduceNegSucc]; omega) | (simp only [go_sem, *, Nat.reduceLT, Nat.reduceLeDiff, Nat.reduceEqDiff, Nat.reduceAdd, Nat.reduceSub, Nat.reduceMul, Nat.reduceBEq, Nat.reduceBNe, reduceIte, reduceCtorEq, Int.reduceToNat, Int.reduceLT, Int.reduceLE, Int.reduceEq, Int.reduceAdd, Int.reduceSub, Int.reduceNeg, Int.reduceMul, Int.reduceNegSucc]; done)))) | simp only [go_sem, Nat.reduceLT, Nat.reduceLeDiff, Nat.reduceEqDiff, Nat.reduceAdd, Nat.reduceSub, Nat.reduceMul, Nat.reduceBEq, Nat.reduceBNe, reduceIte, reduceCtorEq, Int.reduceToNat, Int.reduceLT, Int.reduceLE, Int.reduceEq, Int.reduceAdd, Int.reduceSub, Int.reduceNeg, Int.reduceMul, Int.reduceNegSucc] | simp (disch := omega) only [wrap_i64, wrap_i32, wrap_u8, wrap_u16])
  · rename_i h1
    have hn : roundN r s s.structs (k + 1) = roundN r s s.structs k := by rw [roundN, if_pos h]
    exact ⟨⟨k + 1, by omega⟩, by simp only; omega, (LeS.less (by simp [go_sem, hn]) (by simp [go_sem, hn]) (by simp [go_sem, hn]) (by simp [go_sem, hn]) (by simp [go_sem, hn]))⟩
  · rename_i h1 h2
    have hn : roundN r s s.structs (k + 1) = putK (el s.structs (k : Int)).name (rankL r s (el s.structs (k : Int))) (roundN r s s.structs k) := by rw [roundN, if_neg (by rw [h2]; simp), if_pos h]
    exact ⟨⟨k + 1, by omega⟩, by simp only; omega, (LeS.less (by simp [go_sem, hn]) (by simp [go_sem, hn]) (by simp [go_sem, hn]) (by simp [go_sem, hn]) (by simp [go_sem, hn]))⟩
  · rename_i h1 h2
    have hn : roundN r s s.structs (k + 1) = roundN r s s.structs k := by rw [roundN, if_neg (by rw [h2]; simp), if_neg (by omega)]
    exact ⟨⟨k + 1, by omega⟩, by simp only; omega, (LeS.less (by simp [go_sem, hn]) (by simp [go_sem, hn]) (by simp [go_sem, hn]) (by simp [go_sem, hn]) (by simp [go_sem, hn]))⟩
  · have hk' : k = s.structs.length := by omega
    subst hk'
    obtain ⟨g, rfl⟩ : ∃ g, f = g + 1 := ⟨f - 1, by omega⟩
    rw [hasIt, if_pos (show (roundL r s).length = r.length by unfold roundL; omega)] at hf3
    simp [go_sem, snap, ← hf3]
  · have hk' : k = s.structs.length := by omega
    subst hk'
    obtain ⟨g, rfl⟩ : ∃ g, f = g + 1 := ⟨f - 1, by omega⟩
    have hne : (roundL r s).length ≠ r.length := by unfold roundL; omega
    rw [hasIt, if_neg hne] at hf3
    have ho := open_lt s r hne
    have hb := round_below (B := s.structs.length + 1 - (g + 1 : Nat)) (by omega) hf4 s s.structs s.structs.length
    refine ⟨⟨roundL r s, g, by omega, by omega, hf3, fun w v h => by have := hb w v h; omega⟩, ho, ?_⟩
    exact (LeS.via [(150, 151)] (by simp [go_sem,  roundL]) (by simp [go_sem,  roundL]) (by simp [go_sem,  roundL]) (by simp [go_sem,  roundL]) (by simp [go_sem,  roundL]) (by simp [go_sem]) (by simp [go_sem,  roundL]))
end Go.Proofs.Ythiddkhonklbkaa

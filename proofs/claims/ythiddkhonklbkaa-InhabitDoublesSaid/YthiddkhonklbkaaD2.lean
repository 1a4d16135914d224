/- Contract: InhabitDoubles. -/
import Derived.Test.YthiddkhonklbkaaD1
import Derived.Test.YthiddkhonklbkaaP1
set_option linter.unusedVariables false
set_option linter.unusedSimpArgs false
set_option maxRecDepth 100000
set_option maxHeartbeats 4000000
namespace Go.Proofs.Ythiddkhonklbkaa
open Go Go.Aw

theorem gobegun16 {Γ : Specs} {D : Types} {n : Nat} {T : List (Nat × AV)} {H : Heap} {u : List Nat} {K : Kn} {d : Nat} (hg : Aw.look Γ 8 = some Sbegun16) (hd : d < n) (hK : K.k ⟨(d, .p (eB true)) :: T, H, u⟩) : @CallG Γ D n 8 [] ⟨T, H, u⟩ (some d) K := by
  have h := call_mk (Γ := Γ) (D := D) (n := n) (s := ⟨T, H, u⟩) (K := K) (d := some d) hg (fun _ _ _ => rfl) () rfl
  rw [h]; refine CallA_go hd ?_; exact hK
theorem one_St (l : List SStruct) : ∀ x ∈ (flat (l.map eSt)).map AV.p, x.one = true := by
  have := all_St l
  rw [← all_one_p, List.all_eq_true] at this
  exact this
theorem doubles_walk (hall : ∀ k : Nat, 1 ≤ k → k ≤ 40 → checkZ k = true) (n : Int) (hn : 0 ≤ n ∧ n ≤ 255) : ASpec Try.prog 5 [] [] [.p (.c (.int .u8 n))] [] (fun r _ => ∃ q, r = .p q ∧ is (eB true) q) := by
  refine spec_w (Γ := [(8, Sbegun16), (10, Shas), (12, Sweights)]) Dt_ok (.cons okbegun16 (.cons okhas (.cons okweights .nil))) mixed [13] [.tmp 2] Try.func5 rfl rfl Try.ntmps5 rfl rfl fun hg => ?_
  clear hg
  have hm : n.tmod 40 = n % 40 := Int.tmod_eq_emod_of_nonneg hn.1
  repeat' (first | ((with_reducible refine Brn.mk (fun h => ?_) (fun h => ?_)) <;> (simp only [Un_u, h]; try simp only [decide_eq_true_eq, decide_eq_false_iff_not, beq_iff_eq, bne_iff_ne, ne_eq, beq_eq_false_iff_ne, bne_eq_false_iff_eq, Bool.not_eq_true', Bool.not_eq_false', Bool.not_eq_true, Int.not_lt, Int.not_le, gt_iff_lt, ge_iff_le, not_true_eq_false, not_false_eq_true] at h)) | ((with_reducible apply gobegun16); (· rfl); (· omega)) | ((with_reducible refine Req.mk ?_ ?_); (· first | (first | ((with_reducible refine of_eq_true (chk_op ?_ ?_)); (· rfl); (· simp only [go_sem, Nat.reduceLT, Nat.reduceLeDiff, Nat.reduceEqDiff, Nat.reduceAdd, Nat.reduceSub, Nat.reduceMul, Nat.reduceBEq, Nat.reduceBNe, reduceIte, reduceCtorEq, Int.reduceToNat, Int.reduceLT, Int.reduceLE, Int.reduceEq, Int.reduceAdd, Int.reduceSub, Int.reduceNeg, Int.reduceMul, Int.reduceNegSucc])) | ((with_reducible refine of_eq_true (chk_op_g ?_ ?_)); (· rfl); (· simp only [go_sem, Nat.reduceLT, Nat.reduceLeDiff, Nat.reduceEqDiff, Nat.reduceAdd, Nat.reduceSub, Nat.reduceMul, Nat.reduceBEq, Nat.reduceBNe, reduceIte, reduceCtorEq, Int.reduceToNat, Int.reduceLT, Int.reduceLE, Int.reduceEq, Int.reduceAdd, Int.reduceSub, Int.reduceNeg, Int.reduceMul, Int.reduceNegSucc]))) | (first | omega | (simp (disch := omega) only [wrap_i64, wrap_i32, wrap_u8, wrap_u16]; omega) | (simp only [go_sem, Nat.reduceLT, Nat.reduceLeDiff, Nat.reduceEqDiff, Nat.reduceAdd, Nat.reduceSub, Nat.reduceMul, Nat.reduceBEq, Nat.reduceBNe, reduceIte, reduceCtorEq, Int.reduceToNat, Int.reduceLT, Int.reduceLE, Int.reduceEq, Int.reduceAdd, Int.reduceSub, Int.reduceNeg, Int.reduceMul, Int.reduceNegSucc]; omega) | (simp only [go_sem, *, Nat.reduceLT, Nat.reduceLeDiff, Nat.reduceEqDiff, Nat.reduceAdd, Nat.reduceSub, Nat.reduceMul, Nat.reduceBEq, Nat.reduceBNe, reduceIte, reduceCtorEq, Int.reduceToNat, Int.reduceLT, Int.reduceLE, Int.reduceEq, Int.reduceAdd, Int.reduceSub, Int.reduceNeg, Int.reduceMul, Int.reduceNegSucc]; done)))) | simp only [go_sem, hm, Nat.reduceLT, Nat.reduceLeDiff, Nat.reduceEqDiff, Nat.reduceAdd, Nat.reduceSub, Nat.reduceMul, Nat.reduceBEq, Nat.reduceBNe, reduceIte, reduceCtorEq, Int.reduceToNat, Int.reduceLT, Int.reduceLE, Int.reduceEq, Int.reduceAdd, Int.reduceSub, Int.reduceNeg, Int.reduceMul, Int.reduceNegSucc] | simp (disch := omega) only [wrap_i64, wrap_i32, wrap_u8, wrap_u16])
  obtain ⟨k, hk⟩ : ∃ k : Nat, 1 + n % 40 = k := ⟨(1 + n % 40).toNat, by omega⟩
  have hk1 : 1 ≤ k ∧ k ≤ 40 := by omega
  rw [hk]
  refine Aw.Loop.mk (X := {j : Nat // j ≤ k + 1}) (fun j => ⟨[(5, .p (eI j.1)), (4, .ptr 104 0), (3, .p (eI k))], [(104, some (.row 28 3 [.sl 150 3 0 (strsZ k j.1).length, .p (.c (.slice none 0 0)), .p (.c (.slice none 0 0))])), (150, some (.row 34 3 ((flat ((strsZ k j.1).map eSt)).map .p)))], [104, 150]⟩)
    (fun j => k + 1 - j.1) ⟨0, by omega⟩ (LeS.trans (LeS.nil 104 0 150 34 3 rfl rfl rfl) (LeS.via [] (by simp [go_sem,  strsZ]) (by simp [go_sem,  strsZ]) (by simp [go_sem,  strsZ]) (by simp [go_sem,  strsZ]) (by simp [go_sem,  strsZ]) (by simp [go_sem]) (by simp [go_sem,  strsZ]))) ?_
  rintro ⟨j, hj⟩
  have hlen : (strsZ k j).length = j := by simp [strsZ]
  repeat' (first | ((with_reducible refine Brn.mk (fun h => ?_) (fun h => ?_)) <;> (simp only [Un_u, h]; try simp only [decide_eq_true_eq, decide_eq_false_iff_not, beq_iff_eq, bne_iff_ne, ne_eq, beq_eq_false_iff_ne, bne_eq_false_iff_eq, Bool.not_eq_true', Bool.not_eq_false', Bool.not_eq_true, Int.not_lt, Int.not_le, gt_iff_lt, ge_iff_le, not_true_eq_false, not_false_eq_true] at h)) | (simp (disch := omega) only [Int.tdiv_eq_ediv_of_nonneg, Int.tmod_eq_emod_of_nonneg]) | ((with_reducible refine Req.mk ?_ ?_); (· first | (first | ((with_reducible refine of_eq_true (chk_op ?_ ?_)); (· rfl); (· simp only [go_sem, Nat.reduceLT, Nat.reduceLeDiff, Nat.reduceEqDiff, Nat.reduceAdd, Nat.reduceSub, Nat.reduceMul, Nat.reduceBEq, Nat.reduceBNe, reduceIte, reduceCtorEq, Int.reduceToNat, Int.reduceLT, Int.reduceLE, Int.reduceEq, Int.reduceAdd, Int.reduceSub, Int.reduceNeg, Int.reduceMul, Int.reduceNegSucc])) | ((with_reducible refine of_eq_true (chk_op_g ?_ ?_)); (· rfl); (· simp only [go_sem, Nat.reduceLT, Nat.reduceLeDiff, Nat.reduceEqDiff, Nat.reduceAdd, Nat.reduceSub, Nat.reduceMul, Nat.reduceBEq, Nat.reduceBNe, reduceIte, reduceCtorEq, Int.reduceToNat, Int.reduceLT, Int.reduceLE, Int.reduceEq, Int.reduceAdd, Int.reduceSub, Int.reduceNeg, Int.reduceMul, Int.reduceNegSucc]))) | (first | omega | (simp (disch := omega) only [wrap_i64, wrap_i32, wrap_u8, wrap_u16]; omega) | (simp only [go_sem, Nat.reduceLT, Nat.reduceLeDiff, Nat.reduceEqDiff, Nat.reduceAdd, Nat.reduceSub, Nat.reduceMul, Nat.reduceBEq, Nat.reduceBNe, reduceIte, reduceCtorEq, Int.reduceToNat, Int.reduceLT, Int.reduceLE, Int.reduceEq, Int.reduceAdd, Int.reduceSub, Int.reduceNeg, Int.reduceMul, Int.reduceNegSucc]; omega) | (simp only [go_sem, *, Nat.reduceLT, Nat.reduceLeDiff, Nat.reduceEqDiff, Nat.reduceAdd, Nat.reduceSub, Nat.reduceMul, Nat.reduceBEq, Nat.reduceBNe, reduceIte, reduceCtorEq, Int.reduceToNat, Int.reduceLT, Int.reduceLE, Int.reduceEq, Int.reduceAdd, Int.reduceSub, Int.reduceNeg, Int.reduceMul, Int.reduceNegSucc]; done)))) | simp only [go_sem, Nat.reduceLT, Nat.reduceLeDiff, Nat.reduceEqDiff, Nat.reduceAdd, Nat.reduceSub, Nat.reduceMul, Nat.reduceBEq, Nat.reduceBNe, reduceIte, reduceCtorEq, Int.reduceToNat, Int.reduceLT, Int.reduceLE, Int.reduceEq, Int.reduceAdd, Int.reduceSub, Int.reduceNeg, Int.reduceMul, Int.reduceNegSucc] | simp (disch := omega) only [wrap_i64, wrap_i32, wrap_u8, wrap_u16])
  · rename_i h1
    have hz : strsZ k (j + 1) = strsZ k j ++ [structZ k j] := strsZ_succ k j
    have hst : structZ k j = ⟨4, nameZ j, fieldsZ j⟩ := by rw [structZ, if_pos h]
    refine ⟨⟨j + 1, by omega⟩, by simp only; omega, ?_⟩
    simp only [hz, hst]
    refine LeS.trans (LeS.freeze Dt_ok [153]) (LeS.trans
      (LeS.via (t' := [(5, .p (eI (j + 1))), (4, .ptr 104 0), (3, .p (eI k))]) (H' := [(104, some (.row 28 3 [.sl 159 3 0 ((strsZ k j).length + 1), .p (.c (.slice none 0 0)), .p (.c (.slice none 0 0))])), (159, some (.row 34 3 ((flat ((strsZ k j).map eSt)).map .p ++ [.p (eI 4), .p (eS (nameZ j)), .p (.fro 10 [.agg [eI 1, eI 1, eS (nameZ (j + 1)), eS [97], eB false, eI 0, eI 0, eS [], .c (.slice none 0 0), .c (.slice none 0 0)], .agg [eI 2, eI 1, eS (nameZ (j + 1)), eS [98], eB false, eI 0, eI 0, eS [], .c (.slice none 0 0), .c (.slice none 0 0)]])])))]) (u' := [104, 159]) [] ?_ ?_ ?_ ?_ ?_ ?_ ?_)
      (LeS.trans (LeS.weak 159 ((flat ((strsZ k j).map eSt)).map .p ++ [.p (eI 4), .p (eS (nameZ j)), .p (.fro 10 ((fieldsZ j).map eF))]) rfl (cellsLe_append (cellsLe_refl (one_St _)) ?_)) (LeS.via [(150, 159)] (by simp [go_sem,  -List.map_map]) (by simp [go_sem,  -List.map_map]) (by simp [go_sem,  -List.map_map]) (by simp [go_sem,  -List.map_map]) (by simp [go_sem,  -List.map_map]) (by simp [go_sem]) (by simp [go_sem,  -List.map_map]))))
    · simp [go_sem]
    · simp [go_sem, snap, regroup, optAll, TK.isSt, nameZ, -List.map_map]
      intro x hx; exact one_St _ _ (List.mem_map_of_mem hx)
    · simp [go_sem]
    · simp [go_sem, -List.map_map]
    · simp [go_sem]
    · simp [go_sem]
    · simp [go_sem]
    · simp [go_sem, fieldsZ, v0]
  · rename_i h1
    have hz : strsZ k (j + 1) = strsZ k j ++ [structZ k j] := strsZ_succ k j
    have hst : structZ k j = ⟨4, nameZ j, []⟩ := by rw [structZ, if_neg (by omega)]
    refine ⟨⟨j + 1, by omega⟩, by simp only; omega, ?_⟩
    simp only [hz, hst]
    refine LeS.trans (LeS.weak 159 ((flat ((strsZ k j).map eSt)).map .p ++ [.p (eI 4), .p (eS (nameZ j)), .p (.fro 10 [])]) rfl (cellsLe_append (cellsLe_refl (one_St _)) ?_)) (LeS.via [(150, 159)] (by simp [go_sem,  nameZ, -List.map_map]) (by simp [go_sem,  nameZ, -List.map_map]) (by simp [go_sem,  nameZ, -List.map_map]) (by simp [go_sem,  nameZ, -List.map_map]) (by simp [go_sem,  nameZ, -List.map_map]) (by simp [go_sem]) (by simp [go_sem,  nameZ, -List.map_map]))
    simp [go_sem, nameZ]
  · have hj' : j = k + 1 := by omega
    subst hj'
    have hok := okSc_Z k (by omega)
    refine Cut.to (s' := ⟨[(4, .ptr 104 0), (3, .p (eI k))], [(104, some (.row 28 3 [.p (.fro 3 ((schZ k).structs.map eSt)), .p (.fro 2 ((schZ k).enums.map eE)), .p (.fro 2 (schZ k).services)]))], [104]⟩) rfl (LeS.trans (LeS.freeze Dt_ok [150]) (LeS.trans
      (LeS.via (t' := [(4, .ptr 104 0), (3, .p (eI k))]) (H' := [(104, some (.row 28 3 [.p (.fro 3 ((strsZ k (k + 1)).map eSt)), .p (.c (.slice none 0 0)), .p (.c (.slice none 0 0))]))]) (u' := [104]) [] ?_ ?_ ?_ ?_ ?_ ?_ ?_)
      (LeS.trans (LeS.weak 104 [.p (.fro 3 ((schZ k).structs.map eSt)), .p (.fro 2 ((schZ k).enums.map eE)), .p (.fro 2 (schZ k).services)] rfl ?_) (LeS.via [] (by simp [go_sem, eq_self]) (by simp [go_sem, eq_self]) (by simp [go_sem, eq_self]) (by simp [go_sem, eq_self]) (by simp [go_sem, eq_self]) (by simp [go_sem]) (by simp [go_sem, eq_self]))))) ?_
    · simp [go_sem]
    · simp [go_sem, TK.isSt, -List.map_map]
      rw [snap_St8 (l := strsZ k (k + 1)) (by simp [go_sem, TK.isSt, -List.map_map])]
      simp [go_sem]
    · simp [go_sem]
    · simp [go_sem]
    · simp [go_sem]
    · simp [go_sem]
    · simp [go_sem]
    · simp [go_sem, schZ]
    · have hneg : ¬ (((k : Nat) : Int) + 1 < 0) := by omega
      repeat' (first | ((with_reducible refine Brn.mk (fun h => ?_) (fun h => ?_)) <;> (simp only [Un_u, h]; try simp only [decide_eq_true_eq, decide_eq_false_iff_not, beq_iff_eq, bne_iff_ne, ne_eq, beq_eq_false_iff_ne, bne_eq_false_iff_eq, Bool.not_eq_true', Bool.not_eq_false', Bool.not_eq_true, Int.not_lt, Int.not_le, gt_iff_lt, ge_iff_le, not_true_eq_false, not_false_eq_true] at h)) | ((with_reducible apply gohas); (· rfl); (· omega); (· exact hok)) | ((with_reducible apply goweights); (· rfl); (· omega); (· exact hok)) | ((with_reducible refine Req.mk ?_ ?_); (· first | (first | ((with_reducible refine of_eq_true (chk_op ?_ ?_)); (· rfl); (· simp only [go_sem, Nat.reduceLT, Nat.reduceLeDiff, Nat.reduceEqDiff, Nat.reduceAdd, Nat.reduceSub, Nat.reduceMul, Nat.reduceBEq, Nat.reduceBNe, reduceIte, reduceCtorEq, Int.reduceToNat, Int.reduceLT, Int.reduceLE, Int.reduceEq, Int.reduceAdd, Int.reduceSub, Int.reduceNeg, Int.reduceMul, Int.reduceNegSucc])) | ((with_reducible refine of_eq_true (chk_op_g ?_ ?_)); (· rfl); (· simp only [go_sem, Nat.reduceLT, Nat.reduceLeDiff, Nat.reduceEqDiff, Nat.reduceAdd, Nat.reduceSub, Nat.reduceMul, Nat.reduceBEq, Nat.reduceBNe, reduceIte, reduceCtorEq, Int.reduceToNat, Int.reduceLT, Int.reduceLE, Int.reduceEq, Int.reduceAdd, Int.reduceSub, Int.reduceNeg, Int.reduceMul, Int.reduceNegSucc]))) | (first | omega | (simp (disch := omega) only [wrap_i64, wrap_i32, wrap_u8, wrap_u16]; omega) | (simp only [go_sem, Nat.reduceLT, Nat.reduceLeDiff, Nat.reduceEqDiff, Nat.reduceAdd, Nat.reduceSub, Nat.reduceMul, Nat.reduceBEq, Nat.reduceBNe, reduceIte, reduceCtorEq, Int.reduceToNat, Int.reduceLT, Int.reduceLE, Int.reduceEq, Int.reduceAdd, Int.reduceSub, Int.reduceNeg, Int.reduceMul, Int.reduceNegSucc]; omega) | (simp only [go_sem, *, Nat.reduceLT, Nat.reduceLeDiff, Nat.reduceEqDiff, Nat.reduceAdd, Nat.reduceSub, Nat.reduceMul, Nat.reduceBEq, Nat.reduceBNe, reduceIte, reduceCtorEq, Int.reduceToNat, Int.reduceLT, Int.reduceLE, Int.reduceEq, Int.reduceAdd, Int.reduceSub, Int.reduceNeg, Int.reduceMul, Int.reduceNegSucc]; done)))) | simp only [go_sem, shiftBin, hneg, Nat.reduceLT, Nat.reduceLeDiff, Nat.reduceEqDiff, Nat.reduceAdd, Nat.reduceSub, Nat.reduceMul, Nat.reduceBEq, Nat.reduceBNe, reduceIte, reduceCtorEq, Int.reduceToNat, Int.reduceLT, Int.reduceLE, Int.reduceEq, Int.reduceAdd, Int.reduceSub, Int.reduceNeg, Int.reduceMul, Int.reduceNegSucc] | simp (disch := omega) only [wrap_i64, wrap_i32, wrap_u8, wrap_u16])
      all_goals
        have hc := hall k hk1.1 hk1.2
        have hn0 : nameZ 0 = [97, 46, 65, 65] := rfl
        simp only [checkZ, Bool.and_eq_true, beq_iff_eq, hn0] at hc
        obtain ⟨hc1, hc2⟩ := hc
      · simp [hc2]
      · rename_i h19
        rw [wantZ, if_pos h19] at hc1
        exact h hc1
      · simp [hc2]
      · rename_i h19
        rw [wantZ, if_neg (show ¬ ((k : Int) < 19) by omega), if_neg (show ¬ ((1000000 : Int) < 1000000) by decide)] at hc1
        exact h hc1
theorem all_check (h : (List.range 40).all (fun i => checkZ (i + 1)) = true) (k : Nat) (h1 : 1 ≤ k) (h2 : k ≤ 40) : checkZ k = true := by
  rw [List.all_eq_true] at h
  have := h (k - 1) (List.mem_range.2 (by omega))
  simpa [show k - 1 + 1 = k by omega] using this
end Go.Proofs.Ythiddkhonklbkaa

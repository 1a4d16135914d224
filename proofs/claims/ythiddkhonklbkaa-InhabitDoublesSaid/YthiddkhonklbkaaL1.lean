/- Contracts: functions of Go's library that come to entries of the model. -/
import Derived.Test.YthiddkhonklbkaaTy
import Derived.Lib.Strings
import Derived.Lib.Slices
import Derived.Lib.Walk
import Derived.Lib.Bytealg
set_option linter.unusedVariables false
set_option linter.unusedSimpArgs false
set_option maxRecDepth 100000
set_option maxHeartbeats 4000000
namespace Go.Proofs.Ythiddkhonklbkaa
open Go Go.Aw

theorem aspec_of_calls {P : Program} {g : FuncId} (hE : Enters P g) (xs : List Value) (v : Value) (h : ∀ w, Calls P g xs.toArray w fun e w' => e = .returned v ∧ w' = w) :
    ASpec P g [] [] (xs.map fun x => .p (.c x)) [] (fun r _ => ∃ q, r = .p q ∧ is (.c v) q) := by
  refine ⟨hE, fun w ρ ok vals hH hρ hl hv => ?_⟩
  have e : vals = xs.toArray := by
    apply Array.ext
    · simpa using hl
    · intro i h1 h2
      have h3 : i < xs.length := by simpa using h2
      have := hv i (.p (.c xs[i])) vals[i] (by simp [h3]) (Array.getElem?_eq_getElem h1)
      generalize hu : vals[i] = u at this
      generalize hx : xs[i] = x at this
      cases this with
      | p _ _ hr => cases hr with
        | c => simp [hx]
  subst e
  refine (h w).mono ?_
  rintro e w' ⟨rfl, rfl⟩
  refine ⟨v, .p (.c v), [], fun _ => none, ok, rfl, ⟨_, rfl, rfl⟩, (fun i hi => by cases hi), (fun i B hB => by simp at hB), .p _ _ (.c v), ?_, Kept.refl _ _, ?_, (fun id x h => by cases h), (fun b h => h), (fun b h => .inl h), ?_⟩
  · exact ⟨fun id B h => by simp at h, fun id B g h => by simp at h, fun id id' B B' g h => by simp at h, hH.lt⟩
  · intro id x hx; exact absurd (hρ id x hx) (by simp)
  · rintro b ⟨id, B, h, _⟩; simp at h

theorem stringslite_IndexByte (s : ByteArray) (c : Int) (w : World) :
    Calls Try.prog 116 #[.string s, .int .u8 c] w fun e w' => e = .returned (.int .i64 (Lib.indexByte s.data.toList c.toNat.toUInt8)) ∧ w' = w := by
  go_enter Try.func116, Try.ntmps116
  go_wp2
  rw [run_callFunc_extern Try.func129 (by kernel_rfl) (by kernel_rfl) (by kernel_rfl) (e := Extern.BytealgIndexByte.indexByte) (by kernel_rfl), Lib.run_indexByteString]
  simp only [Result.andThen]
  rw [Oper.upon_value]
  go_wp2
  go_ret
  exact ⟨rfl, rfl⟩
theorem strings_IndexByte (s : ByteArray) (c : Int) (w : World) :
    Calls Try.prog 84 #[.string s, .int .u8 c] w fun e w' => e = .returned (.int .i64 (Lib.indexByte s.data.toList c.toNat.toUInt8)) ∧ w' = w := by
  go_enter Try.func84, Try.ntmps84
  go_wp2_with (go_at_call 116; refine (stringslite_IndexByte _ _ _).mono ?_; rintro e w' ⟨rfl, rfl⟩)
  go_ret
  exact ⟨rfl, rfl⟩
noncomputable def SindexByte : Aw.Spec := .b (mkF (fun x : (List UInt8) × Int => match x with | (l, c) => [.p (eS l), .p (.c (.int .u8 c))]) fun x => match x with | (l, c) => is (eI (Lib.indexByte l c.toNat.toUInt8)))
theorem injindexByte : ∀ x y : (List UInt8) × Int, (match x with | (l, c) => [.p (eS l), .p (.c (.int .u8 c))] : List AV) = (match y with | (l, c) => [.p (eS l), .p (.c (.int .u8 c))]) → x = y := by
  rintro ⟨l, c⟩ ⟨l', c'⟩ h
  simp only [List.cons.injEq, AV.p.injEq, AV.fptr.injEq, PV.fro.injEq, PV.fmap.injEq, PV.c.injEq, Value.int.injEq, keys_inj, names_inj, true_and, and_true, eI_inj, eB_inj, eS_inj, str_inj, eV_inj, eF_inj, eSt_inj, eM_inj, eE_inj, eSc_inj, ints_inj, vals_inj, fields_inj, structs_inj, members_inj, enums_inj] at h
  simp_all
theorem goindexByte {Γ : Specs} {D : Types} {n0 : Nat} {t0 : List (Nat × AV)} {H0 : Heap} {u0 : List Nat} {K0 : Kn} {d0 : Nat} {l : List UInt8} {c : Int} (hg : Aw.look Γ 84 = some SindexByte) (hd : d0 < n0) (hK : K0.k ⟨(d0, .p (eI (Lib.indexByte l c.toNat.toUInt8))) :: t0, H0, u0⟩) : @CallG Γ D n0 84 [.p (.c (str l)), .p (.c (.int .u8 c))] ⟨t0, H0, u0⟩ (some d0) K0 := by
  have h := call_mk (Γ := Γ) (D := D) (n := n0) (s := ⟨t0, H0, u0⟩) (K := K0) (d := some d0) hg injindexByte (l, c) (by simp [AV.idsL, AV.ids])
  simp only [eV_mk, eI, eS, eB, eSc, eSt, eE, eF, eM] at h
  rw [h]; refine CallA_go hd ?_; exact hK
theorem okindexByte : SindexByte.OK Try.prog 84 := by
  refine mkF_ok (fun x => ?_) (fun x => ⟨_, rfl⟩)
  obtain ⟨l, c⟩ := x
  have := aspec_of_calls (P := Try.prog) (g := 84) ⟨_, Try.func84, rfl, rfl⟩ [str l, .int .u8 c] (.int .i64 (Lib.indexByte l c.toNat.toUInt8)) (fun w => by
    have h := strings_IndexByte ⟨l.toArray⟩ c w
    exact h)
  exact this
end Go.Proofs.Ythiddkhonklbkaa

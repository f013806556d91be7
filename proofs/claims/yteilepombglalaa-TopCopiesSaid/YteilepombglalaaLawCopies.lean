/-
  Copies done one behind the other leave in up to ten registers what all of them at once would, touch no other one but the spare one, and are as few as the law says: for every two rows of bytes the law's function returns true, and its arguments read as they did. No condition.
-/
import Derived.Test.YteilepombglalaaWalkI
set_option linter.unusedVariables false
namespace Go.Proofs.Yteilepombglalaa
open Go Go.ChangeShapes Go.WideShapes Go.ChangeAt Go.RowKit
open Go.ChangeMaps (open_string shut_string)

theorem own_topCopies : ownKnob Try.prog.godebug = none := by kernel_rfl
theorem laidOut_topCopies : laidOutB Try.prog = true := by kernel_rfl

set_option maxRecDepth 100000 in
theorem lifted_topCopies (os : Os) (started : os.Started) (H : Type) (enc : TypeId × Value → H) :
    ReturnsInHanded {} Try.checked os 5 .any (Rows.topCopiesSpec.pre6 enc Try.prog Try.f5 Rows.topCopiesRow.domain false) (Rows.topCopiesSpec.post enc Try.prog Try.f5 false true false false) := by
  refine returnsInHanded_of_change (C := Try.checked) own_topCopies started (by kernel_rfl) Try.func5
    (ChangeSpec.witness6 (enc := enc) (C := Try.checked) false ⟨#[], #[Value.slice none 0 0, Value.slice none 0 0], []⟩ 8 (by kernel_rfl) (by kernel_rfl) (by kernel_rfl) (by kernel_rfl)) ?_
  intro W base args ds gs before hval0 hW hcnd _
  have hval : ∀ (j : Nat) t v, Try.f5.params[j]? = some t → args[j]? = some v → Value.okWide Try.prog W .any base t v := hval0
  have hW' := hW
  obtain ⟨p, q, hA0, hV, rfl, hfz, hnd⟩ := hW
  have hA : DataW.TrodAll enc Try.prog W 0 (fun _ => true) true Try.f5.params.toList args.toList ds p := hA0
  rw [Try.params5] at hA hval
  obtain ⟨v0, vs0, d0, ds0, p0, q0, hargs, rfl, rfl, h0, r0⟩ := trodAll_cons hA
  obtain ⟨v1, vs1, d1, ds1, p1, q1, rfl, rfl, rfl, h1, r1⟩ := trodAll_cons r0
  obtain ⟨rfl, rfl, rfl⟩ := trodAll_nil r1
  obtain rfl : args = #[v0, v1] := by cases args; simp_all
  obtain ⟨rfl, rfl⟩ := trodVars_none hV
  have k0 := h0
  have lt0 : ∀ x ∈ p0, x.block < W.heap.size := by obtain ⟨m, hm⟩ := k0; exact DataW.trod_lt m _ _ _ hm
  obtain ⟨A0, x0, c0, rfl, hx0, hg0, hc0⟩ := arg_slice Try.underlying35 (elem_int Try.underlying5 (by kernel_rfl)) (by decide) (hval 0 35 v0 rfl rfl) h0
  have k1 := h1
  have lt1 : ∀ x ∈ p1, x.block < W.heap.size := by obtain ⟨m, hm⟩ := k1; exact DataW.trod_lt m _ _ _ hm
  obtain ⟨A1, x1, c1, rfl, hx1, hg1, hc1⟩ := arg_slice Try.underlying35 (elem_int Try.underlying5 (by kernel_rfl)) (by decide) (hval 1 35 v1 rfl rfl) h1
  clear hA0 hval0
  refine ((copylaw_walk (i := 0) (j := 0) (S := [allC W]) hx0 hx1 rfl rfl (fun a ha => wf_u8 (hg0 a ha)) (fun a ha => wf_u8 (hg1 a ha))) W (St.start W)).mono fun e W' ⟨u, he, hu, hst⟩ => ?_
  subst he
  subst hu
  have bel := hst.below 0 rfl
  exact ⟨_, rfl, _, _, _, [], _, [], hW', trodAll_mk1 (shut_bool Try.underlying4 _), (trodAll_cons_mk (Below.trod laidOut_topCopies (by kernel_rfl) (of_decide_eq_true (by kernel_rfl)) k0 bel lt0) (trodAll_cons_mk (Below.trod laidOut_topCopies (by kernel_rfl) (of_decide_eq_true (by kernel_rfl)) k1 bel lt1) trodAll_mk0)), rfl, bel.frame _, fun h => by cases h⟩

theorem over_topCopies : Rows.topCopiesRow.holds Try.pinned (OpenSpec.ofChange Rows.topCopiesSpec) :=
  OpenClaim.holds_of_wide 5 Try.f5 rfl rfl rfl rfl rfl rfl rfl ⟨rfl, rfl, rfl, rfl, rfl⟩ rfl rfl rfl rfl rfl (by kernel_rfl) Try.func5 (by kernel_rfl)
    (of_decide_eq_true (by kernel_rfl)) (by unfold Func.isWrapper; first | (rw [if_pos (by decide +kernel)]; kernel_rfl) | (rw [if_neg (by decide +kernel)]; exact ⟨rfl, rfl⟩))
    (fun os started H enc _ => lifted_topCopies os started H enc)

theorem topCopies_holds : Rows.TopCopiesSaid := over_topCopies
#print axioms topCopies_holds
end Go.Proofs.Yteilepombglalaa

/-
  A table of up to nine keys numbers up to forty byte strings of up to six bytes as a plain list does; full, it knows those it has and takes no more; what is told or handed in is its own copy: for every byte and every row of byte strings the law's function returns true, and its arguments read as they did. No condition.
-/
import Derived.Test.YtcmgpofcdjejnaaWalkM
set_option linter.unusedVariables false
namespace Go.Proofs.Ytcmgpofcdjejnaa
open Go Go.ChangeShapes Go.WideShapes Go.ChangeAt Go.RowKit
open Go.ChangeMaps (open_string shut_string)

theorem own_topNames : ownKnob Try.prog.godebug = none := by kernel_rfl
theorem laidOut_topNames : laidOutB Try.prog = true := by kernel_rfl

set_option maxRecDepth 100000 in
theorem lifted_topNames (os : Os) (started : os.Started) (H : Type) (enc : TypeId × Value → H) :
    ReturnsInHanded {} Try.checked os 3 .any (Rows.topNamesSpec.pre6 enc Try.prog Try.f3 Rows.topNamesRow.domain false) (Rows.topNamesSpec.post enc Try.prog Try.f3 false true false false) := by
  refine returnsInHanded_of_change (C := Try.checked) own_topNames started (by kernel_rfl) Try.func3
    (ChangeSpec.witness6 (enc := enc) (C := Try.checked) false ⟨#[], #[Value.int IntKind.u8 0, Value.slice none 0 0], []⟩ 8 (by kernel_rfl) (by kernel_rfl) (by kernel_rfl) (by kernel_rfl)) ?_
  intro W base args ds gs before hval0 hW hcnd _
  have hval : ∀ (j : Nat) t v, Try.f3.params[j]? = some t → args[j]? = some v → Value.okWide Try.prog W .any base t v := hval0
  have hW' := hW
  obtain ⟨p, q, hA0, hV, rfl, hfz, hnd⟩ := hW
  have hA : DataW.TrodAll enc Try.prog W 0 (fun _ => true) true Try.f3.params.toList args.toList ds p := hA0
  rw [Try.params3] at hA hval
  obtain ⟨v0, vs0, d0, ds0, p0, q0, hargs, rfl, rfl, h0, r0⟩ := trodAll_cons hA
  obtain ⟨v1, vs1, d1, ds1, p1, q1, rfl, rfl, rfl, h1, r1⟩ := trodAll_cons r0
  obtain ⟨rfl, rfl, rfl⟩ := trodAll_nil r1
  obtain rfl : args = #[v0, v1] := by cases args; simp_all
  obtain ⟨rfl, rfl⟩ := trodVars_none hV
  have k0 := h0
  obtain ⟨a0, rfl, rfl, rfl, w0⟩ := open_int Try.underlying5 (hval 0 5 v0 rfl rfl) h0
  have k1 := h1
  have lt1 : ∀ x ∈ p1, x.block < W.heap.size := by obtain ⟨m, hm⟩ := k1; exact DataW.trod_lt m _ _ _ hm
  obtain ⟨A1, x1, c1, rfl, hx1, hg1, hc1⟩ := arg_slice Try.underlying22 (elem_slice Try.underlying26 (elem_int Try.underlying5 (by kernel_rfl)) (by decide) (by kernel_rfl)) (by decide) (hval 1 22 v1 rfl rfl) h1
  clear hA0 hval0
  refine ((names_walk (j := 0) (S := [allC W]) a0 (wf_u8 w0) hx1 rfl (fun r hr => ⟨(hg1 r hr).1, fun n hn => wf_u8 ((hg1 r hr).2.1 n hn), (hg1 r hr).2.2⟩)) W (St.start W)).mono fun e W' ⟨u, he, hu, hst⟩ => ?_
  subst he
  subst hu
  have bel := hst.below 0 rfl
  exact ⟨_, rfl, _, _, _, [], _, [], hW', trodAll_mk1 (shut_bool Try.underlying4 _), (trodAll_cons_mk (shut_int Try.underlying5 w0) (trodAll_cons_mk (Below.trod laidOut_topNames (by kernel_rfl) (of_decide_eq_true (by kernel_rfl)) k1 bel lt1) trodAll_mk0)), rfl, bel.frame _, fun h => by cases h⟩

theorem over_topNames : Rows.topNamesRow.holds Try.pinned (OpenSpec.ofChange Rows.topNamesSpec) :=
  OpenClaim.holds_of_wide 3 Try.f3 rfl rfl rfl rfl rfl rfl rfl ⟨rfl, rfl, rfl, rfl, rfl⟩ rfl rfl rfl rfl rfl (by kernel_rfl) Try.func3 (by kernel_rfl)
    (of_decide_eq_true (by kernel_rfl)) (by unfold Func.isWrapper; first | (rw [if_pos (by decide +kernel)]; kernel_rfl) | (rw [if_neg (by decide +kernel)]; exact ⟨rfl, rfl⟩))
    (fun os started H enc _ => lifted_topNames os started H enc)

theorem topNames_holds : Rows.TopNamesSaid := over_topNames
#print axioms topNames_holds
end Go.Proofs.Ytcmgpofcdjejnaa

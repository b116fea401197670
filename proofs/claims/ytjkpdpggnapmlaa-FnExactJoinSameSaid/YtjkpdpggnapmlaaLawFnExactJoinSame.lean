/- What is proved: the given statement Rows.FnExactJoinSameSaid, out of the printed walk of the law and the plain law beside it; no condition is added. -/
import Derived.Test.YtjkpdpggnapmlaaRows
import Derived.Test.YtjkpdpggnapmlaaPFnExactJoinSamex3
import Derived.Test.YtjkpdpggnapmlaaPureFnExactJoinSame
import Derived.Test.YtjkpdpggnapmlaaOpen
import Derived.Test.YtjkpdpggnapmlaaWSized
import Derived.WalkKit
import Derived.ProofKit
import Derived.OpenShut
import Derived.ShutString
import Derived.ChangeOld
import Derived.Below
import Derived.SizedLaws
namespace Go.Proofs.Ytjkpdpggnapmlaa.fnExactJoinSame
open Go.ChangeShapes Go.WideShapes Go.ChangeAt Go.RowKit Go.Proofs.Ytjkpdpggnapmlaa.Open
open Go.ChangeMaps (open_string shut_string)
set_option linter.unusedVariables false
theorem own : ownKnob Try.prog.godebug = none := by kernel_rfl
theorem laidOut : laidOutB Try.prog = true := by kernel_rfl
set_option maxRecDepth 100000 in
theorem lifted (os : Os) (started : os.Started) (H : Type) (enc : TypeId × Value → H) :
    ReturnsInHanded {} Try.checked os 8 .any (Rows.fnExactJoinSameSpec.pre6 enc Try.prog Try.f8 Rows.fnExactJoinSameRow.domain false) (Rows.fnExactJoinSameSpec.post enc Try.prog Try.f8 false true false false) := by
  refine returnsInHanded_of_change_sized (C := Try.checked) own started (by kernel_rfl) Try.func8
    (ChangeSpec.witness6 (enc := enc) (C := Try.checked) false ⟨#[], #[.slice none 0 0], []⟩ 8 (by kernel_rfl) (by kernel_rfl) (by kernel_rfl) (by kernel_rfl)) ?_
  intro W base args ds gs before hval0 hW hcnd hsz0 _
  have hsz : (DataW.weightsEach Try.prog (Try.f8.params.toList ++ Rows.fnExactJoinSameSpec.plain.varTypes Try.prog) (ds ++ gs)).all (· ≤ reachBytes) = true := hsz0
  have hval : ∀ (j : Nat) t v, Try.f8.params[j]? = some t → args[j]? = some v → Value.okWide Try.prog W .any base t v := hval0
  have hW' := hW
  obtain ⟨p, q, hA0, hV, rfl, hfz, hnd⟩ := hW
  have hA : DataW.TrodAll enc Try.prog W 0 (fun _ => true) true Try.f8.params.toList args.toList ds p := hA0
  rw [Try.params8] at hA hval hsz
  obtain ⟨v0, vs0, d0, ds0, p0, q0, hargs, rfl, rfl, h0, r0⟩ := trodAll_cons hA
  obtain ⟨rfl, rfl, rfl⟩ := trodAll_nil r0
  obtain rfl : args = #[v0] := by cases args; simp_all
  obtain ⟨rfl, rfl⟩ := trodVars_none hV
  have k0 := h0
  have lt0 : ∀ x ∈ p0, x.block < W.heap.size := by obtain ⟨m, hm⟩ := k0; exact DataW.trod_lt m _ _ _ hm
  obtain ⟨a0, len0, cap0, rfl⟩ := okWide_slice Try.underlying22 (hval 0 22 v0 rfl rfl)
  obtain ⟨z0, rfl, hc0, hm0, y0, hw0, hz0⟩ := open_pairs hsz (j := 0) (t := 22) rfl rfl Try.underlying22 Try.underlying43 (by kernel_rfl) rfl rfl (by kernel_rfl) (by kernel_rfl) Try.underlying3 Try.underlying3 (by kernel_rfl) h0
  have hr0 := C_of_pairs (d := PFnExactJoinSame.k43) (fun p : Int × Int => (⟨p.1, p.2⟩ : PFnExactJoinSame.S43)) rfl (fun p => PFnExactJoinSame.k43_mk W ⟨p.1, p.2⟩) hm0 hz0
  clear hA0 hval0 hsz0 hsz
  obtain ⟨k, h⟩ := Pure.FnExactJoinSame (z0.map (fun p : Int × Int => (⟨p.1, p.2⟩ : PFnExactJoinSame.S43))) (by rw [List.length_map]; exact hm0) (by rw [List.length_map]; exact y0) (by intro x hx; obtain ⟨p, hp, rfl⟩ := List.mem_map.1 hx; exact hw0 p hp)
  have hcalls := PFnExactJoinSame.laws_FnExactJoinSame.calls k _ _ (z0.map (fun p : Int × Int => (⟨p.1, p.2⟩ : PFnExactJoinSame.S43))) true W hr0 (by rw [List.length_map]; exact hc0) h
  simp only [List.length_map] at hcalls
  refine hcalls.mono fun e W' ⟨he, bel⟩ => ?_
  subst he
  exact ⟨_, rfl, _, _, _, [], _, [], hW', trodAll_mk1 (shut_bool Try.underlying4 _), (trodAll_cons_mk (Below.trod laidOut (by kernel_rfl) (of_decide_eq_true (by kernel_rfl)) k0 bel lt0) trodAll_mk0), rfl, bel.frame _, fun h => by cases h⟩
theorem over : Rows.fnExactJoinSameRow.holds Try.pinned (OpenSpec.ofChange Rows.fnExactJoinSameSpec) :=
  OpenClaim.holds_of_wide 8 Try.f8 rfl rfl rfl rfl rfl rfl rfl ⟨rfl, rfl, rfl, rfl, rfl⟩ rfl rfl rfl rfl rfl (by kernel_rfl) Try.func8 (by kernel_rfl)
    (of_decide_eq_true (by kernel_rfl)) (by unfold Func.isWrapper; first | (rw [if_pos (by decide +kernel)]; kernel_rfl) | (rw [if_neg (by decide +kernel)]; exact ⟨rfl, rfl⟩))
    (fun os started H enc _ => lifted os started H enc)
theorem proved : Rows.FnExactJoinSameSaid := over
end Go.Proofs.Ytjkpdpggnapmlaa.fnExactJoinSame
namespace Go.Proofs.Ytjkpdpggnapmlaa
/-- The row, under a short name, for the claim. -/
theorem fnExactJoinSame_holds : Rows.FnExactJoinSameSaid := fnExactJoinSame.proved
end Go.Proofs.Ytjkpdpggnapmlaa

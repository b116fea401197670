/- What is proved: the given statement Rows.FnExactEmptyPlacesSaid, out of the printed walk of the law and the plain law beside it; no condition is added. -/
import Derived.Test.YtjkpdpggnapmlaaRows
import Derived.Test.YtjkpdpggnapmlaaPFnExactEmptyPlacesx3
import Derived.Test.YtjkpdpggnapmlaaPureFnExactEmptyPlaces
import Derived.Test.YtjkpdpggnapmlaaOpen
import Derived.Test.YtjkpdpggnapmlaaWSized
import Derived.WalkKit
import Derived.ProofKit
import Derived.OpenShut
import Derived.ShutString
import Derived.ChangeOld
import Derived.Below
import Derived.SizedLaws
namespace Go.Proofs.Ytjkpdpggnapmlaa.fnExactEmptyPlaces
open Go.ChangeShapes Go.WideShapes Go.ChangeAt Go.RowKit Go.Proofs.Ytjkpdpggnapmlaa.Open
open Go.ChangeMaps (open_string shut_string)
set_option linter.unusedVariables false
theorem own : ownKnob Try.prog.godebug = none := by kernel_rfl
theorem laidOut : laidOutB Try.prog = true := by kernel_rfl
set_option maxRecDepth 100000 in
theorem lifted (os : Os) (started : os.Started) (H : Type) (enc : TypeId × Value → H) :
    ReturnsInHanded {} Try.checked os 6 .any (Rows.fnExactEmptyPlacesSpec.pre6 enc Try.prog Try.f6 Rows.fnExactEmptyPlacesRow.domain false) (Rows.fnExactEmptyPlacesSpec.post enc Try.prog Try.f6 false true false false) := by
  refine returnsInHanded_of_change_sized (C := Try.checked) own started (by kernel_rfl) Try.func6
    (ChangeSpec.witness6 (enc := enc) (C := Try.checked) false ⟨#[], #[.slice none 0 0, .int .i64 0], []⟩ 8 (by kernel_rfl) (by kernel_rfl) (by kernel_rfl) (by kernel_rfl)) ?_
  intro W base args ds gs before hval0 hW hcnd hsz0 _
  have hsz : (DataW.weightsEach Try.prog (Try.f6.params.toList ++ Rows.fnExactEmptyPlacesSpec.plain.varTypes Try.prog) (ds ++ gs)).all (· ≤ reachBytes) = true := hsz0
  have hval : ∀ (j : Nat) t v, Try.f6.params[j]? = some t → args[j]? = some v → Value.okWide Try.prog W .any base t v := hval0
  have hW' := hW
  obtain ⟨p, q, hA0, hV, rfl, hfz, hnd⟩ := hW
  have hA : DataW.TrodAll enc Try.prog W 0 (fun _ => true) true Try.f6.params.toList args.toList ds p := hA0
  rw [Try.params6] at hA hval hsz
  obtain ⟨v0, vs0, d0, ds0, p0, q0, hargs, rfl, rfl, h0, r0⟩ := trodAll_cons hA
  obtain ⟨v1, vs1, d1, ds1, p1, q1, rfl, rfl, rfl, h1, r1⟩ := trodAll_cons r0
  obtain ⟨rfl, rfl, rfl⟩ := trodAll_nil r1
  obtain rfl : args = #[v0, v1] := by cases args; simp_all
  obtain ⟨rfl, rfl⟩ := trodVars_none hV
  have k0 := h0
  have lt0 : ∀ x ∈ p0, x.block < W.heap.size := by obtain ⟨m, hm⟩ := k0; exact DataW.trod_lt m _ _ _ hm
  obtain ⟨a0, len0, cap0, rfl⟩ := okWide_slice Try.underlying22 (hval 0 22 v0 rfl rfl)
  obtain ⟨z0, rfl, hc0, hm0, y0, hw0, hz0⟩ := open_pairs hsz (j := 0) (t := 22) rfl rfl Try.underlying22 Try.underlying43 (by kernel_rfl) rfl rfl (by kernel_rfl) (by kernel_rfl) Try.underlying3 Try.underlying3 (by kernel_rfl) h0
  have hr0 := C_of_pairs (d := PFnExactEmptyPlaces.k43) (fun p : Int × Int => (⟨p.1, p.2⟩ : PFnExactEmptyPlaces.S43)) rfl (fun p => PFnExactEmptyPlaces.k43_mk W ⟨p.1, p.2⟩) hm0 hz0
  obtain ⟨a1, rfl, rfl, rfl, w1⟩ := open_int Try.underlying3 (hval 1 3 v1 rfl rfl) h1
  clear hA0 hval0 hsz0 hsz
  obtain ⟨k, h⟩ := Pure.FnExactEmptyPlaces (z0.map (fun p : Int × Int => (⟨p.1, p.2⟩ : PFnExactEmptyPlaces.S43))) a1 (by rw [List.length_map]; exact hm0) (by rw [List.length_map]; exact y0) (by intro x hx; obtain ⟨p, hp, rfl⟩ := List.mem_map.1 hx; exact hw0 p hp) w1
  have hcalls := PFnExactEmptyPlaces.laws_FnExactEmptyPlaces.calls k _ _ (z0.map (fun p : Int × Int => (⟨p.1, p.2⟩ : PFnExactEmptyPlaces.S43))) a1 true W hr0 (by rw [List.length_map]; exact hc0) h
  simp only [List.length_map] at hcalls
  refine hcalls.mono fun e W' ⟨he, bel⟩ => ?_
  subst he
  exact ⟨_, rfl, _, _, _, [], _, [], hW', trodAll_mk1 (shut_bool Try.underlying4 _), (trodAll_cons_mk (Below.trod laidOut (by kernel_rfl) (of_decide_eq_true (by kernel_rfl)) k0 bel lt0) (trodAll_cons_mk (shut_int Try.underlying3 w1) trodAll_mk0)), rfl, bel.frame _, fun h => by cases h⟩
theorem over : Rows.fnExactEmptyPlacesRow.holds Try.pinned (OpenSpec.ofChange Rows.fnExactEmptyPlacesSpec) :=
  OpenClaim.holds_of_wide 6 Try.f6 rfl rfl rfl rfl rfl rfl rfl ⟨rfl, rfl, rfl, rfl, rfl⟩ rfl rfl rfl rfl rfl (by kernel_rfl) Try.func6 (by kernel_rfl)
    (of_decide_eq_true (by kernel_rfl)) (by unfold Func.isWrapper; first | (rw [if_pos (by decide +kernel)]; kernel_rfl) | (rw [if_neg (by decide +kernel)]; exact ⟨rfl, rfl⟩))
    (fun os started H enc _ => lifted os started H enc)
theorem proved : Rows.FnExactEmptyPlacesSaid := over
end Go.Proofs.Ytjkpdpggnapmlaa.fnExactEmptyPlaces
namespace Go.Proofs.Ytjkpdpggnapmlaa
/-- The row, under a short name, for the claim. -/
theorem fnExactEmptyPlaces_holds : Rows.FnExactEmptyPlacesSaid := fnExactEmptyPlaces.proved
end Go.Proofs.Ytjkpdpggnapmlaa

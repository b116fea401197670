/- What is proved: the given statement Rows.FnExactLeastShiftSaid, out of the printed walk of the law and the plain law beside it; no condition is added. -/
import Derived.Test.YthonmildlahjdaaRows
import Derived.Test.YthonmildlahjdaaPFnExactLeastShiftx4
import Derived.Test.YthonmildlahjdaaPureFnExactLeastShift
import Derived.Test.YthonmildlahjdaaOpen
import Derived.Test.YthonmildlahjdaaWSized
import Derived.WalkKit
import Derived.ProofKit
import Derived.OpenShut
import Derived.ShutString
import Derived.ChangeOld
import Derived.Below
import Derived.SizedLaws
namespace Go.Proofs.Ythonmildlahjdaa.fnExactLeastShift
open Go.ChangeShapes Go.WideShapes Go.ChangeAt Go.RowKit Go.Proofs.Ythonmildlahjdaa.Open
open Go.ChangeMaps (open_string shut_string)
set_option linter.unusedVariables false
theorem own : ownKnob Try.prog.godebug = none := by kernel_rfl
theorem laidOut : laidOutB Try.prog = true := by kernel_rfl
set_option maxRecDepth 100000 in
theorem lifted (os : Os) (started : os.Started) (H : Type) (enc : TypeId × Value → H) :
    ReturnsInHanded {} Try.checked os 9 .any (Rows.fnExactLeastShiftSpec.pre6 enc Try.prog Try.f9 Rows.fnExactLeastShiftRow.domain false) (Rows.fnExactLeastShiftSpec.post enc Try.prog Try.f9 false true false false) := by
  refine returnsInHanded_of_change_sized (C := Try.checked) own started (by kernel_rfl) Try.func9
    (ChangeSpec.witness6 (enc := enc) (C := Try.checked) false ⟨#[], #[.slice none 0 0, .slice none 0 0, .int .i64 0], []⟩ 8 (by kernel_rfl) (by kernel_rfl) (by kernel_rfl) (by kernel_rfl)) ?_
  intro W base args ds gs before hval0 hW hcnd hsz0 _
  have hsz : (DataW.weightsEach Try.prog (Try.f9.params.toList ++ Rows.fnExactLeastShiftSpec.plain.varTypes Try.prog) (ds ++ gs)).all (· ≤ reachBytes) = true := hsz0
  have hval : ∀ (j : Nat) t v, Try.f9.params[j]? = some t → args[j]? = some v → Value.okWide Try.prog W .any base t v := hval0
  have hW' := hW
  obtain ⟨p, q, hA0, hV, rfl, hfz, hnd⟩ := hW
  have hA : DataW.TrodAll enc Try.prog W 0 (fun _ => true) true Try.f9.params.toList args.toList ds p := hA0
  rw [Try.params9] at hA hval hsz
  obtain ⟨v0, vs0, d0, ds0, p0, q0, hargs, rfl, rfl, h0, r0⟩ := trodAll_cons hA
  obtain ⟨v1, vs1, d1, ds1, p1, q1, rfl, rfl, rfl, h1, r1⟩ := trodAll_cons r0
  obtain ⟨v2, vs2, d2, ds2, p2, q2, rfl, rfl, rfl, h2, r2⟩ := trodAll_cons r1
  obtain ⟨rfl, rfl, rfl⟩ := trodAll_nil r2
  obtain rfl : args = #[v0, v1, v2] := by cases args; simp_all
  obtain ⟨rfl, rfl⟩ := trodVars_none hV
  have k0 := h0
  have lt0 : ∀ x ∈ p0, x.block < W.heap.size := by obtain ⟨m, hm⟩ := k0; exact DataW.trod_lt m _ _ _ hm
  obtain ⟨a0, len0, cap0, rfl⟩ := okWide_slice Try.underlying24 (hval 0 24 v0 rfl rfl)
  obtain ⟨z0, rfl, hc0, hm0, y0, hw0, hz0⟩ := open_pairs hsz (j := 0) (t := 24) rfl rfl Try.underlying24 Try.underlying59 (by kernel_rfl) rfl rfl (by kernel_rfl) (by kernel_rfl) Try.underlying3 Try.underlying3 (by kernel_rfl) h0
  have hr0 := C_of_pairs (d := PFnExactLeastShift.k59) (fun p : Int × Int => (⟨p.1, p.2⟩ : PFnExactLeastShift.S59)) rfl (fun p => PFnExactLeastShift.k59_mk W ⟨p.1, p.2⟩) hm0 hz0
  have k1 := h1
  have lt1 : ∀ x ∈ p1, x.block < W.heap.size := by obtain ⟨m, hm⟩ := k1; exact DataW.trod_lt m _ _ _ hm
  obtain ⟨a1, len1, cap1, rfl⟩ := okWide_slice Try.underlying24 (hval 1 24 v1 rfl rfl)
  obtain ⟨z1, rfl, hc1, hm1, y1, hw1, hz1⟩ := open_pairs hsz (j := 1) (t := 24) rfl rfl Try.underlying24 Try.underlying59 (by kernel_rfl) rfl rfl (by kernel_rfl) (by kernel_rfl) Try.underlying3 Try.underlying3 (by kernel_rfl) h1
  have hr1 := C_of_pairs (d := PFnExactLeastShift.k59) (fun p : Int × Int => (⟨p.1, p.2⟩ : PFnExactLeastShift.S59)) rfl (fun p => PFnExactLeastShift.k59_mk W ⟨p.1, p.2⟩) hm1 hz1
  obtain ⟨a2, rfl, rfl, rfl, w2⟩ := open_int Try.underlying3 (hval 2 3 v2 rfl rfl) h2
  clear hA0 hval0 hsz0 hsz
  obtain ⟨k, h⟩ := Pure.FnExactLeastShift (z0.map (fun p : Int × Int => (⟨p.1, p.2⟩ : PFnExactLeastShift.S59))) (z1.map (fun p : Int × Int => (⟨p.1, p.2⟩ : PFnExactLeastShift.S59))) a2 (by rw [List.length_map]; exact hm0) (by rw [List.length_map]; exact y0) (by intro x hx; obtain ⟨p, hp, rfl⟩ := List.mem_map.1 hx; exact hw0 p hp) (by rw [List.length_map]; exact hm1) (by rw [List.length_map]; exact y1) (by intro x hx; obtain ⟨p, hp, rfl⟩ := List.mem_map.1 hx; exact hw1 p hp) w2
  have hcalls := PFnExactLeastShift.laws_FnExactLeastShift.calls k _ _ (z0.map (fun p : Int × Int => (⟨p.1, p.2⟩ : PFnExactLeastShift.S59))) _ _ (z1.map (fun p : Int × Int => (⟨p.1, p.2⟩ : PFnExactLeastShift.S59))) a2 true W hr0 (by rw [List.length_map]; exact hc0) hr1 (by rw [List.length_map]; exact hc1) h
  simp only [List.length_map] at hcalls
  refine hcalls.mono fun e W' ⟨he, bel⟩ => ?_
  subst he
  exact ⟨_, rfl, _, _, _, [], _, [], hW', trodAll_mk1 (shut_bool Try.underlying4 _), (trodAll_cons_mk (Below.trod laidOut (by kernel_rfl) (of_decide_eq_true (by kernel_rfl)) k0 bel lt0) (trodAll_cons_mk (Below.trod laidOut (by kernel_rfl) (of_decide_eq_true (by kernel_rfl)) k1 bel lt1) (trodAll_cons_mk (shut_int Try.underlying3 w2) trodAll_mk0))), rfl, bel.frame _, fun h => by cases h⟩
theorem over : Rows.fnExactLeastShiftRow.holds Try.pinned (OpenSpec.ofChange Rows.fnExactLeastShiftSpec) :=
  OpenClaim.holds_of_wide 9 Try.f9 rfl rfl rfl rfl rfl rfl rfl ⟨rfl, rfl, rfl, rfl, rfl⟩ rfl rfl rfl rfl rfl (by kernel_rfl) Try.func9 (by kernel_rfl)
    (of_decide_eq_true (by kernel_rfl)) (by unfold Func.isWrapper; first | (rw [if_pos (by decide +kernel)]; kernel_rfl) | (rw [if_neg (by decide +kernel)]; exact ⟨rfl, rfl⟩))
    (fun os started H enc _ => lifted os started H enc)
theorem proved : Rows.FnExactLeastShiftSaid := over
end Go.Proofs.Ythonmildlahjdaa.fnExactLeastShift
namespace Go.Proofs.Ythonmildlahjdaa
/-- The row, under a short name, for the claim. -/
theorem fnExactLeastShift_holds : Rows.FnExactLeastShiftSaid := fnExactLeastShift.proved
end Go.Proofs.Ythonmildlahjdaa

/- What is proved here: each Go function that the law FnRises reaches comes to what the plain Lean function beside it says; some by hand, the others as printed over them. No condition is added. -/
import Derived.Test.YtamdbkilpllfoaaPFnRisesx0
import Derived.Test.YtamdbkilpllfoaaPFnRisesx1
import Derived.Test.YtamdbkilpllfoaaPFnRisesx2
namespace Go.Proofs.Ytamdbkilpllfoaa.PFnRises
open Go.RowKit Go.Proofs.YtamdbkilpllfoaaW.PrintWords Go.Proofs.YtamdbkilpllfoaaW.PrintLast Go.Proofs.YtamdbkilpllfoaaW.PrintMore
attribute [local go_sem] max2_int min2_int max_two min_two max_three min_three max_four min_four   -- for this text's walks alone
set_option linter.unusedVariables false
set_option linter.unusedSimpArgs false

/-! ### laws_FnRises: function 5 -/
mutual
def laws_FnRises.j0 : Nat → List Int → List Int → Int → Int → Bool → Option (Bool)
  | 0, _, _, _, _, _ => none
  | k + 1, x0, x3, x4, x5, x61 => if x61 = true then (some false) else (laws_FnRises.l0 k x0 x3 x4 x5 0 0)
def laws_FnRises.l0 : Nat → List Int → List Int → Int → Int → Int → Int → Option (Bool)
  | 0, _, _, _, _, _, _ => none
  | k + 1, x0, x3, x4, x5, x7, x8 => if x8 < (x3.length : Int) then (if 0 ≤ x8 then ((impl_SpeedAt.f k (rd x3 x8)).bind fun t174 => (laws_FnRises.l0 k x0 x3 x4 x5 (wrap64 (x7 + t174)) (wrap64 (x8 + 1)))) else (none)) else (laws_FnRises.l1 k x0 x4 x5 x7 4)
def laws_FnRises.l1 : Nat → List Int → Int → Int → Int → Int → Option (Bool)
  | 0, _, _, _, _, _ => none
  | k + 1, x0, x4, x5, x7, x9 => if x9 < 34 then ((impl_SpeedAt.f k (wrap64 (x9 + 1))).bind fun t175 => ((impl_SpeedAt.f k x9).bind fun t176 => (if t175 < t176 then (some false) else ((impl_MinutesAt.f k (wrap64 (x9 + 1)) x5).bind fun t177 => ((impl_MinutesAt.f k x9 x5).bind fun t178 => (if t177 > t178 then (some false) else (laws_FnRises.l1 k x0 x4 x5 x7 (wrap64 (x9 + 1))))))))) else ((laws_at.f x0 1).bind fun t179 => ((impl_CoolestFor.f k x5 (wrap64 (1 + t179))).bind fun t180 => (if t180 ≥ 0 then ((impl_MinutesAt.f k t180 x5).bind fun t181 => (if t181 > (wrap64 (1 + t179)) then (laws_FnRises.j3 k x4 x5 x7 true) else (if t180 > 4 then ((impl_MinutesAt.f k (wrap64 (t180 - 1)) x5).bind fun t182 => (if t182 ≤ (wrap64 (1 + t179)) then (laws_FnRises.j3 k x4 x5 x7 true) else (if t180 < 0 then ((impl_MinutesAt.f k 34 x5).bind fun t183 => (laws_FnRises.j3 k x4 x5 x7 (decide (t183 ≤ (wrap64 (1 + t179)))))) else (laws_FnRises.j3 k x4 x5 x7 false)))) else (if t180 < 0 then ((impl_MinutesAt.f k 34 x5).bind fun t184 => (laws_FnRises.j3 k x4 x5 x7 (decide (t184 ≤ (wrap64 (1 + t179)))))) else (laws_FnRises.j3 k x4 x5 x7 false))))) else (if t180 < 0 then ((impl_MinutesAt.f k 34 x5).bind fun t185 => (laws_FnRises.j3 k x4 x5 x7 (decide (t185 ≤ (wrap64 (1 + t179)))))) else (laws_FnRises.j3 k x4 x5 x7 false)))))
def laws_FnRises.j3 : Nat → Int → Int → Int → Bool → Option (Bool)
  | 0, _, _, _, _ => none
  | k + 1, x4, x5, x7, x131 => if x131 = true then (some false) else ((impl_MinutesAt.f k 24 x5).bind fun t186 => (if x7 = x4 then (if (wrap64 (t186 * 8)) ≥ x5 then (if (wrap64 ((wrap64 (t186 - 1)) * 8)) < x5 then ((impl_SpeedAt.f k 3).bind fun t187 => (if t187 = 0 then ((impl_SpeedAt.f k 35).bind fun t188 => (some (t188 == 0))) else (some false))) else (some false)) else (some false)) else (some false)))
end
def laws_FnRises.f (k : Nat) (l0 : List Int) : Option (Bool) := (laws_big.f l0).bind fun t156 => (if t156 = true then (some true) else ((spec_DrawDegrees.f k l0).bind fun t157 => ((impl_RiseAfter.f k t157).bind fun t160 => ((laws_at.f l0 0).bind fun t161 => ((impl_ReadyAt.f k t157 (wrap64 (1 + t161))).bind fun t162 => (if t160 < 0 then (laws_FnRises.j0 k l0 t157 t160 (wrap64 (1 + t161)) true) else (if ((decide (t162 ≥ 0)) != (decide (t160 ≥ (wrap64 (1 + t161))))) = true then (laws_FnRises.j0 k l0 t157 t160 (wrap64 (1 + t161)) true) else (if t162 ≥ (t157.length : Int) then (laws_FnRises.j0 k l0 t157 t160 (wrap64 (1 + t161)) true) else (if t162 ≥ 0 then (if 0 ≤ (wrap64 (t162 + 1)) then (if (wrap64 (t162 + 1)) ≤ (t157.length : Int) then ((impl_RiseAfter.f k (t157.take ((wrap64 (t162 + 1)) : Int).toNat)).bind fun t167 => (if t167 < (wrap64 (1 + t161)) then (laws_FnRises.j0 k l0 t157 t160 (wrap64 (1 + t161)) true) else (if 0 ≤ t162 then (if t162 ≤ (t157.length : Int) then ((impl_RiseAfter.f k (t157.take (t162 : Int).toNat)).bind fun t172 => (laws_FnRises.j0 k l0 t157 t160 (wrap64 (1 + t161)) (decide (t172 ≥ (wrap64 (1 + t161)))))) else (none)) else (none)))) else (none)) else (none)) else (laws_FnRises.j0 k l0 t157 t160 (wrap64 (1 + t161)) false))))))))))
theorem laws_FnRises.mono_l : ∀ k, (∀ y0 y1 y2 y3 y4, LeO (laws_FnRises.j0 k y0 y1 y2 y3 y4) (laws_FnRises.j0 (k + 1) y0 y1 y2 y3 y4)) ∧ (∀ y0 y1 y2 y3 y4 y5, LeO (laws_FnRises.l0 k y0 y1 y2 y3 y4 y5) (laws_FnRises.l0 (k + 1) y0 y1 y2 y3 y4 y5)) ∧ (∀ y0 y1 y2 y3 y4, LeO (laws_FnRises.l1 k y0 y1 y2 y3 y4) (laws_FnRises.l1 (k + 1) y0 y1 y2 y3 y4)) ∧ (∀ y0 y1 y2 y3, LeO (laws_FnRises.j3 k y0 y1 y2 y3) (laws_FnRises.j3 (k + 1) y0 y1 y2 y3))
  | 0 => ⟨fun _ _ _ _ _ r h => by simp [laws_FnRises.j0] at h, fun _ _ _ _ _ _ r h => by simp [laws_FnRises.l0] at h, fun _ _ _ _ _ r h => by simp [laws_FnRises.l1] at h, fun _ _ _ _ r h => by simp [laws_FnRises.j3] at h⟩
  | k + 1 => by
    obtain ⟨ih0, ih1, ih2, ih3⟩ := laws_FnRises.mono_l k
    refine ⟨?_, ?_, ?_, ?_⟩
    · intro y0 y1 y2 y3 y4
      unfold laws_FnRises.j0
      repeat' first
      | (with_reducible exact ih0 _ _ _ _ _)
      | (with_reducible exact ih1 _ _ _ _ _ _)
      | (with_reducible exact ih2 _ _ _ _ _)
      | (with_reducible exact ih3 _ _ _ _)
      | (with_reducible exact impl_CoolestFor.mono _ _ _)
      | (with_reducible exact impl_MinutesAt.mono _ _ _)
      | (with_reducible exact impl_ReadyAt.mono _ _ _)
      | (with_reducible exact impl_RiseAfter.mono _ _)
      | (with_reducible exact impl_SpeedAt.mono _ _)
      | (with_reducible exact spec_DrawDegrees.mono _ _)
      | (with_reducible exact LeO.refl _)
      | (with_reducible exact LeO.none _)
      | (with_reducible refine LeO.ite ?_ ?_)
      | (with_reducible refine LeO.bind ?_ (fun _ => ?_))
      | exact ih0 _ _ _ _ _
      | exact ih1 _ _ _ _ _ _
      | exact ih2 _ _ _ _ _
      | exact ih3 _ _ _ _
      | exact impl_CoolestFor.mono _ _ _
      | exact impl_MinutesAt.mono _ _ _
      | exact impl_ReadyAt.mono _ _ _
      | exact impl_RiseAfter.mono _ _
      | exact impl_SpeedAt.mono _ _
      | exact spec_DrawDegrees.mono _ _
      | exact LeO.none _
      | refine LeO.ite ?_ ?_
      | refine LeO.bind ?_ (fun _ => ?_)
    · intro y0 y1 y2 y3 y4 y5
      unfold laws_FnRises.l0
      repeat' first
      | (with_reducible exact ih0 _ _ _ _ _)
      | (with_reducible exact ih1 _ _ _ _ _ _)
      | (with_reducible exact ih2 _ _ _ _ _)
      | (with_reducible exact ih3 _ _ _ _)
      | (with_reducible exact impl_CoolestFor.mono _ _ _)
      | (with_reducible exact impl_MinutesAt.mono _ _ _)
      | (with_reducible exact impl_ReadyAt.mono _ _ _)
      | (with_reducible exact impl_RiseAfter.mono _ _)
      | (with_reducible exact impl_SpeedAt.mono _ _)
      | (with_reducible exact spec_DrawDegrees.mono _ _)
      | (with_reducible exact LeO.refl _)
      | (with_reducible exact LeO.none _)
      | (with_reducible refine LeO.ite ?_ ?_)
      | (with_reducible refine LeO.bind ?_ (fun _ => ?_))
      | exact ih0 _ _ _ _ _
      | exact ih1 _ _ _ _ _ _
      | exact ih2 _ _ _ _ _
      | exact ih3 _ _ _ _
      | exact impl_CoolestFor.mono _ _ _
      | exact impl_MinutesAt.mono _ _ _
      | exact impl_ReadyAt.mono _ _ _
      | exact impl_RiseAfter.mono _ _
      | exact impl_SpeedAt.mono _ _
      | exact spec_DrawDegrees.mono _ _
      | exact LeO.none _
      | refine LeO.ite ?_ ?_
      | refine LeO.bind ?_ (fun _ => ?_)
    · intro y0 y1 y2 y3 y4
      unfold laws_FnRises.l1
      repeat' first
      | (with_reducible exact ih0 _ _ _ _ _)
      | (with_reducible exact ih1 _ _ _ _ _ _)
      | (with_reducible exact ih2 _ _ _ _ _)
      | (with_reducible exact ih3 _ _ _ _)
      | (with_reducible exact impl_CoolestFor.mono _ _ _)
      | (with_reducible exact impl_MinutesAt.mono _ _ _)
      | (with_reducible exact impl_ReadyAt.mono _ _ _)
      | (with_reducible exact impl_RiseAfter.mono _ _)
      | (with_reducible exact impl_SpeedAt.mono _ _)
      | (with_reducible exact spec_DrawDegrees.mono _ _)
      | (with_reducible exact LeO.refl _)
      | (with_reducible exact LeO.none _)
      | (with_reducible refine LeO.ite ?_ ?_)
      | (with_reducible refine LeO.bind ?_ (fun _ => ?_))
      | exact ih0 _ _ _ _ _
      | exact ih1 _ _ _ _ _ _
      | exact ih2 _ _ _ _ _
      | exact ih3 _ _ _ _
      | exact impl_CoolestFor.mono _ _ _
      | exact impl_MinutesAt.mono _ _ _
      | exact impl_ReadyAt.mono _ _ _
      | exact impl_RiseAfter.mono _ _
      | exact impl_SpeedAt.mono _ _
      | exact spec_DrawDegrees.mono _ _
      | exact LeO.none _
      | refine LeO.ite ?_ ?_
      | refine LeO.bind ?_ (fun _ => ?_)
    · intro y0 y1 y2 y3
      unfold laws_FnRises.j3
      repeat' first
      | (with_reducible exact ih0 _ _ _ _ _)
      | (with_reducible exact ih1 _ _ _ _ _ _)
      | (with_reducible exact ih2 _ _ _ _ _)
      | (with_reducible exact ih3 _ _ _ _)
      | (with_reducible exact impl_CoolestFor.mono _ _ _)
      | (with_reducible exact impl_MinutesAt.mono _ _ _)
      | (with_reducible exact impl_ReadyAt.mono _ _ _)
      | (with_reducible exact impl_RiseAfter.mono _ _)
      | (with_reducible exact impl_SpeedAt.mono _ _)
      | (with_reducible exact spec_DrawDegrees.mono _ _)
      | (with_reducible exact LeO.refl _)
      | (with_reducible exact LeO.none _)
      | (with_reducible refine LeO.ite ?_ ?_)
      | (with_reducible refine LeO.bind ?_ (fun _ => ?_))
      | exact ih0 _ _ _ _ _
      | exact ih1 _ _ _ _ _ _
      | exact ih2 _ _ _ _ _
      | exact ih3 _ _ _ _
      | exact impl_CoolestFor.mono _ _ _
      | exact impl_MinutesAt.mono _ _ _
      | exact impl_ReadyAt.mono _ _ _
      | exact impl_RiseAfter.mono _ _
      | exact impl_SpeedAt.mono _ _
      | exact spec_DrawDegrees.mono _ _
      | exact LeO.none _
      | refine LeO.ite ?_ ?_
      | refine LeO.bind ?_ (fun _ => ?_)
theorem laws_FnRises.mono : ∀ a0 k, LeO (laws_FnRises.f k a0) (laws_FnRises.f (k + 1) a0) := by
  intro a0 k
  obtain ⟨ih0, ih1, ih2, ih3⟩ := laws_FnRises.mono_l k
  unfold laws_FnRises.f
  repeat' first
      | (with_reducible exact ih0 _ _ _ _ _)
      | (with_reducible exact ih1 _ _ _ _ _ _)
      | (with_reducible exact ih2 _ _ _ _ _)
      | (with_reducible exact ih3 _ _ _ _)
      | (with_reducible exact impl_CoolestFor.mono _ _ _)
      | (with_reducible exact impl_MinutesAt.mono _ _ _)
      | (with_reducible exact impl_ReadyAt.mono _ _ _)
      | (with_reducible exact impl_RiseAfter.mono _ _)
      | (with_reducible exact impl_SpeedAt.mono _ _)
      | (with_reducible exact spec_DrawDegrees.mono _ _)
      | (with_reducible exact LeO.refl _)
      | (with_reducible exact LeO.none _)
      | (with_reducible refine LeO.ite ?_ ?_)
      | (with_reducible refine LeO.bind ?_ (fun _ => ?_))
      | exact ih0 _ _ _ _ _
      | exact ih1 _ _ _ _ _ _
      | exact ih2 _ _ _ _ _
      | exact ih3 _ _ _ _
      | exact impl_CoolestFor.mono _ _ _
      | exact impl_MinutesAt.mono _ _ _
      | exact impl_ReadyAt.mono _ _ _
      | exact impl_RiseAfter.mono _ _
      | exact impl_SpeedAt.mono _ _
      | exact spec_DrawDegrees.mono _ _
      | exact LeO.none _
      | refine LeO.ite ?_ ?_
      | refine LeO.bind ?_ (fun _ => ?_)
theorem laws_FnRises.j0_no {k : Nat} v0 v1 v2 v3 : ¬ laws_FnRises.j0 k v0 v1 v2 v3 true = some true := by
  cases k with
  | zero => intro h; simp [laws_FnRises.j0] at h
  | succ k => intro h; simp [laws_FnRises.j0] at h
theorem laws_FnRises.j3_no {k : Nat} v0 v1 v2 : ¬ laws_FnRises.j3 k v0 v1 v2 true = some true := by
  cases k with
  | zero => intro h; simp [laws_FnRises.j3] at h
  | succ k => intro h; simp [laws_FnRises.j3] at h
set_option maxHeartbeats 8000000 in
set_option maxRecDepth 100000 in
theorem laws_FnRises.calls (k : Nat) (A0 : Option Addr) (c0 : Nat) (l0 : List Int) (w : World) (hr0 : Kd.C (Kd.int .u8) w A0 l0.length l0) (hc0 : l0.length ≤ c0) (h : laws_FnRises.f k l0 = some true) :
    Calls Try.prog 5 #[.slice A0 l0.length c0] w fun e w' => e = .returned (.bool true) ∧ Below w.heap.size w w' := by
  have HR0 := Aside0.mk hr0
  have HC0 := Aside0.mk hc0
  clear hr0 hc0
  have HB := Aside0.mk (Below.refl w.heap.size w)
  have H : ((laws_big.f l0).bind fun t156 => (if t156 = true then (some true) else ((spec_DrawDegrees.f k l0).bind fun t157 => ((impl_RiseAfter.f k t157).bind fun t160 => ((laws_at.f l0 0).bind fun t161 => ((impl_ReadyAt.f k t157 (wrap64 (1 + t161))).bind fun t162 => (if t160 < 0 then (laws_FnRises.j0 k l0 t157 t160 (wrap64 (1 + t161)) true) else (if ((decide (t162 ≥ 0)) != (decide (t160 ≥ (wrap64 (1 + t161))))) = true then (laws_FnRises.j0 k l0 t157 t160 (wrap64 (1 + t161)) true) else (if t162 ≥ (t157.length : Int) then (laws_FnRises.j0 k l0 t157 t160 (wrap64 (1 + t161)) true) else (if t162 ≥ 0 then (if 0 ≤ (wrap64 (t162 + 1)) then (if (wrap64 (t162 + 1)) ≤ (t157.length : Int) then ((impl_RiseAfter.f k (t157.take ((wrap64 (t162 + 1)) : Int).toNat)).bind fun t167 => (if t167 < (wrap64 (1 + t161)) then (laws_FnRises.j0 k l0 t157 t160 (wrap64 (1 + t161)) true) else (if 0 ≤ t162 then (if t162 ≤ (t157.length : Int) then ((impl_RiseAfter.f k (t157.take (t162 : Int).toNat)).bind fun t172 => (laws_FnRises.j0 k l0 t157 t160 (wrap64 (1 + t161)) (decide (t172 ≥ (wrap64 (1 + t161)))))) else (none)) else (none)))) else (none)) else (none)) else (laws_FnRises.j0 k l0 t157 t160 (wrap64 (1 + t161)) false))))))))))) = some true := h
  clear h
  replace H := Option.bind_eq_some_iff.mp H
  obtain ⟨t156, A20, H⟩ := H
  replace H : (if t156 = true then (some true) else ((spec_DrawDegrees.f k l0).bind fun t157 => ((impl_RiseAfter.f k t157).bind fun t160 => ((laws_at.f l0 0).bind fun t161 => ((impl_ReadyAt.f k t157 (wrap64 (1 + t161))).bind fun t162 => (if t160 < 0 then (laws_FnRises.j0 k l0 t157 t160 (wrap64 (1 + t161)) true) else (if ((decide (t162 ≥ 0)) != (decide (t160 ≥ (wrap64 (1 + t161))))) = true then (laws_FnRises.j0 k l0 t157 t160 (wrap64 (1 + t161)) true) else (if t162 ≥ (t157.length : Int) then (laws_FnRises.j0 k l0 t157 t160 (wrap64 (1 + t161)) true) else (if t162 ≥ 0 then (if 0 ≤ (wrap64 (t162 + 1)) then (if (wrap64 (t162 + 1)) ≤ (t157.length : Int) then ((impl_RiseAfter.f k (t157.take ((wrap64 (t162 + 1)) : Int).toNat)).bind fun t167 => (if t167 < (wrap64 (1 + t161)) then (laws_FnRises.j0 k l0 t157 t160 (wrap64 (1 + t161)) true) else (if 0 ≤ t162 then (if t162 ≤ (t157.length : Int) then ((impl_RiseAfter.f k (t157.take (t162 : Int).toNat)).bind fun t172 => (laws_FnRises.j0 k l0 t157 t160 (wrap64 (1 + t161)) (decide (t172 ≥ (wrap64 (1 + t161)))))) else (none)) else (none)))) else (none)) else (none)) else (laws_FnRises.j0 k l0 t157 t160 (wrap64 (1 + t161)) false)))))))))) = some true := H
  have A2 := Aside0.mk A20
  clear A20
  by_cases c3 : t156 = true
  · subst c3
    have H1 : (some true) = some true := rfl
    clear H
    have H := H1
    clear H1
    have hT_ := Option.some.inj H
    go_enter Try.func5, Try.ntmps5
    go_wp2_with (first | ((with_reducible refine gate_callee (f := 18) rfl ?_); refine goesL_ (some 14) rfl rfl Try.func18 (by kernel_rfl) rfl #[.slice A0 l0.length c0] rfl (by (try simp only [List.map_toArray, List.map_cons, List.map_nil]); first | done | rfl | (simp only [List.length_drop, List.length_take]; rfl)) ?_; (with_reducible refine (laws_big.calls _ _ l0 true _ ?side1 ?side2 A2.out).mono ?_); (case side1 => repeat (first | exact HR0.out | (with_reducible refine Kd.C_alloc ?_ _) | (with_reducible refine Kd.C_drewN ?_ _) | (with_reducible refine Kd.C_drew ?_))); (case side2 => exact HC0.out); rintro e w' ⟨rfl, ⟨nd, rfl⟩⟩; refine ⟨_, rfl, ?_⟩))
    go_ret
    exact ⟨by first | rfl | (simp [errW_none, errW_some] <;> rfl) | (simp [*, errW_none, errW_some] <;> rfl), by repeat (first | (with_reducible first | exact HB.out | apply below_alloc | apply pw_below_drewN | apply below_drew1) | exact HB.out)⟩
  · replace c3 := Bool.eq_false_iff.mpr c3
    subst c3
    have H1 : ((spec_DrawDegrees.f k l0).bind fun t157 => ((impl_RiseAfter.f k t157).bind fun t160 => ((laws_at.f l0 0).bind fun t161 => ((impl_ReadyAt.f k t157 (wrap64 (1 + t161))).bind fun t162 => (if t160 < 0 then (laws_FnRises.j0 k l0 t157 t160 (wrap64 (1 + t161)) true) else (if ((decide (t162 ≥ 0)) != (decide (t160 ≥ (wrap64 (1 + t161))))) = true then (laws_FnRises.j0 k l0 t157 t160 (wrap64 (1 + t161)) true) else (if t162 ≥ (t157.length : Int) then (laws_FnRises.j0 k l0 t157 t160 (wrap64 (1 + t161)) true) else (if t162 ≥ 0 then (if 0 ≤ (wrap64 (t162 + 1)) then (if (wrap64 (t162 + 1)) ≤ (t157.length : Int) then ((impl_RiseAfter.f k (t157.take ((wrap64 (t162 + 1)) : Int).toNat)).bind fun t167 => (if t167 < (wrap64 (1 + t161)) then (laws_FnRises.j0 k l0 t157 t160 (wrap64 (1 + t161)) true) else (if 0 ≤ t162 then (if t162 ≤ (t157.length : Int) then ((impl_RiseAfter.f k (t157.take (t162 : Int).toNat)).bind fun t172 => (laws_FnRises.j0 k l0 t157 t160 (wrap64 (1 + t161)) (decide (t172 ≥ (wrap64 (1 + t161)))))) else (none)) else (none)))) else (none)) else (none)) else (laws_FnRises.j0 k l0 t157 t160 (wrap64 (1 + t161)) false))))))))) = some true := by rw [if_neg (show ¬ (false = true) by decide)] at H; exact H
    clear H
    have H := H1
    clear H1
    replace H := Option.bind_eq_some_iff.mp H
    obtain ⟨t157, A40, H⟩ := H
    replace H : ((impl_RiseAfter.f k t157).bind fun t160 => ((laws_at.f l0 0).bind fun t161 => ((impl_ReadyAt.f k t157 (wrap64 (1 + t161))).bind fun t162 => (if t160 < 0 then (laws_FnRises.j0 k l0 t157 t160 (wrap64 (1 + t161)) true) else (if ((decide (t162 ≥ 0)) != (decide (t160 ≥ (wrap64 (1 + t161))))) = true then (laws_FnRises.j0 k l0 t157 t160 (wrap64 (1 + t161)) true) else (if t162 ≥ (t157.length : Int) then (laws_FnRises.j0 k l0 t157 t160 (wrap64 (1 + t161)) true) else (if t162 ≥ 0 then (if 0 ≤ (wrap64 (t162 + 1)) then (if (wrap64 (t162 + 1)) ≤ (t157.length : Int) then ((impl_RiseAfter.f k (t157.take ((wrap64 (t162 + 1)) : Int).toNat)).bind fun t167 => (if t167 < (wrap64 (1 + t161)) then (laws_FnRises.j0 k l0 t157 t160 (wrap64 (1 + t161)) true) else (if 0 ≤ t162 then (if t162 ≤ (t157.length : Int) then ((impl_RiseAfter.f k (t157.take (t162 : Int).toNat)).bind fun t172 => (laws_FnRises.j0 k l0 t157 t160 (wrap64 (1 + t161)) (decide (t172 ≥ (wrap64 (1 + t161)))))) else (none)) else (none)))) else (none)) else (none)) else (laws_FnRises.j0 k l0 t157 t160 (wrap64 (1 + t161)) false)))))))) = some true := H
    have A4 := Aside0.mk A40
    clear A40
    replace H := Option.bind_eq_some_iff.mp H
    obtain ⟨t160, A50, H⟩ := H
    replace H : ((laws_at.f l0 0).bind fun t161 => ((impl_ReadyAt.f k t157 (wrap64 (1 + t161))).bind fun t162 => (if t160 < 0 then (laws_FnRises.j0 k l0 t157 t160 (wrap64 (1 + t161)) true) else (if ((decide (t162 ≥ 0)) != (decide (t160 ≥ (wrap64 (1 + t161))))) = true then (laws_FnRises.j0 k l0 t157 t160 (wrap64 (1 + t161)) true) else (if t162 ≥ (t157.length : Int) then (laws_FnRises.j0 k l0 t157 t160 (wrap64 (1 + t161)) true) else (if t162 ≥ 0 then (if 0 ≤ (wrap64 (t162 + 1)) then (if (wrap64 (t162 + 1)) ≤ (t157.length : Int) then ((impl_RiseAfter.f k (t157.take ((wrap64 (t162 + 1)) : Int).toNat)).bind fun t167 => (if t167 < (wrap64 (1 + t161)) then (laws_FnRises.j0 k l0 t157 t160 (wrap64 (1 + t161)) true) else (if 0 ≤ t162 then (if t162 ≤ (t157.length : Int) then ((impl_RiseAfter.f k (t157.take (t162 : Int).toNat)).bind fun t172 => (laws_FnRises.j0 k l0 t157 t160 (wrap64 (1 + t161)) (decide (t172 ≥ (wrap64 (1 + t161)))))) else (none)) else (none)))) else (none)) else (none)) else (laws_FnRises.j0 k l0 t157 t160 (wrap64 (1 + t161)) false))))))) = some true := H
    have A5 := Aside0.mk A50
    clear A50
    replace H := Option.bind_eq_some_iff.mp H
    obtain ⟨t161, A60, H⟩ := H
    replace H : ((impl_ReadyAt.f k t157 (wrap64 (1 + t161))).bind fun t162 => (if t160 < 0 then (laws_FnRises.j0 k l0 t157 t160 (wrap64 (1 + t161)) true) else (if ((decide (t162 ≥ 0)) != (decide (t160 ≥ (wrap64 (1 + t161))))) = true then (laws_FnRises.j0 k l0 t157 t160 (wrap64 (1 + t161)) true) else (if t162 ≥ (t157.length : Int) then (laws_FnRises.j0 k l0 t157 t160 (wrap64 (1 + t161)) true) else (if t162 ≥ 0 then (if 0 ≤ (wrap64 (t162 + 1)) then (if (wrap64 (t162 + 1)) ≤ (t157.length : Int) then ((impl_RiseAfter.f k (t157.take ((wrap64 (t162 + 1)) : Int).toNat)).bind fun t167 => (if t167 < (wrap64 (1 + t161)) then (laws_FnRises.j0 k l0 t157 t160 (wrap64 (1 + t161)) true) else (if 0 ≤ t162 then (if t162 ≤ (t157.length : Int) then ((impl_RiseAfter.f k (t157.take (t162 : Int).toNat)).bind fun t172 => (laws_FnRises.j0 k l0 t157 t160 (wrap64 (1 + t161)) (decide (t172 ≥ (wrap64 (1 + t161)))))) else (none)) else (none)))) else (none)) else (none)) else (laws_FnRises.j0 k l0 t157 t160 (wrap64 (1 + t161)) false)))))) = some true := H
    have A6 := Aside0.mk A60
    clear A60
    replace H := Option.bind_eq_some_iff.mp H
    obtain ⟨t162, A70, H⟩ := H
    replace H : (if t160 < 0 then (laws_FnRises.j0 k l0 t157 t160 (wrap64 (1 + t161)) true) else (if ((decide (t162 ≥ 0)) != (decide (t160 ≥ (wrap64 (1 + t161))))) = true then (laws_FnRises.j0 k l0 t157 t160 (wrap64 (1 + t161)) true) else (if t162 ≥ (t157.length : Int) then (laws_FnRises.j0 k l0 t157 t160 (wrap64 (1 + t161)) true) else (if t162 ≥ 0 then (if 0 ≤ (wrap64 (t162 + 1)) then (if (wrap64 (t162 + 1)) ≤ (t157.length : Int) then ((impl_RiseAfter.f k (t157.take ((wrap64 (t162 + 1)) : Int).toNat)).bind fun t167 => (if t167 < (wrap64 (1 + t161)) then (laws_FnRises.j0 k l0 t157 t160 (wrap64 (1 + t161)) true) else (if 0 ≤ t162 then (if t162 ≤ (t157.length : Int) then ((impl_RiseAfter.f k (t157.take (t162 : Int).toNat)).bind fun t172 => (laws_FnRises.j0 k l0 t157 t160 (wrap64 (1 + t161)) (decide (t172 ≥ (wrap64 (1 + t161)))))) else (none)) else (none)))) else (none)) else (none)) else (laws_FnRises.j0 k l0 t157 t160 (wrap64 (1 + t161)) false))))) = some true := H
    have A7 := Aside0.mk A70
    clear A70
    have HC8 := Aside0.mk H
    clear H
    go_enter Try.func5, Try.ntmps5
    go_upto_region 7 with (first | ((with_reducible refine gate_callee (f := 18) rfl ?_); refine goesL_ (some 14) rfl rfl Try.func18 (by kernel_rfl) rfl #[.slice A0 l0.length c0] rfl (by (try simp only [List.map_toArray, List.map_cons, List.map_nil]); first | done | rfl | (simp only [List.length_drop, List.length_take]; rfl)) ?_; (with_reducible refine (laws_big.calls _ _ l0 false _ ?side1 ?side2 A2.out).mono ?_); (case side1 => repeat (first | exact HR0.out | (with_reducible refine Kd.C_alloc ?_ _) | (with_reducible refine Kd.C_drewN ?_ _) | (with_reducible refine Kd.C_drew ?_))); (case side2 => exact HC0.out); rintro e w' ⟨rfl, ⟨nd, rfl⟩⟩; refine ⟨_, rfl, ?_⟩) | ((with_reducible refine gate_callee (f := 19) rfl ?_); refine goesL_ (some 16) rfl rfl Try.func19 (by kernel_rfl) rfl #[.slice A0 l0.length c0] rfl (by (try simp only [List.map_toArray, List.map_cons, List.map_nil]); first | done | rfl | (simp only [List.length_drop, List.length_take]; rfl)) ?_; (with_reducible refine (spec_DrawDegrees.calls k _ _ l0 t157 _ ?side1 ?side2 A4.out).mono ?_); (case side1 => repeat (first | exact HR0.out | (with_reducible refine Kd.C_alloc ?_ _) | (with_reducible refine Kd.C_drewN ?_ _) | (with_reducible refine Kd.C_drew ?_))); (case side2 => exact HC0.out); rintro e w9 ⟨v158, rfl, ho0, hb⟩; refine ⟨_, rfl, ?_⟩; have n0_ := Aside0.mk (Kd.R_lower ho0 (below_size (by repeat (first | (with_reducible first | exact HB.out | apply below_alloc | apply pw_below_drewN | apply below_drew1) | exact HB.out)))); have n1_ := Aside0.mk (below_step (by repeat (first | (with_reducible first | exact HB.out | apply below_alloc | apply pw_below_drewN | apply below_drew1) | exact HB.out)) hb); clear HB; have HO159 := n0_; have HB := n1_; clear n0_ n1_; (try clear hb); (try clear hb2); (try clear hk); (try clear hi); (try clear ho0); obtain ⟨Ao10, co10, eo10⟩ := Kd.R_slice HO159.out; subst eo10) | ((with_reducible refine gate_callee (f := 14) rfl ?_); refine goesL_ (some 18) rfl rfl Try.func14 (by kernel_rfl) rfl #[.slice Ao10 t157.length co10] rfl (by (try simp only [List.map_toArray, List.map_cons, List.map_nil]); first | done | rfl | (simp only [List.length_drop, List.length_take]; rfl)) ?_; (with_reducible refine (impl_RiseAfter.calls k _ _ t157 t160 _ ?side1 ?side2 A5.out).mono ?_); (case side1 => repeat (first | exact (Kd.R_reads' HO159.out).2.2 | (with_reducible refine Kd.C_alloc ?_ _) | (with_reducible refine Kd.C_drewN ?_ _) | (with_reducible refine Kd.C_drew ?_))); (case side2 => exact (Kd.R_reads' HO159.out).2.1); rintro e w11 ⟨rfl, hb⟩; refine ⟨_, rfl, ?_⟩; have n0_ := Aside0.mk (Kd.R_below (by (with_reducible repeat (first | apply Kd.R_alloc | apply Kd.R_drewN | apply Kd.R_drew)); exact HO159.out) hb); have n1_ := Aside0.mk (below_step (by repeat (first | (with_reducible first | exact HB.out | apply below_alloc | apply pw_below_drewN | apply below_drew1) | exact HB.out)) hb); clear HO159; clear HB; have HO159 := n0_; have HB := n1_; clear n0_ n1_; (try clear hb); (try clear hb2); (try clear hk); (try clear hi)) | ((with_reducible refine gate_callee (f := 20) rfl ?_); refine goesL_ (some 20) rfl rfl Try.func20 (by kernel_rfl) rfl #[.slice A0 l0.length c0, .int .i64 0] rfl (by (try simp only [List.map_toArray, List.map_cons, List.map_nil]); first | done | rfl | (simp only [List.length_drop, List.length_take]; rfl)) ?_; (with_reducible refine (laws_at.calls _ _ l0 0 t161 _ ?side1 ?side2 A6.out).mono ?_); (case side1 => repeat (first | exact (Kd.C_below HR0.out HB.out) | (with_reducible refine Kd.C_alloc ?_ _) | (with_reducible refine Kd.C_drewN ?_ _) | (with_reducible refine Kd.C_drew ?_))); (case side2 => exact HC0.out); rintro e w' ⟨rfl, ⟨nd, rfl⟩⟩; refine ⟨_, rfl, ?_⟩) | ((with_reducible refine gate_callee (f := 17) rfl ?_); refine goesL_ (some 24) rfl rfl Try.func17 (by kernel_rfl) rfl #[.slice Ao10 t157.length co10, .int .i64 (wrap64 (1 + t161))] rfl (by (try simp only [List.map_toArray, List.map_cons, List.map_nil]); first | done | rfl | (simp only [List.length_drop, List.length_take]; rfl)) ?_; (with_reducible refine (impl_ReadyAt.calls k _ _ t157 (wrap64 (1 + t161)) t162 _ ?side1 ?side2 A7.out).mono ?_); (case side1 => repeat (first | exact (Kd.R_reads' HO159.out).2.2 | (with_reducible refine Kd.C_alloc ?_ _) | (with_reducible refine Kd.C_drewN ?_ _) | (with_reducible refine Kd.C_drew ?_))); (case side2 => exact (Kd.R_reads' HO159.out).2.1); rintro e w12 ⟨rfl, hb⟩; refine ⟨_, rfl, ?_⟩; have n0_ := Aside0.mk (Kd.R_below (by (with_reducible repeat (first | apply Kd.R_alloc | apply Kd.R_drewN | apply Kd.R_drew)); exact HO159.out) hb); have n1_ := Aside0.mk (below_step (by repeat (first | (with_reducible first | exact HB.out | apply below_alloc | apply pw_below_drewN | apply below_drew1) | exact HB.out)) hb); clear HO159; clear HB; have HO159 := n0_; have HB := n1_; clear n0_ n1_; (try clear hb); (try clear hb2); (try clear hk); (try clear hi)))
    (try simp only [Act.put, List.setIfInBounds_toArray, List.set_cons_zero, List.set_cons_succ])
    go_cut [61] (fun v61 wc => ∃ (kq : Nat) (x61_7 : Bool), v61 = .bool x61_7 ∧ Aside0 (laws_FnRises.j0 kq l0 t157 t160 (wrap64 (1 + t161)) x61_7 = some true) ∧ Aside0 (kq ≤ k) ∧ Aside0 (Kd.R (Kd.int .i64) 3 wc w.heap.size (fun _ => True) (.slice Ao10 t157.length co10) t157) ∧ Aside0 (Below w.heap.size w wc))
    case first =>
      have H := HC8.out
      clear HC8
      by_cases c13 : t160 < 0
      · rw [if_pos c13] at H
        have c13b0 : decide (t160 < 0) = true := decide_eq_true c13
        clear c13
        (first | rw [c13b0] | (simp only [i64_w, i32_w]; rw [c13b0]) | skip)
        exact absurd H (laws_FnRises.j0_no _ _ _ _)
      · rw [if_neg c13] at H
        have c13b0 : decide (t160 < 0) = false := decide_eq_false c13
        clear c13
        (first | rw [c13b0] | (simp only [i64_w, i32_w]; rw [c13b0]) | skip)
        by_cases c14 : ((decide (t162 ≥ 0)) != (decide (t160 ≥ (wrap64 (1 + t161))))) = true
        · rw [if_pos c14] at H
          have c14b0 : ((decide (t162 ≥ 0)) != (decide (t160 ≥ (wrap64 (1 + t161))))) = true := c14
          (try (have c14b1 : decide ((decide (t162 ≥ 0)) = (decide (t160 ≥ (wrap64 (1 + t161))))) = false := by simpa using c14))
          (try (have c14b2 : ((decide (t162 ≥ 0)) == (decide (t160 ≥ (wrap64 (1 + t161))))) = false := by simpa using c14))
          (try (have c14b3 : ¬ ((decide (t162 ≥ 0)) = (decide (t160 ≥ (wrap64 (1 + t161))))) := by simpa using c14))
          clear c14
          exact absurd H (laws_FnRises.j0_no _ _ _ _)
        · rw [if_neg c14] at H
          have c14b0 : ((decide (t162 ≥ 0)) != (decide (t160 ≥ (wrap64 (1 + t161))))) = false := by simpa using c14
          (try (have c14b1 : decide ((decide (t162 ≥ 0)) = (decide (t160 ≥ (wrap64 (1 + t161))))) = true := by simpa using c14))
          (try (have c14b2 : ((decide (t162 ≥ 0)) == (decide (t160 ≥ (wrap64 (1 + t161))))) = true := by simpa using c14))
          clear c14
          by_cases c15 : t162 ≥ (t157.length : Int)
          · rw [if_pos c15] at H
            have c15b0 : decide ((t157.length : Int) ≤ t162) = true := decide_eq_true c15
            clear c15
            exact absurd H (laws_FnRises.j0_no _ _ _ _)
          · rw [if_neg c15] at H
            have c15b0 : decide ((t157.length : Int) ≤ t162) = false := decide_eq_false c15
            clear c15
            by_cases c16 : t162 ≥ 0
            · rw [if_pos c16] at H
              have hcx_ : wrap64 (1 + t161) ≤ t160 := by
                have hcy_ := c14b0
                rw [decide_eq_true (show t162 ≥ 0 from c16)] at hcy_
                by_cases hcz_ : t160 ≥ wrap64 (1 + t161)
                · exact hcz_
                · rw [decide_eq_false hcz_] at hcy_; exact absurd hcy_ (by decide)
              have c14x0 := eq_true hcx_
              have c14x1 : decide (wrap64 (1 + t161) ≤ t160) = true := decide_eq_true hcx_
              have c14x2 := eq_false (Int.not_lt.mpr hcx_)
              have c14x3 : decide (t160 < wrap64 (1 + t161)) = false := decide_eq_false (Int.not_lt.mpr hcx_)
              have c16b0 : decide (0 ≤ t162) = true := decide_eq_true c16
              clear c16
              obtain ⟨ji17, hji17⟩ : ∃ j_ : Int, (wrap64 (t162 + 1)) = j_ := ⟨_, rfl⟩
              replace H : (if 0 ≤ (ji17) then (if (ji17) ≤ (t157.length : Int) then ((impl_RiseAfter.f k (t157.take ((ji17) : Int).toNat)).bind fun t167 => (if t167 < (wrap64 (1 + t161)) then (laws_FnRises.j0 k l0 t157 t160 (wrap64 (1 + t161)) true) else (if 0 ≤ t162 then (if t162 ≤ (t157.length : Int) then ((impl_RiseAfter.f k (t157.take (t162 : Int).toNat)).bind fun t172 => (laws_FnRises.j0 k l0 t157 t160 (wrap64 (1 + t161)) (decide (t172 ≥ (wrap64 (1 + t161)))))) else (none)) else (none)))) else (none)) else (none)) = some true := by first | (rw [hji17] at H; exact H) | (simp only [hji17] at H ⊢; exact H)
              have hji17w : (IntKind.i64.wrap (t162 + 1)) = ji17 := (i64_w _).trans hji17
              by_cases c18 : 0 ≤ (ji17)
              · rw [if_pos c18] at H
                have c18b0 := eq_true c18
                have c18b1 : decide (0 ≤ (ji17)) = true := decide_eq_true c18
                clear c18
                by_cases c19 : (ji17) ≤ (t157.length : Int)
                · rw [if_pos c19] at H
                  have c19b0 := eq_true c19
                  have c19b1 : decide ((ji17) ≤ (t157.length : Int)) = true := decide_eq_true c19
                  clear c19
                  obtain ⟨y163, hy163⟩ : ∃ y_ : List Int, y_ = (t157.take ((ji17) : Int).toNat) := ⟨_, rfl⟩
                  replace H : ((impl_RiseAfter.f k y163).bind fun t167 => (if t167 < (wrap64 (1 + t161)) then (laws_FnRises.j0 k l0 t157 t160 (wrap64 (1 + t161)) true) else (if 0 ≤ t162 then (if t162 ≤ (t157.length : Int) then ((impl_RiseAfter.f k (t157.take (t162 : Int).toNat)).bind fun t172 => (laws_FnRises.j0 k l0 t157 t160 (wrap64 (1 + t161)) (decide (t172 ≥ (wrap64 (1 + t161)))))) else (none)) else (none)))) = some true := by first | (rw [hy163]; with_reducible exact H) | (have H2_ := (Option.bind_some _ _).symm.trans H; rw [hy163]; with_reducible exact H2_) | (have H2_ := (Option.bind_some _ _).symm.trans H; with_reducible exact H2_) | with_reducible exact H | (rw [hy163]; exact H) | exact H
                  have Ny163 := Aside0.mk hy163
                  clear hy163
                  replace H := Option.bind_eq_some_iff.mp H
                  obtain ⟨t167, A200, H⟩ := H
                  replace H : (if t167 < (wrap64 (1 + t161)) then (laws_FnRises.j0 k l0 t157 t160 (wrap64 (1 + t161)) true) else (if 0 ≤ t162 then (if t162 ≤ (t157.length : Int) then ((impl_RiseAfter.f k (t157.take (t162 : Int).toNat)).bind fun t172 => (laws_FnRises.j0 k l0 t157 t160 (wrap64 (1 + t161)) (decide (t172 ≥ (wrap64 (1 + t161)))))) else (none)) else (none))) = some true := H
                  have A20 := Aside0.mk A200
                  clear A200
                  by_cases c21 : t167 < (wrap64 (1 + t161))
                  · rw [if_pos c21] at H
                    have c21b0 : decide (t167 < (wrap64 (1 + t161))) = true := decide_eq_true c21
                    clear c21
                    exact absurd H (laws_FnRises.j0_no _ _ _ _)
                  · rw [if_neg c21] at H
                    have c21b0 : decide (t167 < (wrap64 (1 + t161))) = false := decide_eq_false c21
                    clear c21
                    by_cases c22 : 0 ≤ t162
                    · rw [if_pos c22] at H
                      have c22b0 := eq_true c22
                      have c22b1 : decide (0 ≤ t162) = true := decide_eq_true c22
                      clear c22
                      by_cases c23 : t162 ≤ (t157.length : Int)
                      · rw [if_pos c23] at H
                        have c23b0 := eq_true c23
                        have c23b1 : decide (t162 ≤ (t157.length : Int)) = true := decide_eq_true c23
                        clear c23
                        obtain ⟨y168, hy168⟩ : ∃ y_ : List Int, y_ = (t157.take (t162 : Int).toNat) := ⟨_, rfl⟩
                        replace H : ((impl_RiseAfter.f k y168).bind fun t172 => (laws_FnRises.j0 k l0 t157 t160 (wrap64 (1 + t161)) (decide (t172 ≥ (wrap64 (1 + t161)))))) = some true := by first | (rw [hy168]; with_reducible exact H) | (have H2_ := (Option.bind_some _ _).symm.trans H; rw [hy168]; with_reducible exact H2_) | (have H2_ := (Option.bind_some _ _).symm.trans H; with_reducible exact H2_) | with_reducible exact H | (rw [hy168]; exact H) | exact H
                        have Ny168 := Aside0.mk hy168
                        clear hy168
                        replace H := Option.bind_eq_some_iff.mp H
                        obtain ⟨t172, A240, H⟩ := H
                        replace H : (laws_FnRises.j0 k l0 t157 t160 (wrap64 (1 + t161)) (decide (t172 ≥ (wrap64 (1 + t161))))) = some true := H
                        have A24 := Aside0.mk A240
                        clear A240
                        have H' := Aside0.mk H
                        clear H
                        have q25 : ((ji17) : Int) ≤ ((t157.length : Int) : Int) := of_decide_eq_true (by first | (with_reducible assumption) | assumption)
                        obtain ⟨i025, hi025, _, hsz25, _⟩ := info_parts info3
                        have hroom25 : t157.length ≤ co10 := (Kd.R_reads' HO159.out).2.1
                        have hC25 : Kd.C (Kd.int .i64) _ Ao10 t157.length t157 := (Kd.R_reads' HO159.out).2.2
                        have hcut25 := cut_to (P := Try.prog) 22 3 .i64 Try.underlying22 hi025 Ao10 t157.length co10 (ji17) (of_decide_eq_true (by first | (with_reducible assumption) | assumption)) q25 hroom25
                        have hr25 := Kd.C_take (m := ((ji17) : Int).toNat) hC25 (by omega)
                        have hy25 : y163.length = ((ji17) : Int).toNat := (by rw [Ny163.out, List.length_take]; omega)
                        rw [← Ny163.out] at hr25
                        rw [← hy25] at hcut25
                        have HR166 := Aside0.mk hr25
                        have HC166 := Aside0.mk (show y163.length ≤ co10 from by omega)
                        clear hr25 hC25 hroom25 hi025 hsz25
                        have KY25 := Aside0.mk hy25
                        clear hy25
                        have KL25 := Aside0.mk (show ((ji17) : Int).toNat ≤ t157.length from by omega)
                        replace q25 := eq_true q25
                        go_wp2_with (first | (go_at_call 14; (with_reducible refine (impl_RiseAfter.calls k _ _ y163 t167 _ ?side1 ?side2 A20.out).mono ?_); (case side1 => repeat (first | exact (by repeat (first | (with_reducible exact HR166.out) | (with_reducible refine Kd.C_alloc ?_ _) | (with_reducible refine Kd.C_drewN ?_ _) | (with_reducible refine Kd.C_drew ?_) | exact HR166.out)) | (with_reducible refine Kd.C_alloc ?_ _) | (with_reducible refine Kd.C_drewN ?_ _) | (with_reducible refine Kd.C_drew ?_))); (case side2 => exact HC166.out); rintro e w26 ⟨rfl, hb⟩; have n0_ := Aside0.mk (Kd.R_below (by (with_reducible repeat (first | apply Kd.R_alloc | apply Kd.R_drewN | apply Kd.R_drew)); exact HO159.out) hb); have n1_ := Aside0.mk (Kd.C_below (by repeat (first | (with_reducible exact HR166.out) | (with_reducible refine Kd.C_alloc ?_ _) | (with_reducible refine Kd.C_drewN ?_ _) | (with_reducible refine Kd.C_drew ?_) | exact HR166.out)) hb); have n2_ := Aside0.mk (below_step (by repeat (first | (with_reducible first | exact HB.out | apply below_alloc | apply pw_below_drewN | apply below_drew1) | exact HB.out)) hb); clear HO159; clear HR166; clear HB; have HO159 := n0_; have HR166 := n1_; have HB := n2_; clear n0_ n1_ n2_; (try clear hb); (try clear hb2); (try clear hk); (try clear hi); have q27 : (t162 : Int) ≤ ((t157.length : Int) : Int) := of_decide_eq_true (by first | (with_reducible assumption) | assumption); obtain ⟨i027, hi027, _, hsz27, _⟩ := info_parts info3; have hroom27 : t157.length ≤ co10 := (Kd.R_reads' HO159.out).2.1; have hC27 : Kd.C (Kd.int .i64) _ Ao10 t157.length t157 := (Kd.R_reads' HO159.out).2.2; have hcut27 := cut_to (P := Try.prog) 22 3 .i64 Try.underlying22 hi027 Ao10 t157.length co10 t162 (of_decide_eq_true (by first | (with_reducible assumption) | assumption)) q27 hroom27; have hr27 := Kd.C_take (m := (t162 : Int).toNat) hC27 (by omega); have hy27 : y168.length = (t162 : Int).toNat := (by rw [Ny168.out, List.length_take]; omega); rw [← Ny168.out] at hr27; rw [← hy27] at hcut27; have HR171 := Aside0.mk hr27; have HC171 := Aside0.mk (show y168.length ≤ co10 from by omega); clear hr27 hC27 hroom27 hi027 hsz27; have KY27 := Aside0.mk hy27; clear hy27; have KL27 := Aside0.mk (show (t162 : Int).toNat ≤ t157.length from by omega); replace q27 := eq_true q27) | (go_at_call 14; (with_reducible refine (impl_RiseAfter.calls k _ _ y168 t172 _ ?side1 ?side2 A24.out).mono ?_); (case side1 => repeat (first | exact (by repeat (first | (with_reducible exact HR171.out) | (with_reducible refine Kd.C_alloc ?_ _) | (with_reducible refine Kd.C_drewN ?_ _) | (with_reducible refine Kd.C_drew ?_) | exact HR171.out)) | (with_reducible refine Kd.C_alloc ?_ _) | (with_reducible refine Kd.C_drewN ?_ _) | (with_reducible refine Kd.C_drew ?_))); (case side2 => exact HC171.out); rintro e w28 ⟨rfl, hb⟩; have n0_ := Aside0.mk (Kd.R_below (by (with_reducible repeat (first | apply Kd.R_alloc | apply Kd.R_drewN | apply Kd.R_drew)); exact HO159.out) hb); have n1_ := Aside0.mk (Kd.C_below (by repeat (first | (with_reducible exact HR166.out) | (with_reducible refine Kd.C_alloc ?_ _) | (with_reducible refine Kd.C_drewN ?_ _) | (with_reducible refine Kd.C_drew ?_) | exact HR166.out)) hb); have n2_ := Aside0.mk (Kd.C_below (by repeat (first | (with_reducible exact HR171.out) | (with_reducible refine Kd.C_alloc ?_ _) | (with_reducible refine Kd.C_drewN ?_ _) | (with_reducible refine Kd.C_drew ?_) | exact HR171.out)) hb); have n3_ := Aside0.mk (below_step (by repeat (first | (with_reducible first | exact HB.out | apply below_alloc | apply pw_below_drewN | apply below_drew1) | exact HB.out)) hb); clear HO159; clear HR166; clear HR171; clear HB; have HO159 := n0_; have HR166 := n1_; have HR171 := n2_; have HB := n3_; clear n0_ n1_ n2_ n3_; (try clear hb); (try clear hb2); (try clear hk); (try clear hi)))
                        go_meet
                        case rel => exact ⟨_, (decide (t172 ≥ (wrap64 (1 + t161)))), (by first | rfl | (simp; done) | (simp [*]; done)), H', ⟨by first | omega | exact Nat.le_refl _⟩, ⟨by (with_reducible repeat (first | apply Kd.R_alloc | apply Kd.R_drewN | apply Kd.R_drew)); exact HO159.out⟩, ⟨by repeat (first | (with_reducible first | exact HB.out | apply below_alloc | apply pw_below_drewN | apply below_drew1) | exact HB.out)⟩⟩
                      · rw [if_neg c23] at H
                        exact absurd H (by simp)
                    · rw [if_neg c22] at H
                      exact absurd H (by simp)
                · rw [if_neg c19] at H
                  exact absurd H (by simp)
              · rw [if_neg c18] at H
                exact absurd H (by simp)
            · rw [if_neg c16] at H
              have hcx_ : t160 < wrap64 (1 + t161) := by
                have hcy_ := c14b0
                rw [decide_eq_false (show ¬ t162 ≥ 0 from c16)] at hcy_
                by_cases hcz_ : t160 ≥ wrap64 (1 + t161)
                · rw [decide_eq_true hcz_] at hcy_; exact absurd hcy_ (by decide)
                · exact Int.not_le.mp hcz_
              have c14x0 := eq_true hcx_
              have c14x1 : decide (wrap64 (1 + t161) ≤ t160) = false := decide_eq_false (Int.not_le.mpr hcx_)
              have c14x2 := eq_false (Int.not_le.mpr hcx_)
              have c14x3 : decide (t160 < wrap64 (1 + t161)) = true := decide_eq_true hcx_
              have c16b0 : decide (0 ≤ t162) = false := decide_eq_false c16
              clear c16
              have H' := Aside0.mk H
              clear H
              go_wp2
              go_meet
              case rel => exact ⟨_, (false), (by first | rfl | (simp; done) | (simp [*]; done)), H', ⟨by first | omega | exact Nat.le_refl _⟩, ⟨by (with_reducible repeat (first | apply Kd.R_alloc | apply Kd.R_drewN | apply Kd.R_drew)); exact HO159.out⟩, ⟨by repeat (first | (with_reducible first | exact HB.out | apply below_alloc | apply pw_below_drewN | apply below_drew1) | exact HB.out)⟩⟩
    case rest =>
      clear HC8
      try clear c1
      try clear c2
      try clear p2
      try clear q2
      try clear c3
      try clear c5
      try clear p6
      try clear c13
      try clear c13b0
      try clear c14
      try clear c14b0
      try clear c14b1
      try clear c14b2
      try clear c15
      try clear c15b0
      try clear c16
      try clear c16b0
      try clear c17
      try clear c18
      try clear c18b0
      try clear c18b1
      try clear c19
      try clear c19b0
      try clear c19b1
      try clear c20
      try clear c21
      try clear c21b0
      try clear c22
      try clear c22b0
      try clear c22b1
      try clear c23
      try clear c23b0
      try clear c23b1
      try clear q25
      try clear q27
      try clear q25
      try clear q27
      obtain ⟨kq, x61_7, rfl, HA, HJ7, HO_3, HB⟩ := hcut
      cases kq with
      | zero => exact absurd HA.out (by simp [laws_FnRises.j0])
      | succ kj7 =>
        have H := HA.out
        clear HA
        simp only [laws_FnRises.j0] at H
        by_cases c29 : x61_7 = true
        · subst c29
          have H1 : (some false) = some true := by rw [if_pos rfl] at H; exact H
          clear H
          have H := H1
          clear H1
          exact absurd H (by simp)
        · replace c29 := Bool.eq_false_iff.mpr c29
          subst c29
          have H1 : (laws_FnRises.l0 kj7 l0 t157 t160 (wrap64 (1 + t161)) 0 0) = some true := by rw [if_neg (show ¬ (false = true) by decide)] at H; exact H
          clear H
          have H := H1
          clear H1
          have H' := Aside0.mk H
          clear H
          go_wp2
          go_loopg [7, 8] kj7 (fun kq v7 v8 w' => ∃ (x7_2 : Int) (x8_2 : Int), v7 = .int .i64 x7_2 ∧ v8 = .int .i64 x8_2 ∧ Aside0 (laws_FnRises.l0 kq l0 t157 t160 (wrap64 (1 + t161)) x7_2 x8_2 = some true) ∧ Aside0 (kq ≤ kj7) ∧ Aside0 (Kd.R (Kd.int .i64) 3 w' w.heap.size (fun _ => True) (.slice Ao10 t157.length co10) t157) ∧ Aside0 (Below w.heap.size w w'))
          case atStart => exact ⟨(0), (0), (by first | rfl | (simp; done) | (simp [*]; done)), (by first | rfl | (simp; done) | (simp [*]; done)), H', ⟨Nat.le_refl _⟩, ⟨by (with_reducible repeat (first | apply Kd.R_alloc | apply Kd.R_drewN | apply Kd.R_drew)); exact HO_3.out⟩, ⟨by repeat (first | (with_reducible first | exact HB.out | apply below_alloc | apply pw_below_drewN | apply below_drew1) | exact HB.out)⟩⟩
          case round =>
            clear H'
            try clear c1
            try clear c2
            try clear p2
            try clear q2
            try clear c3
            try clear c5
            try clear p6
            try clear c13
            try clear c13b0
            try clear c14
            try clear c14b0
            try clear c14b1
            try clear c14b2
            try clear c15
            try clear c15b0
            try clear c16
            try clear c16b0
            try clear c17
            try clear c18
            try clear c18b0
            try clear c18b1
            try clear c19
            try clear c19b0
            try clear c19b1
            try clear c20
            try clear c21
            try clear c21b0
            try clear c22
            try clear c22b0
            try clear c22b1
            try clear c23
            try clear c23b0
            try clear c23b1
            try clear q25
            try clear q27
            try clear c29
            try clear p2
            try clear p6
            try clear q2
            try clear q25
            try clear q27
            obtain ⟨x7_2, x8_2, rfl, rfl, HA, HK2, HO_3, HB⟩ := hrel
            cases gk with
            | zero => exact absurd HA.out (by simp [laws_FnRises.l0])
            | succ k2 =>
              have H := HA.out
              clear HA
              simp only [laws_FnRises.l0] at H
              by_cases c30 : x8_2 < (t157.length : Int)
              · rw [if_pos c30] at H
                have c30b0 : decide (x8_2 < (t157.length : Int)) = true := decide_eq_true c30
                clear c30
                by_cases c31 : 0 ≤ x8_2
                · rw [if_pos c31] at H
                  have c31b0 : decide (0 ≤ x8_2) = true := decide_eq_true c31
                  clear c31
                  replace H := Option.bind_eq_some_iff.mp H
                  obtain ⟨t174, A320, H⟩ := H
                  replace H : (laws_FnRises.l0 k2 l0 t157 t160 (wrap64 (1 + t161)) (wrap64 (x7_2 + t174)) (wrap64 (x8_2 + 1))) = some true := H
                  have A32 := Aside0.mk A320
                  clear A320
                  have H' := Aside0.mk H
                  clear H
                  have p173 : 0 ≤ (x8_2 : Int) := of_decide_eq_true (by first | (with_reducible assumption) | assumption)
                  have q173 : x8_2 < (t157.length : Int) := of_decide_eq_true (by first | (with_reducible assumption) | assumption)
                  obtain ⟨ad173, e173, hx173_0⟩ := Kd.at_int (Kd.R_reads' HO_3.out).2.2 x8_2 p173 q173
                  cases e173
                  replace p173 := eq_true p173
                  replace q173 := eq_true q173
                  go_wp2_with (first | ((with_reducible refine gate_callee (f := 21) rfl ?_); refine goesL_ (some 73) rfl rfl Try.func21 (by kernel_rfl) rfl #[.int .i64 (rd t157 x8_2)] rfl (by (try simp only [List.map_toArray, List.map_cons, List.map_nil]); first | done | rfl | (simp only [List.length_drop, List.length_take]; rfl)) ?_; (with_reducible refine (impl_SpeedAt.calls k2 (rd t157 x8_2) t174 _ A32.out).mono ?_); rintro e w' ⟨rfl, ⟨nd, rfl⟩⟩; refine ⟨_, rfl, ?_⟩))
                  go_roundg k2
                  case measure => have := HJ7.out; have := HK2.out; omega
                  case rel => exact ⟨(wrap64 (x7_2 + t174)), (wrap64 (x8_2 + 1)), (by first | rfl | (simp; done) | (simp [*]; done)), (by first | rfl | (simp; done) | (simp [*]; done)), H', ⟨by have := HJ7.out; have := HK2.out; omega⟩, ⟨by (with_reducible repeat (first | apply Kd.R_alloc | apply Kd.R_drewN | apply Kd.R_drew)); exact HO_3.out⟩, ⟨by repeat (first | (with_reducible first | exact HB.out | apply below_alloc | apply pw_below_drewN | apply below_drew1) | exact HB.out)⟩⟩
                · rw [if_neg c31] at H
                  exact absurd H (by simp)
              · rw [if_neg c30] at H
                have c30b0 : decide (x8_2 < (t157.length : Int)) = false := decide_eq_false c30
                clear c30
                have H' := Aside0.mk H
                clear H
                go_wp2
                go_loopg [9] k2 (fun kq v9 w' => ∃ (x9_3 : Int), v9 = .int .i64 x9_3 ∧ Aside0 (laws_FnRises.l1 kq l0 t160 (wrap64 (1 + t161)) x7_2 x9_3 = some true) ∧ Aside0 (kq ≤ k2) ∧ Aside0 (Below w.heap.size w w'))
                case atStart => exact ⟨(4), (by first | rfl | (simp; done) | (simp [*]; done)), H', ⟨Nat.le_refl _⟩, ⟨by repeat (first | (with_reducible first | exact HB.out | apply below_alloc | apply pw_below_drewN | apply below_drew1) | exact HB.out)⟩⟩
                case round =>
                  clear H'
                  try clear c1
                  try clear p1
                  try clear q1
                  try clear hx1
                  try clear c2
                  try clear p2
                  try clear q2
                  try clear c3
                  try clear c5
                  try clear p6
                  try clear c13
                  try clear c13b0
                  try clear c14
                  try clear c14b0
                  try clear c14b1
                  try clear c14b2
                  try clear c15
                  try clear c15b0
                  try clear c16
                  try clear c16b0
                  try clear c17
                  try clear p17
                  try clear q17
                  try clear hx17
                  try clear c18
                  try clear c18b0
                  try clear c18b1
                  try clear c19
                  try clear c19b0
                  try clear c19b1
                  try clear c20
                  try clear c21
                  try clear c21b0
                  try clear c22
                  try clear c22b0
                  try clear c22b1
                  try clear c23
                  try clear c23b0
                  try clear c23b1
                  try clear q25
                  try clear q27
                  try clear c29
                  try clear c30
                  try clear c30b0
                  try clear c31
                  try clear c31b0
                  try clear hx173_0
                  try clear p173
                  try clear p2
                  try clear p6
                  try clear q173
                  try clear q2
                  try clear q25
                  try clear q27
                  obtain ⟨x9_3, rfl, HA, HK3, HB⟩ := hrel
                  cases gk with
                  | zero => exact absurd HA.out (by simp [laws_FnRises.l1])
                  | succ k3 =>
                    have H := HA.out
                    clear HA
                    simp only [laws_FnRises.l1] at H
                    by_cases c33 : x9_3 < 34
                    · rw [if_pos c33] at H
                      have c33b0 : decide (x9_3 < 34) = true := decide_eq_true c33
                      clear c33
                      replace H := Option.bind_eq_some_iff.mp H
                      obtain ⟨t175, A340, H⟩ := H
                      replace H : ((impl_SpeedAt.f k3 x9_3).bind fun t176 => (if t175 < t176 then (some false) else ((impl_MinutesAt.f k3 (wrap64 (x9_3 + 1)) (wrap64 (1 + t161))).bind fun t177 => ((impl_MinutesAt.f k3 x9_3 (wrap64 (1 + t161))).bind fun t178 => (if t177 > t178 then (some false) else (laws_FnRises.l1 k3 l0 t160 (wrap64 (1 + t161)) x7_2 (wrap64 (x9_3 + 1)))))))) = some true := H
                      have A34 := Aside0.mk A340
                      clear A340
                      replace H := Option.bind_eq_some_iff.mp H
                      obtain ⟨t176, A350, H⟩ := H
                      replace H : (if t175 < t176 then (some false) else ((impl_MinutesAt.f k3 (wrap64 (x9_3 + 1)) (wrap64 (1 + t161))).bind fun t177 => ((impl_MinutesAt.f k3 x9_3 (wrap64 (1 + t161))).bind fun t178 => (if t177 > t178 then (some false) else (laws_FnRises.l1 k3 l0 t160 (wrap64 (1 + t161)) x7_2 (wrap64 (x9_3 + 1))))))) = some true := H
                      have A35 := Aside0.mk A350
                      clear A350
                      by_cases c36 : t175 < t176
                      · rw [if_pos c36] at H
                        have c36b0 : decide (t175 < t176) = true := decide_eq_true c36
                        clear c36
                        exact absurd H (by simp)
                      · rw [if_neg c36] at H
                        have c36b0 : decide (t175 < t176) = false := decide_eq_false c36
                        clear c36
                        replace H := Option.bind_eq_some_iff.mp H
                        obtain ⟨t177, A370, H⟩ := H
                        replace H : ((impl_MinutesAt.f k3 x9_3 (wrap64 (1 + t161))).bind fun t178 => (if t177 > t178 then (some false) else (laws_FnRises.l1 k3 l0 t160 (wrap64 (1 + t161)) x7_2 (wrap64 (x9_3 + 1))))) = some true := H
                        have A37 := Aside0.mk A370
                        clear A370
                        replace H := Option.bind_eq_some_iff.mp H
                        obtain ⟨t178, A380, H⟩ := H
                        replace H : (if t177 > t178 then (some false) else (laws_FnRises.l1 k3 l0 t160 (wrap64 (1 + t161)) x7_2 (wrap64 (x9_3 + 1)))) = some true := H
                        have A38 := Aside0.mk A380
                        clear A380
                        by_cases c39 : t177 > t178
                        · rw [if_pos c39] at H
                          have c39b0 : decide (t178 < t177) = true := decide_eq_true c39
                          clear c39
                          exact absurd H (by simp)
                        · rw [if_neg c39] at H
                          have c39b0 : decide (t178 < t177) = false := decide_eq_false c39
                          clear c39
                          have H' := Aside0.mk H
                          clear H
                          go_wp2_with (first | ((with_reducible refine gate_callee (f := 21) rfl ?_); refine goesL_ (some 81) rfl rfl Try.func21 (by kernel_rfl) rfl #[.int .i64 (wrap64 (x9_3 + 1))] rfl (by (try simp only [List.map_toArray, List.map_cons, List.map_nil]); first | done | rfl | (simp only [List.length_drop, List.length_take]; rfl)) ?_; (with_reducible refine (impl_SpeedAt.calls k3 (wrap64 (x9_3 + 1)) t175 _ A34.out).mono ?_); rintro e w' ⟨rfl, ⟨nd, rfl⟩⟩; refine ⟨_, rfl, ?_⟩) | ((with_reducible refine gate_callee (f := 21) rfl ?_); refine goesL_ (some 83) rfl rfl Try.func21 (by kernel_rfl) rfl #[.int .i64 x9_3] rfl (by (try simp only [List.map_toArray, List.map_cons, List.map_nil]); first | done | rfl | (simp only [List.length_drop, List.length_take]; rfl)) ?_; (with_reducible refine (impl_SpeedAt.calls k3 x9_3 t176 _ A35.out).mono ?_); rintro e w' ⟨rfl, ⟨nd, rfl⟩⟩; refine ⟨_, rfl, ?_⟩) | (go_at_call 22; (with_reducible refine (impl_MinutesAt.calls k3 (wrap64 (x9_3 + 1)) (wrap64 (1 + t161)) t177 _ A37.out).mono ?_); rintro e w' ⟨rfl, ⟨nd, rfl⟩⟩) | (go_at_call 22; (with_reducible refine (impl_MinutesAt.calls k3 x9_3 (wrap64 (1 + t161)) t178 _ A38.out).mono ?_); rintro e w' ⟨rfl, ⟨nd, rfl⟩⟩))
                          go_roundg k3
                          case measure => have := HJ7.out; have := HK2.out; have := HK3.out; omega
                          case rel => exact ⟨(wrap64 (x9_3 + 1)), (by first | rfl | (simp; done) | (simp [*]; done)), H', ⟨by have := HJ7.out; have := HK2.out; have := HK3.out; omega⟩, ⟨by repeat (first | (with_reducible first | exact HB.out | apply below_alloc | apply pw_below_drewN | apply below_drew1) | exact HB.out)⟩⟩
                    · rw [if_neg c33] at H
                      have c33b0 : decide (x9_3 < 34) = false := decide_eq_false c33
                      clear c33
                      replace H := Option.bind_eq_some_iff.mp H
                      obtain ⟨t179, A400, H⟩ := H
                      replace H : ((impl_CoolestFor.f k3 (wrap64 (1 + t161)) (wrap64 (1 + t179))).bind fun t180 => (if t180 ≥ 0 then ((impl_MinutesAt.f k3 t180 (wrap64 (1 + t161))).bind fun t181 => (if t181 > (wrap64 (1 + t179)) then (laws_FnRises.j3 k3 t160 (wrap64 (1 + t161)) x7_2 true) else (if t180 > 4 then ((impl_MinutesAt.f k3 (wrap64 (t180 - 1)) (wrap64 (1 + t161))).bind fun t182 => (if t182 ≤ (wrap64 (1 + t179)) then (laws_FnRises.j3 k3 t160 (wrap64 (1 + t161)) x7_2 true) else (if t180 < 0 then ((impl_MinutesAt.f k3 34 (wrap64 (1 + t161))).bind fun t183 => (laws_FnRises.j3 k3 t160 (wrap64 (1 + t161)) x7_2 (decide (t183 ≤ (wrap64 (1 + t179)))))) else (laws_FnRises.j3 k3 t160 (wrap64 (1 + t161)) x7_2 false)))) else (if t180 < 0 then ((impl_MinutesAt.f k3 34 (wrap64 (1 + t161))).bind fun t184 => (laws_FnRises.j3 k3 t160 (wrap64 (1 + t161)) x7_2 (decide (t184 ≤ (wrap64 (1 + t179)))))) else (laws_FnRises.j3 k3 t160 (wrap64 (1 + t161)) x7_2 false))))) else (if t180 < 0 then ((impl_MinutesAt.f k3 34 (wrap64 (1 + t161))).bind fun t185 => (laws_FnRises.j3 k3 t160 (wrap64 (1 + t161)) x7_2 (decide (t185 ≤ (wrap64 (1 + t179)))))) else (laws_FnRises.j3 k3 t160 (wrap64 (1 + t161)) x7_2 false)))) = some true := H
                      have A40 := Aside0.mk A400
                      clear A400
                      replace H := Option.bind_eq_some_iff.mp H
                      obtain ⟨t180, A410, H⟩ := H
                      replace H : (if t180 ≥ 0 then ((impl_MinutesAt.f k3 t180 (wrap64 (1 + t161))).bind fun t181 => (if t181 > (wrap64 (1 + t179)) then (laws_FnRises.j3 k3 t160 (wrap64 (1 + t161)) x7_2 true) else (if t180 > 4 then ((impl_MinutesAt.f k3 (wrap64 (t180 - 1)) (wrap64 (1 + t161))).bind fun t182 => (if t182 ≤ (wrap64 (1 + t179)) then (laws_FnRises.j3 k3 t160 (wrap64 (1 + t161)) x7_2 true) else (if t180 < 0 then ((impl_MinutesAt.f k3 34 (wrap64 (1 + t161))).bind fun t183 => (laws_FnRises.j3 k3 t160 (wrap64 (1 + t161)) x7_2 (decide (t183 ≤ (wrap64 (1 + t179)))))) else (laws_FnRises.j3 k3 t160 (wrap64 (1 + t161)) x7_2 false)))) else (if t180 < 0 then ((impl_MinutesAt.f k3 34 (wrap64 (1 + t161))).bind fun t184 => (laws_FnRises.j3 k3 t160 (wrap64 (1 + t161)) x7_2 (decide (t184 ≤ (wrap64 (1 + t179)))))) else (laws_FnRises.j3 k3 t160 (wrap64 (1 + t161)) x7_2 false))))) else (if t180 < 0 then ((impl_MinutesAt.f k3 34 (wrap64 (1 + t161))).bind fun t185 => (laws_FnRises.j3 k3 t160 (wrap64 (1 + t161)) x7_2 (decide (t185 ≤ (wrap64 (1 + t179)))))) else (laws_FnRises.j3 k3 t160 (wrap64 (1 + t161)) x7_2 false))) = some true := H
                      have A41 := Aside0.mk A410
                      clear A410
                      have HC42 := Aside0.mk H
                      clear H
                      go_upto_region 21 with (first | ((with_reducible refine gate_callee (f := 20) rfl ?_); refine goesL_ (some 96) rfl rfl Try.func20 (by kernel_rfl) rfl #[.slice A0 l0.length c0, .int .i64 1] rfl (by (try simp only [List.map_toArray, List.map_cons, List.map_nil]); first | done | rfl | (simp only [List.length_drop, List.length_take]; rfl)) ?_; (with_reducible refine (laws_at.calls _ _ l0 1 t179 _ ?side1 ?side2 A40.out).mono ?_); (case side1 => repeat (first | exact (Kd.C_below HR0.out HB.out) | (with_reducible refine Kd.C_alloc ?_ _) | (with_reducible refine Kd.C_drewN ?_ _) | (with_reducible refine Kd.C_drew ?_))); (case side2 => exact HC0.out); rintro e w' ⟨rfl, ⟨nd, rfl⟩⟩; refine ⟨_, rfl, ?_⟩) | ((with_reducible refine gate_callee (f := 23) rfl ?_); refine goesL_ (some 100) rfl rfl Try.func23 (by kernel_rfl) rfl #[.int .i64 (wrap64 (1 + t161)), .int .i64 (wrap64 (1 + t179))] rfl (by (try simp only [List.map_toArray, List.map_cons, List.map_nil]); first | done | rfl | (simp only [List.length_drop, List.length_take]; rfl)) ?_; (with_reducible refine (impl_CoolestFor.calls k3 (wrap64 (1 + t161)) (wrap64 (1 + t179)) t180 _ A41.out).mono ?_); rintro e w' ⟨rfl, ⟨nd, rfl⟩⟩; refine ⟨_, rfl, ?_⟩))
                      (try simp only [Act.put, List.setIfInBounds_toArray, List.set_cons_zero, List.set_cons_succ])
                      go_cut [131] (fun v131 wc => ∃ (kq : Nat) (x131_41 : Bool), v131 = .bool x131_41 ∧ Aside0 (laws_FnRises.j3 kq t160 (wrap64 (1 + t161)) x7_2 x131_41 = some true) ∧ Aside0 (kq ≤ k3) ∧ Aside0 (Below w.heap.size w wc))
                      case first =>
                        have H := HC42.out
                        clear HC42
                        by_cases c43 : t180 ≥ 0
                        · rw [if_pos c43] at H
                          have c43b0 : decide (0 ≤ t180) = true := decide_eq_true c43
                          clear c43
                          (first | rw [c43b0] | (simp only [i64_w, i32_w]; rw [c43b0]) | skip)
                          replace H := Option.bind_eq_some_iff.mp H
                          obtain ⟨t181, A440, H⟩ := H
                          replace H : (if t181 > (wrap64 (1 + t179)) then (laws_FnRises.j3 k3 t160 (wrap64 (1 + t161)) x7_2 true) else (if t180 > 4 then ((impl_MinutesAt.f k3 (wrap64 (t180 - 1)) (wrap64 (1 + t161))).bind fun t182 => (if t182 ≤ (wrap64 (1 + t179)) then (laws_FnRises.j3 k3 t160 (wrap64 (1 + t161)) x7_2 true) else (if t180 < 0 then ((impl_MinutesAt.f k3 34 (wrap64 (1 + t161))).bind fun t183 => (laws_FnRises.j3 k3 t160 (wrap64 (1 + t161)) x7_2 (decide (t183 ≤ (wrap64 (1 + t179)))))) else (laws_FnRises.j3 k3 t160 (wrap64 (1 + t161)) x7_2 false)))) else (if t180 < 0 then ((impl_MinutesAt.f k3 34 (wrap64 (1 + t161))).bind fun t184 => (laws_FnRises.j3 k3 t160 (wrap64 (1 + t161)) x7_2 (decide (t184 ≤ (wrap64 (1 + t179)))))) else (laws_FnRises.j3 k3 t160 (wrap64 (1 + t161)) x7_2 false)))) = some true := H
                          have A44 := Aside0.mk A440
                          clear A440
                          by_cases c45 : t181 > (wrap64 (1 + t179))
                          · rw [if_pos c45] at H
                            have c45b0 : decide ((wrap64 (1 + t179)) < t181) = true := decide_eq_true c45
                            clear c45
                            exact absurd H (laws_FnRises.j3_no _ _ _)
                          · rw [if_neg c45] at H
                            have c45b0 : decide ((wrap64 (1 + t179)) < t181) = false := decide_eq_false c45
                            clear c45
                            by_cases c46 : t180 > 4
                            · rw [if_pos c46] at H
                              have c46b0 : decide (4 < t180) = true := decide_eq_true c46
                              clear c46
                              replace H := Option.bind_eq_some_iff.mp H
                              obtain ⟨t182, A470, H⟩ := H
                              replace H : (if t182 ≤ (wrap64 (1 + t179)) then (laws_FnRises.j3 k3 t160 (wrap64 (1 + t161)) x7_2 true) else (if t180 < 0 then ((impl_MinutesAt.f k3 34 (wrap64 (1 + t161))).bind fun t183 => (laws_FnRises.j3 k3 t160 (wrap64 (1 + t161)) x7_2 (decide (t183 ≤ (wrap64 (1 + t179)))))) else (laws_FnRises.j3 k3 t160 (wrap64 (1 + t161)) x7_2 false))) = some true := H
                              have A47 := Aside0.mk A470
                              clear A470
                              by_cases c48 : t182 ≤ (wrap64 (1 + t179))
                              · rw [if_pos c48] at H
                                have c48b0 : decide (t182 ≤ (wrap64 (1 + t179))) = true := decide_eq_true c48
                                clear c48
                                exact absurd H (laws_FnRises.j3_no _ _ _)
                              · rw [if_neg c48] at H
                                have c48b0 : decide (t182 ≤ (wrap64 (1 + t179))) = false := decide_eq_false c48
                                clear c48
                                by_cases c49 : t180 < 0
                                · rw [if_pos c49] at H
                                  have c49b0 : decide (t180 < 0) = true := decide_eq_true c49
                                  clear c49
                                  replace H := Option.bind_eq_some_iff.mp H
                                  obtain ⟨t183, A500, H⟩ := H
                                  replace H : (laws_FnRises.j3 k3 t160 (wrap64 (1 + t161)) x7_2 (decide (t183 ≤ (wrap64 (1 + t179))))) = some true := H
                                  have A50 := Aside0.mk A500
                                  clear A500
                                  have H' := Aside0.mk H
                                  clear H
                                  go_wp2_with (first | (go_at_call 22; (with_reducible refine (impl_MinutesAt.calls k3 t180 (wrap64 (1 + t161)) t181 _ A44.out).mono ?_); rintro e w' ⟨rfl, ⟨nd, rfl⟩⟩) | (go_at_call 22; (with_reducible refine (impl_MinutesAt.calls k3 (wrap64 (t180 - 1)) (wrap64 (1 + t161)) t182 _ A47.out).mono ?_); rintro e w' ⟨rfl, ⟨nd, rfl⟩⟩) | (go_at_call 22; (with_reducible refine (impl_MinutesAt.calls k3 34 (wrap64 (1 + t161)) t183 _ A50.out).mono ?_); rintro e w' ⟨rfl, ⟨nd, rfl⟩⟩))
                                  go_meet
                                  case rel => exact ⟨_, (decide (t183 ≤ (wrap64 (1 + t179)))), (by first | rfl | (simp; done) | (simp [*]; done)), H', ⟨by have := HJ7.out; have := HK2.out; have := HK3.out; first | omega | exact Nat.le_refl _⟩, ⟨by repeat (first | (with_reducible first | exact HB.out | apply below_alloc | apply pw_below_drewN | apply below_drew1) | exact HB.out)⟩⟩
                                · rw [if_neg c49] at H
                                  have c49b0 : decide (t180 < 0) = false := decide_eq_false c49
                                  clear c49
                                  have H' := Aside0.mk H
                                  clear H
                                  go_wp2_with (first | (go_at_call 22; (with_reducible refine (impl_MinutesAt.calls k3 t180 (wrap64 (1 + t161)) t181 _ A44.out).mono ?_); rintro e w' ⟨rfl, ⟨nd, rfl⟩⟩) | (go_at_call 22; (with_reducible refine (impl_MinutesAt.calls k3 (wrap64 (t180 - 1)) (wrap64 (1 + t161)) t182 _ A47.out).mono ?_); rintro e w' ⟨rfl, ⟨nd, rfl⟩⟩))
                                  go_meet
                                  case rel => exact ⟨_, (false), (by first | rfl | (simp; done) | (simp [*]; done)), H', ⟨by have := HJ7.out; have := HK2.out; have := HK3.out; first | omega | exact Nat.le_refl _⟩, ⟨by repeat (first | (with_reducible first | exact HB.out | apply below_alloc | apply pw_below_drewN | apply below_drew1) | exact HB.out)⟩⟩
                            · rw [if_neg c46] at H
                              have c46b0 : decide (4 < t180) = false := decide_eq_false c46
                              clear c46
                              by_cases c51 : t180 < 0
                              · rw [if_pos c51] at H
                                have c51b0 : decide (t180 < 0) = true := decide_eq_true c51
                                clear c51
                                replace H := Option.bind_eq_some_iff.mp H
                                obtain ⟨t184, A520, H⟩ := H
                                replace H : (laws_FnRises.j3 k3 t160 (wrap64 (1 + t161)) x7_2 (decide (t184 ≤ (wrap64 (1 + t179))))) = some true := H
                                have A52 := Aside0.mk A520
                                clear A520
                                have H' := Aside0.mk H
                                clear H
                                go_wp2_with (first | (go_at_call 22; (with_reducible refine (impl_MinutesAt.calls k3 t180 (wrap64 (1 + t161)) t181 _ A44.out).mono ?_); rintro e w' ⟨rfl, ⟨nd, rfl⟩⟩) | (go_at_call 22; (with_reducible refine (impl_MinutesAt.calls k3 34 (wrap64 (1 + t161)) t184 _ A52.out).mono ?_); rintro e w' ⟨rfl, ⟨nd, rfl⟩⟩))
                                go_meet
                                case rel => exact ⟨_, (decide (t184 ≤ (wrap64 (1 + t179)))), (by first | rfl | (simp; done) | (simp [*]; done)), H', ⟨by have := HJ7.out; have := HK2.out; have := HK3.out; first | omega | exact Nat.le_refl _⟩, ⟨by repeat (first | (with_reducible first | exact HB.out | apply below_alloc | apply pw_below_drewN | apply below_drew1) | exact HB.out)⟩⟩
                              · rw [if_neg c51] at H
                                have c51b0 : decide (t180 < 0) = false := decide_eq_false c51
                                clear c51
                                have H' := Aside0.mk H
                                clear H
                                go_wp2_with (first | (go_at_call 22; (with_reducible refine (impl_MinutesAt.calls k3 t180 (wrap64 (1 + t161)) t181 _ A44.out).mono ?_); rintro e w' ⟨rfl, ⟨nd, rfl⟩⟩))
                                go_meet
                                case rel => exact ⟨_, (false), (by first | rfl | (simp; done) | (simp [*]; done)), H', ⟨by have := HJ7.out; have := HK2.out; have := HK3.out; first | omega | exact Nat.le_refl _⟩, ⟨by repeat (first | (with_reducible first | exact HB.out | apply below_alloc | apply pw_below_drewN | apply below_drew1) | exact HB.out)⟩⟩
                        · rw [if_neg c43] at H
                          have c43b0 : decide (0 ≤ t180) = false := decide_eq_false c43
                          clear c43
                          (first | rw [c43b0] | (simp only [i64_w, i32_w]; rw [c43b0]) | skip)
                          by_cases c53 : t180 < 0
                          · rw [if_pos c53] at H
                            have c53b0 : decide (t180 < 0) = true := decide_eq_true c53
                            clear c53
                            replace H := Option.bind_eq_some_iff.mp H
                            obtain ⟨t185, A540, H⟩ := H
                            replace H : (laws_FnRises.j3 k3 t160 (wrap64 (1 + t161)) x7_2 (decide (t185 ≤ (wrap64 (1 + t179))))) = some true := H
                            have A54 := Aside0.mk A540
                            clear A540
                            have H' := Aside0.mk H
                            clear H
                            go_wp2_with (first | (go_at_call 22; (with_reducible refine (impl_MinutesAt.calls k3 34 (wrap64 (1 + t161)) t185 _ A54.out).mono ?_); rintro e w' ⟨rfl, ⟨nd, rfl⟩⟩))
                            go_meet
                            case rel => exact ⟨_, (decide (t185 ≤ (wrap64 (1 + t179)))), (by first | rfl | (simp; done) | (simp [*]; done)), H', ⟨by have := HJ7.out; have := HK2.out; have := HK3.out; first | omega | exact Nat.le_refl _⟩, ⟨by repeat (first | (with_reducible first | exact HB.out | apply below_alloc | apply pw_below_drewN | apply below_drew1) | exact HB.out)⟩⟩
                          · rw [if_neg c53] at H
                            have c53b0 : decide (t180 < 0) = false := decide_eq_false c53
                            clear c53
                            have H' := Aside0.mk H
                            clear H
                            go_wp2
                            go_meet
                            case rel => exact ⟨_, (false), (by first | rfl | (simp; done) | (simp [*]; done)), H', ⟨by have := HJ7.out; have := HK2.out; have := HK3.out; first | omega | exact Nat.le_refl _⟩, ⟨by repeat (first | (with_reducible first | exact HB.out | apply below_alloc | apply pw_below_drewN | apply below_drew1) | exact HB.out)⟩⟩
                      case rest =>
                        clear HC42
                        try clear c1
                        try clear p1
                        try clear q1
                        try clear hx1
                        try clear c2
                        try clear p2
                        try clear q2
                        try clear c3
                        try clear c4
                        try clear c5
                        try clear p6
                        try clear c13
                        try clear c13b0
                        try clear c14
                        try clear c14b0
                        try clear c14b1
                        try clear c14b2
                        try clear c15
                        try clear c15b0
                        try clear c16
                        try clear c16b0
                        try clear c17
                        try clear p17
                        try clear q17
                        try clear hx17
                        try clear c18
                        try clear c18b0
                        try clear c18b1
                        try clear c19
                        try clear c19b0
                        try clear c19b1
                        try clear c20
                        try clear c21
                        try clear c21b0
                        try clear c22
                        try clear c22b0
                        try clear c22b1
                        try clear c23
                        try clear c23b0
                        try clear c23b1
                        try clear q25
                        try clear q27
                        try clear c29
                        try clear c30
                        try clear c30b0
                        try clear c31
                        try clear c31b0
                        try clear c33
                        try clear c33b0
                        try clear c36
                        try clear c36b0
                        try clear c39
                        try clear c39b0
                        try clear c43
                        try clear c43b0
                        try clear c45
                        try clear c45b0
                        try clear c46
                        try clear c46b0
                        try clear c48
                        try clear c48b0
                        try clear c49
                        try clear c49b0
                        try clear c51
                        try clear c51b0
                        try clear c53
                        try clear c53b0
                        try clear hx173_0
                        try clear p1
                        try clear p17
                        try clear p173
                        try clear p2
                        try clear p6
                        try clear q1
                        try clear q17
                        try clear q173
                        try clear q2
                        try clear q25
                        try clear q27
                        obtain ⟨kq, x131_41, rfl, HA, HJ41, HB⟩ := hcut
                        cases kq with
                        | zero => exact absurd HA.out (by simp [laws_FnRises.j3])
                        | succ kj41 =>
                          have H := HA.out
                          clear HA
                          simp only [laws_FnRises.j3] at H
                          by_cases c55 : x131_41 = true
                          · subst c55
                            have H1 : (some false) = some true := by rw [if_pos rfl] at H; exact H
                            clear H
                            have H := H1
                            clear H1
                            exact absurd H (by simp)
                          · replace c55 := Bool.eq_false_iff.mpr c55
                            subst c55
                            have H1 : ((impl_MinutesAt.f kj41 24 (wrap64 (1 + t161))).bind fun t186 => (if x7_2 = t160 then (if (wrap64 (t186 * 8)) ≥ (wrap64 (1 + t161)) then (if (wrap64 ((wrap64 (t186 - 1)) * 8)) < (wrap64 (1 + t161)) then ((impl_SpeedAt.f kj41 3).bind fun t187 => (if t187 = 0 then ((impl_SpeedAt.f kj41 35).bind fun t188 => (some (t188 == 0))) else (some false))) else (some false)) else (some false)) else (some false))) = some true := by rw [if_neg (show ¬ (false = true) by decide)] at H; exact H
                            clear H
                            have H := H1
                            clear H1
                            replace H := Option.bind_eq_some_iff.mp H
                            obtain ⟨t186, A560, H⟩ := H
                            replace H : (if x7_2 = t160 then (if (wrap64 (t186 * 8)) ≥ (wrap64 (1 + t161)) then (if (wrap64 ((wrap64 (t186 - 1)) * 8)) < (wrap64 (1 + t161)) then ((impl_SpeedAt.f kj41 3).bind fun t187 => (if t187 = 0 then ((impl_SpeedAt.f kj41 35).bind fun t188 => (some (t188 == 0))) else (some false))) else (some false)) else (some false)) else (some false)) = some true := H
                            have A56 := Aside0.mk A560
                            clear A560
                            by_cases c57 : x7_2 = t160
                            · rw [if_pos c57] at H
                              have c57b0 : (x7_2 == t160) = true := beq_iff_eq.mpr c57
                              have c57b1 : (x7_2 != t160) = false := bne_eq_false_iff_eq.mpr c57
                              clear c57
                              by_cases c58 : (wrap64 (t186 * 8)) ≥ (wrap64 (1 + t161))
                              · rw [if_pos c58] at H
                                have c58b0 : decide ((wrap64 (1 + t161)) ≤ (wrap64 (t186 * 8))) = true := decide_eq_true c58
                                clear c58
                                by_cases c59 : (wrap64 ((wrap64 (t186 - 1)) * 8)) < (wrap64 (1 + t161))
                                · rw [if_pos c59] at H
                                  have c59b0 : decide ((wrap64 ((wrap64 (t186 - 1)) * 8)) < (wrap64 (1 + t161))) = true := decide_eq_true c59
                                  clear c59
                                  replace H := Option.bind_eq_some_iff.mp H
                                  obtain ⟨t187, A600, H⟩ := H
                                  replace H : (if t187 = 0 then ((impl_SpeedAt.f kj41 35).bind fun t188 => (some (t188 == 0))) else (some false)) = some true := H
                                  have A60 := Aside0.mk A600
                                  clear A600
                                  by_cases c61 : t187 = 0
                                  · rw [if_pos c61] at H
                                    have c61b0 : (t187 == 0) = true := beq_iff_eq.mpr c61
                                    have c61b1 : (t187 != 0) = false := bne_eq_false_iff_eq.mpr c61
                                    clear c61
                                    replace H := Option.bind_eq_some_iff.mp H
                                    obtain ⟨t188, A620, H⟩ := H
                                    replace H : (some (t188 == 0)) = some true := H
                                    have A62 := Aside0.mk A620
                                    clear A620
                                    have hT_ := Option.some.inj H
                                    go_wp2_with (first | ((with_reducible refine gate_callee (f := 22) rfl ?_); refine goesL_ (some 133) rfl rfl Try.func22 (by kernel_rfl) rfl #[.int .i64 24, .int .i64 (wrap64 (1 + t161))] rfl (by (try simp only [List.map_toArray, List.map_cons, List.map_nil]); first | done | rfl | (simp only [List.length_drop, List.length_take]; rfl)) ?_; (with_reducible refine (impl_MinutesAt.calls kj41 24 (wrap64 (1 + t161)) t186 _ A56.out).mono ?_); rintro e w' ⟨rfl, ⟨nd, rfl⟩⟩; refine ⟨_, rfl, ?_⟩) | (go_at_call 21; (with_reducible refine (impl_SpeedAt.calls kj41 3 t187 _ A60.out).mono ?_); rintro e w' ⟨rfl, ⟨nd, rfl⟩⟩) | (go_at_call 21; (with_reducible refine (impl_SpeedAt.calls kj41 35 t188 _ A62.out).mono ?_); rintro e w' ⟨rfl, ⟨nd, rfl⟩⟩))
                                    go_ret
                                    exact ⟨by first | rfl | (simp [errW_none, errW_some] <;> rfl) | (simp [*, errW_none, errW_some] <;> rfl), by repeat (first | (with_reducible first | exact HB.out | apply below_alloc | apply pw_below_drewN | apply below_drew1) | exact HB.out)⟩
                                  · rw [if_neg c61] at H
                                    have c61b0 : (t187 == 0) = false := beq_eq_false_iff_ne.mpr c61
                                    have c61b1 : (t187 != 0) = true := bne_iff_ne.mpr c61
                                    exact absurd H (by simp)
                                · rw [if_neg c59] at H
                                  have c59b0 : decide ((wrap64 ((wrap64 (t186 - 1)) * 8)) < (wrap64 (1 + t161))) = false := decide_eq_false c59
                                  clear c59
                                  exact absurd H (by simp)
                              · rw [if_neg c58] at H
                                have c58b0 : decide ((wrap64 (1 + t161)) ≤ (wrap64 (t186 * 8))) = false := decide_eq_false c58
                                clear c58
                                exact absurd H (by simp)
                            · rw [if_neg c57] at H
                              have c57b0 : (x7_2 == t160) = false := beq_eq_false_iff_ne.mpr c57
                              have c57b1 : (x7_2 != t160) = true := bne_iff_ne.mpr c57
                              exact absurd H (by simp)

/-- THE ONE PURE STATEMENT of laws_FnRises: yours. -/
def laws_FnRises.Pure : Prop := ∀ (l0 : List Int), l0.length ≤ maxLen → l0.length * 1 ≤ 140737488351232 → (∀ x ∈ l0, (Lit.int .u8 x).wf = true) → ∃ k, laws_FnRises.f k l0 = some true
theorem laws_FnRises.walk (P : laws_FnRises.Pure) (a0 : Option Addr) (len0 cap0 : Nat) (z0 : List Int) (w : World) (w0 : (a0 = none ∧ len0 = 0 ∧ cap0 = 0 ∧ z0 = []) ∨ ∃ x, a0 = some x ∧ len0 ≤ cap0 ∧ cap0 ≤ maxLen ∧ z0.length = cap0 ∧ (∀ i, i < z0.length → w.cell? (x.add i) = some (.int .u8 (z0.getD i 0))) ∧ ∀ n ∈ z0, (Lit.int .u8 n).wf = true) (y0 : len0 * 1 ≤ 140737488351232) :
    Calls Try.prog 5 #[.slice a0 len0 cap0] w fun e w' => e = .returned (.bool true) ∧ Below w.heap.size w w' := by
  obtain ⟨l0, rfl, hr0, hm0, hw0, hc0⟩ := ReadsInt.ofRowC w0
  obtain ⟨k, h⟩ := P l0 hm0 y0 hw0
  refine (laws_FnRises.calls k _ _ l0 w (Kd.C_of_reads (d := (0 : Int)) (h1 := fun _ => rfl) hr0) hc0 h).mono ?_
  rintro e w' ⟨rfl, hd⟩
  exact ⟨rfl, hd⟩

end Go.Proofs.Ytamdbkilpllfoaa.PFnRises

/- What is proved here: each Go function that the law FnPortions reaches comes to what the plain Lean function beside it says; some by hand, the others as printed over them. No condition is added. -/
import Derived.Test.YtamdbkilpllfoaaPFnPortionsx0
import Derived.Test.YtamdbkilpllfoaaPFnPortionsx1
import Derived.Test.YtamdbkilpllfoaaPFnPortionsx2
namespace Go.Proofs.Ytamdbkilpllfoaa.PFnPortions
open Go.RowKit Go.Proofs.YtamdbkilpllfoaaW.PrintWords Go.Proofs.YtamdbkilpllfoaaW.PrintLast Go.Proofs.YtamdbkilpllfoaaW.PrintMore
attribute [local go_sem] max2_int min2_int max_two min_two max_three min_three max_four min_four   -- for this text's walks alone
set_option linter.unusedVariables false
set_option linter.unusedSimpArgs false

/-! ### laws_FnPortions: function 6 -/
def laws_FnPortions.j0 : Nat → Int → Int → Int → Bool → Int → Int → Option (Bool)
  | 0, _, _, _, _, _, _ => none
  | k + 1, x4, x7, x8, x62, x163000, x163001 => if x62 = true then (some false) else ((impl_DoughForAll.f k (([(⟨x163000, x163001⟩ : S36), (⟨x163000, x163001⟩ : S36)] : List (S36))) (([x7, x8] : List Int))).bind fun t176 => (if t176 = (wrap64 ((wrap64 (x7 + x8)) * x4)) then ((impl_DoughForAll.f k ([] : List (S36)) ([] : List Int)).bind fun t177 => (if t177 = 0 then ((impl_BakedWeight.f x163000 x163001 0).bind fun t178 => (if t178 = 0 then ((impl_LoafOk.f x163000 x163001).bind fun t179 => (if t179 = true then ((impl_BakedWeight.f 500 15 589).bind fun t180 => (some (t180 == 500))) else (some false))) else (some false))) else (some false))) else (some false)))
def laws_FnPortions.f (k : Nat) (l0 : List Int) : Option (Bool) := (laws_big.f l0).bind fun t159 => (if t159 = true then (some true) else ((spec_DrawLoaf.f k l0).bind fun bt160 => ((impl_DoughFor.f k bt160.1 bt160.2).bind fun t163 => ((laws_at.f l0 0).bind fun t164 => ((impl_LoavesFrom.f k bt160.1 bt160.2 (wrap64 (t164 * 20))).bind fun t165 => ((laws_at.f l0 1).bind fun t166 => ((laws_at.f l0 2).bind fun t167 => (if t163 < bt160.1 then (laws_FnPortions.j0 k t163 (Int.tmod t166 50) (Int.tmod t167 50) true bt160.1 bt160.2) else ((impl_BakedWeight.f bt160.1 bt160.2 t163).bind fun t168 => (if t168 < bt160.1 then (laws_FnPortions.j0 k t163 (Int.tmod t166 50) (Int.tmod t167 50) true bt160.1 bt160.2) else ((impl_BakedWeight.f bt160.1 bt160.2 (wrap64 (t163 - 1))).bind fun t169 => (if t169 ≥ bt160.1 then (laws_FnPortions.j0 k t163 (Int.tmod t166 50) (Int.tmod t167 50) true bt160.1 bt160.2) else (if (wrap64 (t165 * t163)) > (wrap64 (t164 * 20)) then (laws_FnPortions.j0 k t163 (Int.tmod t166 50) (Int.tmod t167 50) true bt160.1 bt160.2) else (laws_FnPortions.j0 k t163 (Int.tmod t166 50) (Int.tmod t167 50) (decide ((wrap64 ((wrap64 (t165 + 1)) * t163)) ≤ (wrap64 (t164 * 20)))) bt160.1 bt160.2))))))))))))))
theorem laws_FnPortions.mono_l : ∀ k, (∀ y0 y1 y2 y3 y4 y5, LeO (laws_FnPortions.j0 k y0 y1 y2 y3 y4 y5) (laws_FnPortions.j0 (k + 1) y0 y1 y2 y3 y4 y5))
  | 0 => fun _ _ _ _ _ _ r h => by simp [laws_FnPortions.j0] at h
  | k + 1 => by
    have ih0 := laws_FnPortions.mono_l k
    · intro y0 y1 y2 y3 y4 y5
      unfold laws_FnPortions.j0
      repeat' first
      | (with_reducible exact ih0 _ _ _ _ _ _)
      | (with_reducible exact impl_DoughFor.mono _ _ _)
      | (with_reducible exact impl_DoughForAll.mono _ _ _)
      | (with_reducible exact impl_LoavesFrom.mono _ _ _ _)
      | (with_reducible exact spec_DrawLoaf.mono _ _)
      | (with_reducible exact LeO.refl _)
      | (with_reducible exact LeO.none _)
      | (with_reducible refine LeO.ite ?_ ?_)
      | (with_reducible refine LeO.bind ?_ (fun _ => ?_))
      | exact ih0 _ _ _ _ _ _
      | exact impl_DoughFor.mono _ _ _
      | exact impl_DoughForAll.mono _ _ _
      | exact impl_LoavesFrom.mono _ _ _ _
      | exact spec_DrawLoaf.mono _ _
      | exact LeO.none _
      | refine LeO.ite ?_ ?_
      | refine LeO.bind ?_ (fun _ => ?_)
theorem laws_FnPortions.mono : ∀ a0 k, LeO (laws_FnPortions.f k a0) (laws_FnPortions.f (k + 1) a0) := by
  intro a0 k
  have ih0 := laws_FnPortions.mono_l k
  unfold laws_FnPortions.f
  repeat' first
      | (with_reducible exact ih0 _ _ _ _ _ _)
      | (with_reducible exact impl_DoughFor.mono _ _ _)
      | (with_reducible exact impl_DoughForAll.mono _ _ _)
      | (with_reducible exact impl_LoavesFrom.mono _ _ _ _)
      | (with_reducible exact spec_DrawLoaf.mono _ _)
      | (with_reducible exact LeO.refl _)
      | (with_reducible exact LeO.none _)
      | (with_reducible refine LeO.ite ?_ ?_)
      | (with_reducible refine LeO.bind ?_ (fun _ => ?_))
      | exact ih0 _ _ _ _ _ _
      | exact impl_DoughFor.mono _ _ _
      | exact impl_DoughForAll.mono _ _ _
      | exact impl_LoavesFrom.mono _ _ _ _
      | exact spec_DrawLoaf.mono _ _
      | exact LeO.none _
      | refine LeO.ite ?_ ?_
      | refine LeO.bind ?_ (fun _ => ?_)
def laws_FnPortions.T9 : Bool × List (List Nat × List Nat) := (true, [([], []), ([], []), ([1], [1]), ([0, 2], [0, 2]), ([3], [3]), ([4], [4]), ([4], [4]), ([5, 6, 4, 4], [4, 5, 6]), ([4], [4]), ([8, 4], [4, 8]), ([7, 9, 4], [4, 7, 9]), ([4, 10], [4, 10]), ([11, 7], [11]), ([12], [12]), ([12], [12]), ([14, 12], [12, 14]), ([13, 15, 12, 12], [12, 13, 15]), ([12], [12]), ([17, 12], [12, 17]), ([16, 18, 12], [12, 16, 18]), ([12, 19], [12, 19]), ([20, 16], [20]), ([21], [21]), ([21], [21]), ([22, 23, 21], [21, 22, 23]), ([21], [21]), ([24, 25, 21], [21, 24, 25]), ([21, 26], [21, 26]), ([27, 21], [27]), ([28], [28]), ([29, 28], [28, 29]), ([28], [28]), ([30, 31, 28], [28, 30, 31]), ([28], [28]), ([32, 33, 28], [28, 32, 33]), ([28, 34], [28, 34])])
def laws_FnPortions.B9 : List Nat := [0, 0, 2, 7, 15, 31, 31, 127, 31, 287, 1023, 2047, 4095, 8191, 8191, 24575, 65535, 8191, 139263, 524287, 1048575, 2097151, 4194303, 4194303, 16777215, 4194303, 67108863, 134217727, 268435455, 536870911, 1073741823, 536870911, 4294967295, 536870911, 17179869183, 34359738367]
theorem laws_FnPortions.tab9 : rtab .any (opsOf Try.f6 9) = laws_FnPortions.T9 := by kernel_rfl
theorem laws_FnPortions.bits9 : waitsOk laws_FnPortions.T9.2 laws_FnPortions.B9 = true := by kernel_rfl
theorem laws_FnPortions.j0_no {k : Nat} v0 v1 v2 v4 v5 : ¬ laws_FnPortions.j0 k v0 v1 v2 true v4 v5 = some true := by
  cases k with
  | zero => intro h; simp [laws_FnPortions.j0] at h
  | succ k => intro h; simp [laws_FnPortions.j0] at h
set_option maxHeartbeats 8000000 in
set_option maxRecDepth 100000 in
theorem laws_FnPortions.calls (k : Nat) (A0 : Option Addr) (c0 : Nat) (l0 : List Int) (w : World) (hr0 : Kd.C (Kd.int .u8) w A0 l0.length l0) (hc0 : l0.length ≤ c0) (h : laws_FnPortions.f k l0 = some true) :
    Calls Try.prog 6 #[.slice A0 l0.length c0] w fun e w' => e = .returned (.bool true) ∧ Below w.heap.size w w' := by
  have hu36 := Try.underlying36
  have HR0 := Aside0.mk hr0
  have HC0 := Aside0.mk hc0
  clear hr0 hc0
  have HB := Aside0.mk (Below.refl w.heap.size w)
  have H : ((laws_big.f l0).bind fun t159 => (if t159 = true then (some true) else ((spec_DrawLoaf.f k l0).bind fun bt160 => ((impl_DoughFor.f k bt160.1 bt160.2).bind fun t163 => ((laws_at.f l0 0).bind fun t164 => ((impl_LoavesFrom.f k bt160.1 bt160.2 (wrap64 (t164 * 20))).bind fun t165 => ((laws_at.f l0 1).bind fun t166 => ((laws_at.f l0 2).bind fun t167 => (if t163 < bt160.1 then (laws_FnPortions.j0 k t163 (Int.tmod t166 50) (Int.tmod t167 50) true bt160.1 bt160.2) else ((impl_BakedWeight.f bt160.1 bt160.2 t163).bind fun t168 => (if t168 < bt160.1 then (laws_FnPortions.j0 k t163 (Int.tmod t166 50) (Int.tmod t167 50) true bt160.1 bt160.2) else ((impl_BakedWeight.f bt160.1 bt160.2 (wrap64 (t163 - 1))).bind fun t169 => (if t169 ≥ bt160.1 then (laws_FnPortions.j0 k t163 (Int.tmod t166 50) (Int.tmod t167 50) true bt160.1 bt160.2) else (if (wrap64 (t165 * t163)) > (wrap64 (t164 * 20)) then (laws_FnPortions.j0 k t163 (Int.tmod t166 50) (Int.tmod t167 50) true bt160.1 bt160.2) else (laws_FnPortions.j0 k t163 (Int.tmod t166 50) (Int.tmod t167 50) (decide ((wrap64 ((wrap64 (t165 + 1)) * t163)) ≤ (wrap64 (t164 * 20)))) bt160.1 bt160.2))))))))))))))) = some true := h
  clear h
  replace H := Option.bind_eq_some_iff.mp H
  obtain ⟨t159, A20, H⟩ := H
  replace H : (if t159 = true then (some true) else ((spec_DrawLoaf.f k l0).bind fun bt160 => ((impl_DoughFor.f k bt160.1 bt160.2).bind fun t163 => ((laws_at.f l0 0).bind fun t164 => ((impl_LoavesFrom.f k bt160.1 bt160.2 (wrap64 (t164 * 20))).bind fun t165 => ((laws_at.f l0 1).bind fun t166 => ((laws_at.f l0 2).bind fun t167 => (if t163 < bt160.1 then (laws_FnPortions.j0 k t163 (Int.tmod t166 50) (Int.tmod t167 50) true bt160.1 bt160.2) else ((impl_BakedWeight.f bt160.1 bt160.2 t163).bind fun t168 => (if t168 < bt160.1 then (laws_FnPortions.j0 k t163 (Int.tmod t166 50) (Int.tmod t167 50) true bt160.1 bt160.2) else ((impl_BakedWeight.f bt160.1 bt160.2 (wrap64 (t163 - 1))).bind fun t169 => (if t169 ≥ bt160.1 then (laws_FnPortions.j0 k t163 (Int.tmod t166 50) (Int.tmod t167 50) true bt160.1 bt160.2) else (if (wrap64 (t165 * t163)) > (wrap64 (t164 * 20)) then (laws_FnPortions.j0 k t163 (Int.tmod t166 50) (Int.tmod t167 50) true bt160.1 bt160.2) else (laws_FnPortions.j0 k t163 (Int.tmod t166 50) (Int.tmod t167 50) (decide ((wrap64 ((wrap64 (t165 + 1)) * t163)) ≤ (wrap64 (t164 * 20)))) bt160.1 bt160.2)))))))))))))) = some true := H
  have A2 := Aside0.mk A20
  clear A20
  by_cases c3 : t159 = true
  · subst c3
    have H1 : (some true) = some true := rfl
    clear H
    have H := H1
    clear H1
    have hT_ := Option.some.inj H
    go_enter Try.func6, Try.ntmps6
    go_wp2_with (first | ((with_reducible refine gate_callee (f := 18) rfl ?_); refine goesL_ (some 10) rfl rfl Try.func18 (by kernel_rfl) rfl #[.slice A0 l0.length c0] rfl (by (try simp only [List.map_toArray, List.map_cons, List.map_nil]); first | done | rfl | (simp only [List.length_drop, List.length_take]; rfl)) ?_; (with_reducible refine (laws_big.calls _ _ l0 true _ ?side1 ?side2 A2.out).mono ?_); (case side1 => repeat (first | exact HR0.out | (with_reducible refine Kd.C_alloc ?_ _) | (with_reducible refine Kd.C_drewN ?_ _) | (with_reducible refine Kd.C_drew ?_))); (case side2 => exact HC0.out); rintro e w' ⟨rfl, ⟨nd, rfl⟩⟩; refine ⟨_, rfl, ?_⟩))
    go_ret
    exact ⟨by first | rfl | (simp [errW_none, errW_some] <;> rfl) | (simp [*, errW_none, errW_some] <;> rfl), by repeat (first | (with_reducible first | exact HB.out | apply below_alloc | apply pw_below_drewN | apply below_drew1) | exact HB.out)⟩
  · replace c3 := Bool.eq_false_iff.mpr c3
    subst c3
    have H1 : ((spec_DrawLoaf.f k l0).bind fun bt160 => ((impl_DoughFor.f k bt160.1 bt160.2).bind fun t163 => ((laws_at.f l0 0).bind fun t164 => ((impl_LoavesFrom.f k bt160.1 bt160.2 (wrap64 (t164 * 20))).bind fun t165 => ((laws_at.f l0 1).bind fun t166 => ((laws_at.f l0 2).bind fun t167 => (if t163 < bt160.1 then (laws_FnPortions.j0 k t163 (Int.tmod t166 50) (Int.tmod t167 50) true bt160.1 bt160.2) else ((impl_BakedWeight.f bt160.1 bt160.2 t163).bind fun t168 => (if t168 < bt160.1 then (laws_FnPortions.j0 k t163 (Int.tmod t166 50) (Int.tmod t167 50) true bt160.1 bt160.2) else ((impl_BakedWeight.f bt160.1 bt160.2 (wrap64 (t163 - 1))).bind fun t169 => (if t169 ≥ bt160.1 then (laws_FnPortions.j0 k t163 (Int.tmod t166 50) (Int.tmod t167 50) true bt160.1 bt160.2) else (if (wrap64 (t165 * t163)) > (wrap64 (t164 * 20)) then (laws_FnPortions.j0 k t163 (Int.tmod t166 50) (Int.tmod t167 50) true bt160.1 bt160.2) else (laws_FnPortions.j0 k t163 (Int.tmod t166 50) (Int.tmod t167 50) (decide ((wrap64 ((wrap64 (t165 + 1)) * t163)) ≤ (wrap64 (t164 * 20)))) bt160.1 bt160.2))))))))))))) = some true := by rw [if_neg (show ¬ (false = true) by decide)] at H; exact H
    clear H
    have H := H1
    clear H1
    replace H := Option.bind_eq_some_iff.mp H
    obtain ⟨⟨t160, t161⟩, A40, H⟩ := H
    replace H : ((impl_DoughFor.f k t160 t161).bind fun t163 => ((laws_at.f l0 0).bind fun t164 => ((impl_LoavesFrom.f k t160 t161 (wrap64 (t164 * 20))).bind fun t165 => ((laws_at.f l0 1).bind fun t166 => ((laws_at.f l0 2).bind fun t167 => (if t163 < t160 then (laws_FnPortions.j0 k t163 (Int.tmod t166 50) (Int.tmod t167 50) true t160 t161) else ((impl_BakedWeight.f t160 t161 t163).bind fun t168 => (if t168 < t160 then (laws_FnPortions.j0 k t163 (Int.tmod t166 50) (Int.tmod t167 50) true t160 t161) else ((impl_BakedWeight.f t160 t161 (wrap64 (t163 - 1))).bind fun t169 => (if t169 ≥ t160 then (laws_FnPortions.j0 k t163 (Int.tmod t166 50) (Int.tmod t167 50) true t160 t161) else (if (wrap64 (t165 * t163)) > (wrap64 (t164 * 20)) then (laws_FnPortions.j0 k t163 (Int.tmod t166 50) (Int.tmod t167 50) true t160 t161) else (laws_FnPortions.j0 k t163 (Int.tmod t166 50) (Int.tmod t167 50) (decide ((wrap64 ((wrap64 (t165 + 1)) * t163)) ≤ (wrap64 (t164 * 20)))) t160 t161)))))))))))) = some true := H
    have A4 := Aside0.mk A40
    clear A40
    replace H := Option.bind_eq_some_iff.mp H
    obtain ⟨t163, A50, H⟩ := H
    replace H : ((laws_at.f l0 0).bind fun t164 => ((impl_LoavesFrom.f k t160 t161 (wrap64 (t164 * 20))).bind fun t165 => ((laws_at.f l0 1).bind fun t166 => ((laws_at.f l0 2).bind fun t167 => (if t163 < t160 then (laws_FnPortions.j0 k t163 (Int.tmod t166 50) (Int.tmod t167 50) true t160 t161) else ((impl_BakedWeight.f t160 t161 t163).bind fun t168 => (if t168 < t160 then (laws_FnPortions.j0 k t163 (Int.tmod t166 50) (Int.tmod t167 50) true t160 t161) else ((impl_BakedWeight.f t160 t161 (wrap64 (t163 - 1))).bind fun t169 => (if t169 ≥ t160 then (laws_FnPortions.j0 k t163 (Int.tmod t166 50) (Int.tmod t167 50) true t160 t161) else (if (wrap64 (t165 * t163)) > (wrap64 (t164 * 20)) then (laws_FnPortions.j0 k t163 (Int.tmod t166 50) (Int.tmod t167 50) true t160 t161) else (laws_FnPortions.j0 k t163 (Int.tmod t166 50) (Int.tmod t167 50) (decide ((wrap64 ((wrap64 (t165 + 1)) * t163)) ≤ (wrap64 (t164 * 20)))) t160 t161))))))))))) = some true := H
    have A5 := Aside0.mk A50
    clear A50
    replace H := Option.bind_eq_some_iff.mp H
    obtain ⟨t164, A60, H⟩ := H
    replace H : ((impl_LoavesFrom.f k t160 t161 (wrap64 (t164 * 20))).bind fun t165 => ((laws_at.f l0 1).bind fun t166 => ((laws_at.f l0 2).bind fun t167 => (if t163 < t160 then (laws_FnPortions.j0 k t163 (Int.tmod t166 50) (Int.tmod t167 50) true t160 t161) else ((impl_BakedWeight.f t160 t161 t163).bind fun t168 => (if t168 < t160 then (laws_FnPortions.j0 k t163 (Int.tmod t166 50) (Int.tmod t167 50) true t160 t161) else ((impl_BakedWeight.f t160 t161 (wrap64 (t163 - 1))).bind fun t169 => (if t169 ≥ t160 then (laws_FnPortions.j0 k t163 (Int.tmod t166 50) (Int.tmod t167 50) true t160 t161) else (if (wrap64 (t165 * t163)) > (wrap64 (t164 * 20)) then (laws_FnPortions.j0 k t163 (Int.tmod t166 50) (Int.tmod t167 50) true t160 t161) else (laws_FnPortions.j0 k t163 (Int.tmod t166 50) (Int.tmod t167 50) (decide ((wrap64 ((wrap64 (t165 + 1)) * t163)) ≤ (wrap64 (t164 * 20)))) t160 t161)))))))))) = some true := H
    have A6 := Aside0.mk A60
    clear A60
    replace H := Option.bind_eq_some_iff.mp H
    obtain ⟨t165, A70, H⟩ := H
    replace H : ((laws_at.f l0 1).bind fun t166 => ((laws_at.f l0 2).bind fun t167 => (if t163 < t160 then (laws_FnPortions.j0 k t163 (Int.tmod t166 50) (Int.tmod t167 50) true t160 t161) else ((impl_BakedWeight.f t160 t161 t163).bind fun t168 => (if t168 < t160 then (laws_FnPortions.j0 k t163 (Int.tmod t166 50) (Int.tmod t167 50) true t160 t161) else ((impl_BakedWeight.f t160 t161 (wrap64 (t163 - 1))).bind fun t169 => (if t169 ≥ t160 then (laws_FnPortions.j0 k t163 (Int.tmod t166 50) (Int.tmod t167 50) true t160 t161) else (if (wrap64 (t165 * t163)) > (wrap64 (t164 * 20)) then (laws_FnPortions.j0 k t163 (Int.tmod t166 50) (Int.tmod t167 50) true t160 t161) else (laws_FnPortions.j0 k t163 (Int.tmod t166 50) (Int.tmod t167 50) (decide ((wrap64 ((wrap64 (t165 + 1)) * t163)) ≤ (wrap64 (t164 * 20)))) t160 t161))))))))) = some true := H
    have A7 := Aside0.mk A70
    clear A70
    replace H := Option.bind_eq_some_iff.mp H
    obtain ⟨t166, A80, H⟩ := H
    replace H : ((laws_at.f l0 2).bind fun t167 => (if t163 < t160 then (laws_FnPortions.j0 k t163 (Int.tmod t166 50) (Int.tmod t167 50) true t160 t161) else ((impl_BakedWeight.f t160 t161 t163).bind fun t168 => (if t168 < t160 then (laws_FnPortions.j0 k t163 (Int.tmod t166 50) (Int.tmod t167 50) true t160 t161) else ((impl_BakedWeight.f t160 t161 (wrap64 (t163 - 1))).bind fun t169 => (if t169 ≥ t160 then (laws_FnPortions.j0 k t163 (Int.tmod t166 50) (Int.tmod t167 50) true t160 t161) else (if (wrap64 (t165 * t163)) > (wrap64 (t164 * 20)) then (laws_FnPortions.j0 k t163 (Int.tmod t166 50) (Int.tmod t167 50) true t160 t161) else (laws_FnPortions.j0 k t163 (Int.tmod t166 50) (Int.tmod t167 50) (decide ((wrap64 ((wrap64 (t165 + 1)) * t163)) ≤ (wrap64 (t164 * 20)))) t160 t161)))))))) = some true := H
    have A8 := Aside0.mk A80
    clear A80
    replace H := Option.bind_eq_some_iff.mp H
    obtain ⟨t167, A90, H⟩ := H
    replace H : (if t163 < t160 then (laws_FnPortions.j0 k t163 (Int.tmod t166 50) (Int.tmod t167 50) true t160 t161) else ((impl_BakedWeight.f t160 t161 t163).bind fun t168 => (if t168 < t160 then (laws_FnPortions.j0 k t163 (Int.tmod t166 50) (Int.tmod t167 50) true t160 t161) else ((impl_BakedWeight.f t160 t161 (wrap64 (t163 - 1))).bind fun t169 => (if t169 ≥ t160 then (laws_FnPortions.j0 k t163 (Int.tmod t166 50) (Int.tmod t167 50) true t160 t161) else (if (wrap64 (t165 * t163)) > (wrap64 (t164 * 20)) then (laws_FnPortions.j0 k t163 (Int.tmod t166 50) (Int.tmod t167 50) true t160 t161) else (laws_FnPortions.j0 k t163 (Int.tmod t166 50) (Int.tmod t167 50) (decide ((wrap64 ((wrap64 (t165 + 1)) * t163)) ≤ (wrap64 (t164 * 20)))) t160 t161))))))) = some true := H
    have A9 := Aside0.mk A90
    clear A90
    have HC10 := Aside0.mk H
    clear H
    go_enter Try.func6, Try.ntmps6
    go_upto_region 9 with (first | ((with_reducible refine gate_callee (f := 18) rfl ?_); refine goesL_ (some 10) rfl rfl Try.func18 (by kernel_rfl) rfl #[.slice A0 l0.length c0] rfl (by (try simp only [List.map_toArray, List.map_cons, List.map_nil]); first | done | rfl | (simp only [List.length_drop, List.length_take]; rfl)) ?_; (with_reducible refine (laws_big.calls _ _ l0 false _ ?side1 ?side2 A2.out).mono ?_); (case side1 => repeat (first | exact HR0.out | (with_reducible refine Kd.C_alloc ?_ _) | (with_reducible refine Kd.C_drewN ?_ _) | (with_reducible refine Kd.C_drew ?_))); (case side2 => exact HC0.out); rintro e w' ⟨rfl, ⟨nd, rfl⟩⟩; refine ⟨_, rfl, ?_⟩) | ((with_reducible refine gate_callee (f := 24) rfl ?_); refine goesL_ (some 12) rfl rfl Try.func24 (by kernel_rfl) rfl #[.slice A0 l0.length c0] rfl (by (try simp only [List.map_toArray, List.map_cons, List.map_nil]); first | done | rfl | (simp only [List.length_drop, List.length_take]; rfl)) ?_; (with_reducible refine (spec_DrawLoaf.calls k _ _ l0 t160 t161 _ ?side1 ?side2 A4.out).mono ?_); (case side1 => repeat (first | exact HR0.out | (with_reducible refine Kd.C_alloc ?_ _) | (with_reducible refine Kd.C_drewN ?_ _) | (with_reducible refine Kd.C_drew ?_))); (case side2 => exact HC0.out); rintro e w11 ⟨rfl, hb⟩; refine ⟨_, rfl, ?_⟩; have n0_ := Aside0.mk (below_step (by repeat (first | (with_reducible first | exact HB.out | apply below_alloc | apply pw_below_drewN | apply below_drew1) | exact HB.out)) hb); clear HB; have HB := n0_; clear n0_; (try clear hb); (try clear hb2); (try clear hk); (try clear hi)) | ((with_reducible refine gate_dst (N := 3) rfl ?_); refine box_event ?hg (N := 3) ?hd (cs := #[.int .i64 0, .int .i64 0]) (t := 36) ?hr ?_; (case hd => rfl); (case hg => rfl); (case hr => first | (go_simp; done) | (go_simp; rfl)); intro gb162 hg w12 hbox hb; have n0_ := Aside0.mk (below_step (by repeat (first | (with_reducible first | exact HB.out | apply below_alloc | apply pw_below_drewN | apply below_drew1) | exact HB.out)) hb); have n1_ := Aside0.mk (hbox); have n2_ := Aside0.mk ((by rw [hg]; exact (below_size (by repeat (first | (with_reducible first | exact HB.out | apply below_alloc | apply pw_below_drewN | apply below_drew1) | exact HB.out))) : w.heap.size ≤ gb162)); have n3_ := Aside0.mk ((by rw [hg]; exact (below_size (by repeat (first | (with_reducible first | exact HB.out | apply below_alloc | apply pw_below_drewN | apply below_drew1) | exact HB.out))) : w.heap.size ≤ gb162)); clear HB; have HB := n0_; have BK162 := n1_; have GW162 := n2_; have GE162 := n3_; clear n0_ n1_ n2_ n3_; clear hb hbox hg; have hcz13_0 : w12.cell? ⟨gb162, 0, none⟩ = some (.int .i64 0) := (blk_cell BK162.out 0).trans rfl; have hcz13_1 : w12.cell? ⟨gb162, 1, none⟩ = some (.int .i64 0) := (blk_cell BK162.out 1).trans rfl; have hfz13_0 := blk_frozen BK162.out 0; have hfz13_1 := blk_frozen BK162.out 1) | ((with_reducible refine gate_callee (f := 25) rfl ?_); refine goesL_ (some 14) rfl rfl Try.func25 (by kernel_rfl) rfl #[.agg #[.int .i64 t160, .int .i64 t161]] rfl (by (try simp only [List.map_toArray, List.map_cons, List.map_nil]); first | done | rfl | (simp only [List.length_drop, List.length_take]; rfl)) ?_; (with_reducible refine (impl_DoughFor.calls k t160 t161 t163 _ A5.out).mono ?_); rintro e w14 ⟨rfl, hb⟩; refine ⟨_, rfl, ?_⟩; have n0_ := Aside0.mk (blk_below (g := gb162) (o := .cells #[.int .i64 t160, .int .i64 t161] 36 (0, 0)) (by (with_reducible repeat (first | refine blk_drewN ?_ _ | refine blk_drew ?_ | refine blk_alloc ?_ _)); refine blk_put (cs := #[.int .i64 t160, .int .i64 0]) ?_ 1 _ rfl; (with_reducible repeat (first | refine blk_drewN ?_ _ | refine blk_drew ?_ | refine blk_alloc ?_ _)); refine blk_put (cs := #[.int .i64 0, .int .i64 0]) ?_ 0 _ rfl; (with_reducible repeat (first | refine blk_drewN ?_ _ | refine blk_drew ?_ | refine blk_alloc ?_ _)); exact BK162.out) hb); have n1_ := Aside0.mk (below_step (by repeat (first | (with_reducible first | exact HB.out | apply below_alloc | apply pw_below_drewN | apply below_drew1 | refine below_set ?_ GE162.out) | exact HB.out)) hb); clear BK162; clear HB; have BK162 := n0_; have HB := n1_; clear n0_ n1_; (try clear hb); (try clear hb2); (try clear hk); (try clear hi)) | ((with_reducible refine gate_callee (f := 20) rfl ?_); refine goesL_ (some 16) rfl rfl Try.func20 (by kernel_rfl) rfl #[.slice A0 l0.length c0, .int .i64 0] rfl (by (try simp only [List.map_toArray, List.map_cons, List.map_nil]); first | done | rfl | (simp only [List.length_drop, List.length_take]; rfl)) ?_; (with_reducible refine (laws_at.calls _ _ l0 0 t164 _ ?side1 ?side2 A6.out).mono ?_); (case side1 => repeat (first | exact (Kd.C_below HR0.out HB.out) | (with_reducible refine Kd.C_alloc ?_ _) | (with_reducible refine Kd.C_drewN ?_ _) | (with_reducible refine Kd.C_drew ?_))); (case side2 => exact HC0.out); rintro e w' ⟨rfl, ⟨nd, rfl⟩⟩; refine ⟨_, rfl, ?_⟩; have hcz15_0 : w14.cell? ⟨gb162, 0, none⟩ = some (.int .i64 t160) := (blk_cell BK162.out 0).trans rfl; have hcz15_1 : w14.cell? ⟨gb162, 1, none⟩ = some (.int .i64 t161) := (blk_cell BK162.out 1).trans rfl; have hfz15_0 := blk_frozen BK162.out 0; have hfz15_1 := blk_frozen BK162.out 1) | ((with_reducible refine gate_callee (f := 26) rfl ?_); refine goesL_ (some 20) rfl rfl Try.func26 (by kernel_rfl) rfl #[.agg #[.int .i64 t160, .int .i64 t161], .int .i64 (wrap64 (t164 * 20))] rfl (by (try simp only [List.map_toArray, List.map_cons, List.map_nil]); first | done | rfl | (simp only [List.length_drop, List.length_take]; rfl)) ?_; (with_reducible refine (impl_LoavesFrom.calls k t160 t161 (wrap64 (t164 * 20)) t165 _ A7.out).mono ?_); rintro e w16 ⟨rfl, hb⟩; refine ⟨_, rfl, ?_⟩; have n0_ := Aside0.mk (blk_below (g := gb162) (o := .cells #[.int .i64 t160, .int .i64 t161] 36 (0, 0)) (by (with_reducible repeat (first | refine blk_drewN ?_ _ | refine blk_drew ?_ | refine blk_alloc ?_ _)); exact BK162.out) hb); have n1_ := Aside0.mk (below_step (by repeat (first | (with_reducible first | exact HB.out | apply below_alloc | apply pw_below_drewN | apply below_drew1 | refine below_set ?_ GE162.out) | exact HB.out)) hb); clear BK162; clear HB; have BK162 := n0_; have HB := n1_; clear n0_ n1_; (try clear hb); (try clear hb2); (try clear hk); (try clear hi)) | ((with_reducible refine gate_callee (f := 20) rfl ?_); refine goesL_ (some 22) rfl rfl Try.func20 (by kernel_rfl) rfl #[.slice A0 l0.length c0, .int .i64 1] rfl (by (try simp only [List.map_toArray, List.map_cons, List.map_nil]); first | done | rfl | (simp only [List.length_drop, List.length_take]; rfl)) ?_; (with_reducible refine (laws_at.calls _ _ l0 1 t166 _ ?side1 ?side2 A8.out).mono ?_); (case side1 => repeat (first | exact (Kd.C_below HR0.out HB.out) | (with_reducible refine Kd.C_alloc ?_ _) | (with_reducible refine Kd.C_drewN ?_ _) | (with_reducible refine Kd.C_drew ?_))); (case side2 => exact HC0.out); rintro e w' ⟨rfl, ⟨nd, rfl⟩⟩; refine ⟨_, rfl, ?_⟩) | ((with_reducible refine gate_callee (f := 20) rfl ?_); refine goesL_ (some 25) rfl rfl Try.func20 (by kernel_rfl) rfl #[.slice A0 l0.length c0, .int .i64 2] rfl (by (try simp only [List.map_toArray, List.map_cons, List.map_nil]); first | done | rfl | (simp only [List.length_drop, List.length_take]; rfl)) ?_; (with_reducible refine (laws_at.calls _ _ l0 2 t167 _ ?side1 ?side2 A9.out).mono ?_); (case side1 => repeat (first | exact (Kd.C_below HR0.out (by repeat (first | (with_reducible first | exact HB.out | apply below_alloc | apply pw_below_drewN | apply below_drew1 | refine below_set ?_ GE162.out) | exact HB.out))) | (with_reducible refine Kd.C_alloc ?_ _) | (with_reducible refine Kd.C_drewN ?_ _) | (with_reducible refine Kd.C_drew ?_))); (case side2 => exact HC0.out); rintro e w' ⟨rfl, ⟨nd, rfl⟩⟩; refine ⟨_, rfl, ?_⟩))
    (try simp only [Act.put, List.setIfInBounds_toArray, List.set_cons_zero, List.set_cons_succ])
    go_cut [62] (fun v62 wc => ∃ (kq : Nat) (x62_9 : Bool), v62 = .bool x62_9 ∧ Aside0 (laws_FnPortions.j0 kq t163 (Int.tmod t166 50) (Int.tmod t167 50) x62_9 t160 t161 = some true) ∧ Aside0 (kq ≤ k) ∧ Aside0 (wc.heap[gb162]? = some (.cells #[.int .i64 t160, .int .i64 t161] 36 (0, 0))) ∧ Aside0 (Below w.heap.size w wc))
    case first =>
      have H := HC10.out
      clear HC10
      by_cases c17 : t163 < t160
      · rw [if_pos c17] at H
        have c17b0 : decide (t163 < t160) = true := decide_eq_true c17
        clear c17
        (first | rw [c17b0] | (simp only [i64_w, i32_w]; rw [c17b0]) | skip)
        exact absurd H (laws_FnPortions.j0_no _ _ _ _ _)
      · rw [if_neg c17] at H
        have c17b0 : decide (t163 < t160) = false := decide_eq_false c17
        clear c17
        (first | rw [c17b0] | (simp only [i64_w, i32_w]; rw [c17b0]) | skip)
        replace H := Option.bind_eq_some_iff.mp H
        obtain ⟨t168, A180, H⟩ := H
        replace H : (if t168 < t160 then (laws_FnPortions.j0 k t163 (Int.tmod t166 50) (Int.tmod t167 50) true t160 t161) else ((impl_BakedWeight.f t160 t161 (wrap64 (t163 - 1))).bind fun t169 => (if t169 ≥ t160 then (laws_FnPortions.j0 k t163 (Int.tmod t166 50) (Int.tmod t167 50) true t160 t161) else (if (wrap64 (t165 * t163)) > (wrap64 (t164 * 20)) then (laws_FnPortions.j0 k t163 (Int.tmod t166 50) (Int.tmod t167 50) true t160 t161) else (laws_FnPortions.j0 k t163 (Int.tmod t166 50) (Int.tmod t167 50) (decide ((wrap64 ((wrap64 (t165 + 1)) * t163)) ≤ (wrap64 (t164 * 20)))) t160 t161))))) = some true := H
        have A18 := Aside0.mk A180
        clear A180
        by_cases c19 : t168 < t160
        · rw [if_pos c19] at H
          have c19b0 : decide (t168 < t160) = true := decide_eq_true c19
          clear c19
          exact absurd H (laws_FnPortions.j0_no _ _ _ _ _)
        · rw [if_neg c19] at H
          have c19b0 : decide (t168 < t160) = false := decide_eq_false c19
          clear c19
          replace H := Option.bind_eq_some_iff.mp H
          obtain ⟨t169, A200, H⟩ := H
          replace H : (if t169 ≥ t160 then (laws_FnPortions.j0 k t163 (Int.tmod t166 50) (Int.tmod t167 50) true t160 t161) else (if (wrap64 (t165 * t163)) > (wrap64 (t164 * 20)) then (laws_FnPortions.j0 k t163 (Int.tmod t166 50) (Int.tmod t167 50) true t160 t161) else (laws_FnPortions.j0 k t163 (Int.tmod t166 50) (Int.tmod t167 50) (decide ((wrap64 ((wrap64 (t165 + 1)) * t163)) ≤ (wrap64 (t164 * 20)))) t160 t161))) = some true := H
          have A20 := Aside0.mk A200
          clear A200
          by_cases c21 : t169 ≥ t160
          · rw [if_pos c21] at H
            have c21b0 : decide (t160 ≤ t169) = true := decide_eq_true c21
            clear c21
            exact absurd H (laws_FnPortions.j0_no _ _ _ _ _)
          · rw [if_neg c21] at H
            have c21b0 : decide (t160 ≤ t169) = false := decide_eq_false c21
            clear c21
            by_cases c22 : (wrap64 (t165 * t163)) > (wrap64 (t164 * 20))
            · rw [if_pos c22] at H
              have c22b0 : decide ((wrap64 (t164 * 20)) < (wrap64 (t165 * t163))) = true := decide_eq_true c22
              clear c22
              exact absurd H (laws_FnPortions.j0_no _ _ _ _ _)
            · rw [if_neg c22] at H
              have c22b0 : decide ((wrap64 (t164 * 20)) < (wrap64 (t165 * t163))) = false := decide_eq_false c22
              clear c22
              have H' := Aside0.mk H
              clear H
              try go_wp2
              refine start_ (n := 36) (S := fun w' => w'.cell? ⟨gb162, 0, none⟩ = some (.int .i64 t160) ∧ w'.cell? ⟨gb162, 1, none⟩ = some (.int .i64 t161)) (ds := []) #[false, false, false, false, false, false, false, false, false, false, false, false, false, false, false, false, false, false, false, false, false, false, false, false, false, false, false, false, false, false, false, false, false, false, false, false] (by kernel_rfl) rfl rfl ⟨(blk_cell BK162.out 0).trans rfl, (blk_cell BK162.out 1).trans rfl⟩ (fun hHeld => ?_); refine with_tabW laws_FnPortions.tab9 laws_FnPortions.bits9 (fun HT_ HW_ => ?_)
              refine pure_ (i := 0) (N := some 27) (v := ?_) (a' := ?_) #[true, false, false, false, false, false, false, false, false, false, false, false, false, false, false, false, false, false, false, false, false, false, false, false, false, false, false, false, false, false, false, false, false, false, false, false] rfl rfl (any_of HT_.out (by kernel_rfl)) (fun _ _ _ h => h) (Or.inl ⟨by rfl, ?_⟩) ?_ ?_
              rotate_left
              · intro w'
                go_simp
                with_reducible rfl
              rotate_left
              · simp only [Act.put, List.setIfInBounds_toArray, List.set_cons_zero, List.set_cons_succ, i64_w, i32_w]
                rfl
              refine pure_ (i := 1) (N := some 28) (v := ?_) (a' := ?_) #[true, true, false, false, false, false, false, false, false, false, false, false, false, false, false, false, false, false, false, false, false, false, false, false, false, false, false, false, false, false, false, false, false, false, false, false] rfl rfl (any_of HT_.out (by kernel_rfl)) (fun _ _ _ h => h) (Or.inl ⟨by rfl, ?_⟩) ?_ ?_
              rotate_left
              · intro w'
                go_simp
                with_reducible rfl
              rotate_left
              · simp only [Act.put, List.setIfInBounds_toArray, List.set_cons_zero, List.set_cons_succ, i64_w, i32_w]
                rfl
              refine take_ (i := 2) (N := some 29) (v := ?_) (a' := ?_) #[true, true, true, false, false, false, false, false, false, false, false, false, false, false, false, false, false, false, false, false, false, false, false, false, false, false, false, false, false, false, false, false, false, false, false, false] rfl rfl (take_ofW HT_.out HW_.out (by kernel_rfl)) (fun _ _ _ h => h) (Or.inl ⟨by rfl, ?_⟩) hHeld ?_ ?_
              rotate_left
              · rintro w' ⟨s0, s1⟩
                go_simp
                with_reducible rfl
              rotate_left
              · simp only [Act.put, List.setIfInBounds_toArray, List.set_cons_zero, List.set_cons_succ, i64_w, i32_w]
                rfl
              refine pure_ (i := 3) (N := some 30) (v := ?_) (a' := ?_) #[true, true, true, true, false, false, false, false, false, false, false, false, false, false, false, false, false, false, false, false, false, false, false, false, false, false, false, false, false, false, false, false, false, false, false, false] rfl rfl (any_of HT_.out (by kernel_rfl)) (fun _ _ _ h => h) (Or.inl ⟨by rfl, ?_⟩) ?_ ?_
              rotate_left
              · intro w'
                go_simp
                with_reducible rfl
              rotate_left
              · simp only [Act.put, List.setIfInBounds_toArray, List.set_cons_zero, List.set_cons_succ, i64_w, i32_w]
                rfl
              refine pure_ (i := 4) (N := some 31) (v := ?_) (a' := ?_) #[true, true, true, true, true, false, false, false, false, false, false, false, false, false, false, false, false, false, false, false, false, false, false, false, false, false, false, false, false, false, false, false, false, false, false, false] rfl rfl (any_of HT_.out (by kernel_rfl)) (fun _ _ _ h => h) (Or.inl ⟨by rfl, ?_⟩) ?_ ?_
              rotate_left
              · intro w'
                go_simp
                with_reducible rfl
              rotate_left
              · simp only [Act.put, List.setIfInBounds_toArray, List.set_cons_zero, List.set_cons_succ, i64_w, i32_w]
                rfl
              refine pure_ (i := 6) (N := some 33) (v := ?_) (a' := ?_) #[true, true, true, true, true, false, true, false, false, false, false, false, false, false, false, false, false, false, false, false, false, false, false, false, false, false, false, false, false, false, false, false, false, false, false, false] rfl rfl (any_of HT_.out (by kernel_rfl)) (fun _ _ _ h => h) (Or.inl ⟨by rfl, ?_⟩) ?_ ?_
              rotate_left
              · intro w'
                go_simp
                with_reducible rfl
              rotate_left
              · simp only [Act.put, List.setIfInBounds_toArray, List.set_cons_zero, List.set_cons_succ, i64_w, i32_w]
                rfl
              refine pure_ (i := 8) (N := some 35) (v := ?_) (a' := ?_) #[true, true, true, true, true, false, true, false, true, false, false, false, false, false, false, false, false, false, false, false, false, false, false, false, false, false, false, false, false, false, false, false, false, false, false, false] rfl rfl (any_of HT_.out (by kernel_rfl)) (fun _ _ _ h => h) (Or.inl ⟨by rfl, ?_⟩) ?_ ?_
              rotate_left
              · intro w'
                go_simp
                with_reducible rfl
              rotate_left
              · simp only [Act.put, List.setIfInBounds_toArray, List.set_cons_zero, List.set_cons_succ, i64_w, i32_w]
                rfl
              refine take_ (i := 5) (N := some 32) (v := ?_) (a' := ?_) #[true, true, true, true, true, true, true, false, true, false, false, false, false, false, false, false, false, false, false, false, false, false, false, false, false, false, false, false, false, false, false, false, false, false, false, false] rfl rfl (take_ofW HT_.out HW_.out (by kernel_rfl)) (fun _ _ _ h => h) (Or.inl ⟨by rfl, ?_⟩) hHeld ?_ ?_
              rotate_left
              · rintro w' ⟨s0, s1⟩
                go_simp
                with_reducible rfl
              rotate_left
              · simp only [Act.put, List.setIfInBounds_toArray, List.set_cons_zero, List.set_cons_succ, i64_w, i32_w]
                rfl
              refine take_ (i := 9) (N := some 36) (v := ?_) (a' := ?_) #[true, true, true, true, true, true, true, false, true, true, false, false, false, false, false, false, false, false, false, false, false, false, false, false, false, false, false, false, false, false, false, false, false, false, false, false] rfl rfl (take_ofW HT_.out HW_.out (by kernel_rfl)) (fun _ _ _ h => h) (Or.inl ⟨by rfl, ?_⟩) hHeld ?_ ?_
              rotate_left
              · rintro w' ⟨s0, s1⟩
                go_simp
                with_reducible rfl
              rotate_left
              · simp only [Act.put, List.setIfInBounds_toArray, List.set_cons_zero, List.set_cons_succ, i64_w, i32_w]
                rfl
              refine one_ (i := 7) (N := some 34) #[true, true, true, true, true, true, true, true, true, true, false, false, false, false, false, false, false, false, false, false, false, false, false, false, false, false, false, false, false, false, false, false, false, false, false, false] rfl rfl (one_of HT_.out (by kernel_rfl)) (by decide) (fun K hK => ?_)
              refine goes_ Try.func27 (by kernel_rfl) rfl #[.agg #[.int .i64 t160, .int .i64 t161], .int .i64 t163] (by rfl) rfl rfl (by (try simp only [List.map_toArray, List.map_cons, List.map_nil]); first | done | rfl | (simp only [List.length_drop, List.length_take]; rfl)) ?_
              with_reducible refine (impl_BakedWeight.calls t160 t161 t163 t168 _ A18.out).mono ?_
              rintro e w24 ⟨rfl, hb⟩
              refine ⟨_, rfl, ?_⟩
              have n0_ := Aside0.mk (blk_below (g := gb162) (o := .cells #[.int .i64 t160, .int .i64 t161] 36 (0, 0)) (by (with_reducible repeat (first | refine blk_drewN ?_ _ | refine blk_drew ?_ | refine blk_alloc ?_ _)); exact BK162.out) hb)
              have n1_ := Aside0.mk (below_step (by repeat (first | (with_reducible first | exact HB.out | apply below_alloc | apply pw_below_drewN | apply below_drew1 | refine below_set ?_ GE162.out) | exact HB.out)) hb)
              clear BK162
              clear HB
              have BK162 := n0_
              have HB := n1_
              clear n0_ n1_
              (try clear hb)
              (try clear hb2)
              (try clear hk)
              (try clear hi)
              refine hK.out _ _ ⟨(blk_cell BK162.out 0).trans rfl, (blk_cell BK162.out 1).trans rfl⟩ (fun hHeld => ?_)
              clear hK K
              refine norm_ (a' := ?_) ?_ ?_
              rotate_left
              · show Act.put _ (some 34) _ = _
                simp only [Act.put, List.setIfInBounds_toArray, List.set_cons_zero, List.set_cons_succ, i64_w, i32_w]
                rfl
              refine pure_ (i := 10) (N := some 37) (v := ?_) (a' := ?_) #[true, true, true, true, true, true, true, true, true, true, true, false, false, false, false, false, false, false, false, false, false, false, false, false, false, false, false, false, false, false, false, false, false, false, false, false] rfl rfl (any_of HT_.out (by kernel_rfl)) (fun _ _ _ h => h) (Or.inl ⟨by rfl, ?_⟩) ?_ ?_
              rotate_left
              · intro w'
                go_simp
                with_reducible rfl
              rotate_left
              · simp only [Act.put, List.setIfInBounds_toArray, List.set_cons_zero, List.set_cons_succ, i64_w, i32_w]
                rfl
              refine pure_ (i := 11) (N := some 38) (v := ?_) (a' := ?_) #[true, true, true, true, true, true, true, true, true, true, true, true, false, false, false, false, false, false, false, false, false, false, false, false, false, false, false, false, false, false, false, false, false, false, false, false] rfl rfl (any_of HT_.out (by kernel_rfl)) (fun _ _ _ h => h) (Or.inl ⟨by rfl, ?_⟩) ?_ ?_
              rotate_left
              · intro w'
                go_simp
                with_reducible rfl
              rotate_left
              · simp only [Act.put, List.setIfInBounds_toArray, List.set_cons_zero, List.set_cons_succ, i64_w, i32_w]
                rfl
              refine pure_ (i := 12) (N := some 39) (v := ?_) (a' := ?_) #[true, true, true, true, true, true, true, true, true, true, true, true, true, false, false, false, false, false, false, false, false, false, false, false, false, false, false, false, false, false, false, false, false, false, false, false] rfl rfl (any_of HT_.out (by kernel_rfl)) (fun _ _ _ h => h) (Or.inl ⟨by rfl, ?_⟩) ?_ ?_
              rotate_left
              · intro w'
                go_simp
                with_reducible rfl
              rotate_left
              · simp only [Act.put, List.setIfInBounds_toArray, List.set_cons_zero, List.set_cons_succ, i64_w, i32_w]
                rfl
              refine pure_ (i := 14) (N := some 41) (v := ?_) (a' := ?_) #[true, true, true, true, true, true, true, true, true, true, true, true, true, false, true, false, false, false, false, false, false, false, false, false, false, false, false, false, false, false, false, false, false, false, false, false] rfl rfl (any_of HT_.out (by kernel_rfl)) (fun _ _ _ h => h) (Or.inl ⟨by rfl, ?_⟩) ?_ ?_
              rotate_left
              · intro w'
                go_simp
                with_reducible rfl
              rotate_left
              · simp only [Act.put, List.setIfInBounds_toArray, List.set_cons_zero, List.set_cons_succ, i64_w, i32_w]
                rfl
              refine pure_ (i := 15) (N := some 42) (v := ?_) (a' := ?_) #[true, true, true, true, true, true, true, true, true, true, true, true, true, false, true, true, false, false, false, false, false, false, false, false, false, false, false, false, false, false, false, false, false, false, false, false] rfl rfl (any_of HT_.out (by kernel_rfl)) (fun _ _ _ h => h) (Or.inl ⟨by rfl, ?_⟩) ?_ ?_
              rotate_left
              · intro w'
                go_simp
                with_reducible rfl
              rotate_left
              · simp only [Act.put, List.setIfInBounds_toArray, List.set_cons_zero, List.set_cons_succ, i64_w, i32_w]
                rfl
              refine pure_ (i := 17) (N := some 44) (v := ?_) (a' := ?_) #[true, true, true, true, true, true, true, true, true, true, true, true, true, false, true, true, false, true, false, false, false, false, false, false, false, false, false, false, false, false, false, false, false, false, false, false] rfl rfl (any_of HT_.out (by kernel_rfl)) (fun _ _ _ h => h) (Or.inl ⟨by rfl, ?_⟩) ?_ ?_
              rotate_left
              · intro w'
                go_simp
                with_reducible rfl
              rotate_left
              · simp only [Act.put, List.setIfInBounds_toArray, List.set_cons_zero, List.set_cons_succ, i64_w, i32_w]
                rfl
              refine take_ (i := 13) (N := some 40) (v := ?_) (a' := ?_) #[true, true, true, true, true, true, true, true, true, true, true, true, true, true, true, true, false, true, false, false, false, false, false, false, false, false, false, false, false, false, false, false, false, false, false, false] rfl rfl (take_ofW HT_.out HW_.out (by kernel_rfl)) (fun _ _ _ h => h) (Or.inl ⟨by rfl, ?_⟩) hHeld ?_ ?_
              rotate_left
              · rintro w' ⟨s0, s1⟩
                go_simp
                with_reducible rfl
              rotate_left
              · simp only [Act.put, List.setIfInBounds_toArray, List.set_cons_zero, List.set_cons_succ, i64_w, i32_w]
                rfl
              refine take_ (i := 18) (N := some 45) (v := ?_) (a' := ?_) #[true, true, true, true, true, true, true, true, true, true, true, true, true, true, true, true, false, true, true, false, false, false, false, false, false, false, false, false, false, false, false, false, false, false, false, false] rfl rfl (take_ofW HT_.out HW_.out (by kernel_rfl)) (fun _ _ _ h => h) (Or.inl ⟨by rfl, ?_⟩) hHeld ?_ ?_
              rotate_left
              · rintro w' ⟨s0, s1⟩
                go_simp
                with_reducible rfl
              rotate_left
              · simp only [Act.put, List.setIfInBounds_toArray, List.set_cons_zero, List.set_cons_succ, i64_w, i32_w]
                rfl
              refine one_ (i := 16) (N := some 43) #[true, true, true, true, true, true, true, true, true, true, true, true, true, true, true, true, true, true, true, false, false, false, false, false, false, false, false, false, false, false, false, false, false, false, false, false] rfl rfl (one_of HT_.out (by kernel_rfl)) (by decide) (fun K hK => ?_)
              refine goes_ Try.func27 (by kernel_rfl) rfl #[.agg #[.int .i64 t160, .int .i64 t161], .int .i64 (wrap64 (t163 - 1))] (by rfl) rfl rfl (by (try simp only [List.map_toArray, List.map_cons, List.map_nil]); first | done | rfl | (simp only [List.length_drop, List.length_take]; rfl)) ?_
              with_reducible refine (impl_BakedWeight.calls t160 t161 (wrap64 (t163 - 1)) t169 _ A20.out).mono ?_
              rintro e w25 ⟨rfl, hb⟩
              refine ⟨_, rfl, ?_⟩
              have n0_ := Aside0.mk (blk_below (g := gb162) (o := .cells #[.int .i64 t160, .int .i64 t161] 36 (0, 0)) (by (with_reducible repeat (first | refine blk_drewN ?_ _ | refine blk_drew ?_ | refine blk_alloc ?_ _)); exact BK162.out) hb)
              have n1_ := Aside0.mk (below_step (by repeat (first | (with_reducible first | exact HB.out | apply below_alloc | apply pw_below_drewN | apply below_drew1 | refine below_set ?_ GE162.out) | exact HB.out)) hb)
              clear BK162
              clear HB
              have BK162 := n0_
              have HB := n1_
              clear n0_ n1_
              (try clear hb)
              (try clear hb2)
              (try clear hk)
              (try clear hi)
              refine hK.out _ _ ⟨(blk_cell BK162.out 0).trans rfl, (blk_cell BK162.out 1).trans rfl⟩ (fun hHeld => ?_)
              clear hK K
              refine norm_ (a' := ?_) ?_ ?_
              rotate_left
              · show Act.put _ (some 43) _ = _
                simp only [Act.put, List.setIfInBounds_toArray, List.set_cons_zero, List.set_cons_succ, i64_w, i32_w]
                rfl
              refine pure_ (i := 19) (N := some 46) (v := ?_) (a' := ?_) #[true, true, true, true, true, true, true, true, true, true, true, true, true, true, true, true, true, true, true, true, false, false, false, false, false, false, false, false, false, false, false, false, false, false, false, false] rfl rfl (any_of HT_.out (by kernel_rfl)) (fun _ _ _ h => h) (Or.inl ⟨by rfl, ?_⟩) ?_ ?_
              rotate_left
              · intro w'
                go_simp
                with_reducible rfl
              rotate_left
              · simp only [Act.put, List.setIfInBounds_toArray, List.set_cons_zero, List.set_cons_succ, i64_w, i32_w]
                rfl
              refine pure_ (i := 20) (N := some 47) (v := ?_) (a' := ?_) #[true, true, true, true, true, true, true, true, true, true, true, true, true, true, true, true, true, true, true, true, true, false, false, false, false, false, false, false, false, false, false, false, false, false, false, false] rfl rfl (any_of HT_.out (by kernel_rfl)) (fun _ _ _ h => h) (Or.inl ⟨by rfl, ?_⟩) ?_ ?_
              rotate_left
              · intro w'
                go_simp
                with_reducible rfl
              rotate_left
              · simp only [Act.put, List.setIfInBounds_toArray, List.set_cons_zero, List.set_cons_succ, i64_w, i32_w]
                rfl
              refine pure_ (i := 21) (N := some 48) (v := ?_) (a' := ?_) #[true, true, true, true, true, true, true, true, true, true, true, true, true, true, true, true, true, true, true, true, true, true, false, false, false, false, false, false, false, false, false, false, false, false, false, false] rfl rfl (any_of HT_.out (by kernel_rfl)) (fun _ _ _ h => h) (Or.inl ⟨by rfl, ?_⟩) ?_ ?_
              rotate_left
              · intro w'
                go_simp
                with_reducible rfl
              rotate_left
              · simp only [Act.put, List.setIfInBounds_toArray, List.set_cons_zero, List.set_cons_succ, i64_w, i32_w]
                rfl
              refine pure_ (i := 22) (N := some 49) (v := ?_) (a' := ?_) #[true, true, true, true, true, true, true, true, true, true, true, true, true, true, true, true, true, true, true, true, true, true, true, false, false, false, false, false, false, false, false, false, false, false, false, false] rfl rfl (any_of HT_.out (by kernel_rfl)) (fun _ _ _ h => h) (Or.inl ⟨by rfl, ?_⟩) ?_ ?_
              rotate_left
              · intro w'
                go_simp
                with_reducible rfl
              rotate_left
              · simp only [Act.put, List.setIfInBounds_toArray, List.set_cons_zero, List.set_cons_succ, i64_w, i32_w]
                rfl
              refine pure_ (i := 23) (N := some 50) (v := ?_) (a' := ?_) #[true, true, true, true, true, true, true, true, true, true, true, true, true, true, true, true, true, true, true, true, true, true, true, true, false, false, false, false, false, false, false, false, false, false, false, false] rfl rfl (any_of HT_.out (by kernel_rfl)) (fun _ _ _ h => h) (Or.inl ⟨by rfl, ?_⟩) ?_ ?_
              rotate_left
              · intro w'
                go_simp
                with_reducible rfl
              rotate_left
              · simp only [Act.put, List.setIfInBounds_toArray, List.set_cons_zero, List.set_cons_succ, i64_w, i32_w]
                rfl
              refine pure_ (i := 24) (N := some 51) (v := ?_) (a' := ?_) #[true, true, true, true, true, true, true, true, true, true, true, true, true, true, true, true, true, true, true, true, true, true, true, true, true, false, false, false, false, false, false, false, false, false, false, false] rfl rfl (any_of HT_.out (by kernel_rfl)) (fun _ _ _ h => h) (Or.inl ⟨by rfl, ?_⟩) ?_ ?_
              rotate_left
              · intro w'
                go_simp
                with_reducible rfl
              rotate_left
              · simp only [Act.put, List.setIfInBounds_toArray, List.set_cons_zero, List.set_cons_succ, i64_w, i32_w]
                rfl
              refine pure_ (i := 25) (N := some 52) (v := ?_) (a' := ?_) #[true, true, true, true, true, true, true, true, true, true, true, true, true, true, true, true, true, true, true, true, true, true, true, true, true, true, false, false, false, false, false, false, false, false, false, false] rfl rfl (any_of HT_.out (by kernel_rfl)) (fun _ _ _ h => h) (Or.inl ⟨by rfl, ?_⟩) ?_ ?_
              rotate_left
              · intro w'
                go_simp
                with_reducible rfl
              rotate_left
              · simp only [Act.put, List.setIfInBounds_toArray, List.set_cons_zero, List.set_cons_succ, i64_w, i32_w]
                rfl
              refine pure_ (i := 26) (N := some 53) (v := ?_) (a' := ?_) #[true, true, true, true, true, true, true, true, true, true, true, true, true, true, true, true, true, true, true, true, true, true, true, true, true, true, true, false, false, false, false, false, false, false, false, false] rfl rfl (any_of HT_.out (by kernel_rfl)) (fun _ _ _ h => h) (Or.inl ⟨by rfl, ?_⟩) ?_ ?_
              rotate_left
              · intro w'
                go_simp
                with_reducible rfl
              rotate_left
              · simp only [Act.put, List.setIfInBounds_toArray, List.set_cons_zero, List.set_cons_succ, i64_w, i32_w]
                rfl
              refine pure_ (i := 27) (N := some 54) (v := ?_) (a' := ?_) #[true, true, true, true, true, true, true, true, true, true, true, true, true, true, true, true, true, true, true, true, true, true, true, true, true, true, true, true, false, false, false, false, false, false, false, false] rfl rfl (any_of HT_.out (by kernel_rfl)) (fun _ _ _ h => h) (Or.inl ⟨by rfl, ?_⟩) ?_ ?_
              rotate_left
              · intro w'
                go_simp
                with_reducible rfl
              rotate_left
              · simp only [Act.put, List.setIfInBounds_toArray, List.set_cons_zero, List.set_cons_succ, i64_w, i32_w]
                rfl
              refine pure_ (i := 28) (N := some 55) (v := ?_) (a' := ?_) #[true, true, true, true, true, true, true, true, true, true, true, true, true, true, true, true, true, true, true, true, true, true, true, true, true, true, true, true, true, false, false, false, false, false, false, false] rfl rfl (any_of HT_.out (by kernel_rfl)) (fun _ _ _ h => h) (Or.inl ⟨by rfl, ?_⟩) ?_ ?_
              rotate_left
              · intro w'
                go_simp
                with_reducible rfl
              rotate_left
              · simp only [Act.put, List.setIfInBounds_toArray, List.set_cons_zero, List.set_cons_succ, i64_w, i32_w]
                rfl
              refine pure_ (i := 29) (N := some 56) (v := ?_) (a' := ?_) #[true, true, true, true, true, true, true, true, true, true, true, true, true, true, true, true, true, true, true, true, true, true, true, true, true, true, true, true, true, true, false, false, false, false, false, false] rfl rfl (any_of HT_.out (by kernel_rfl)) (fun _ _ _ h => h) (Or.inl ⟨by rfl, ?_⟩) ?_ ?_
              rotate_left
              · intro w'
                go_simp
                with_reducible rfl
              rotate_left
              · simp only [Act.put, List.setIfInBounds_toArray, List.set_cons_zero, List.set_cons_succ, i64_w, i32_w]
                rfl
              refine pure_ (i := 30) (N := some 57) (v := ?_) (a' := ?_) #[true, true, true, true, true, true, true, true, true, true, true, true, true, true, true, true, true, true, true, true, true, true, true, true, true, true, true, true, true, true, true, false, false, false, false, false] rfl rfl (any_of HT_.out (by kernel_rfl)) (fun _ _ _ h => h) (Or.inl ⟨by rfl, ?_⟩) ?_ ?_
              rotate_left
              · intro w'
                go_simp
                with_reducible rfl
              rotate_left
              · simp only [Act.put, List.setIfInBounds_toArray, List.set_cons_zero, List.set_cons_succ, i64_w, i32_w]
                rfl
              refine pure_ (i := 31) (N := some 58) (v := ?_) (a' := ?_) #[true, true, true, true, true, true, true, true, true, true, true, true, true, true, true, true, true, true, true, true, true, true, true, true, true, true, true, true, true, true, true, true, false, false, false, false] rfl rfl (any_of HT_.out (by kernel_rfl)) (fun _ _ _ h => h) (Or.inl ⟨by rfl, ?_⟩) ?_ ?_
              rotate_left
              · intro w'
                go_simp
                with_reducible rfl
              rotate_left
              · simp only [Act.put, List.setIfInBounds_toArray, List.set_cons_zero, List.set_cons_succ, i64_w, i32_w]
                rfl
              refine pure_ (i := 32) (N := some 59) (v := ?_) (a' := ?_) #[true, true, true, true, true, true, true, true, true, true, true, true, true, true, true, true, true, true, true, true, true, true, true, true, true, true, true, true, true, true, true, true, true, false, false, false] rfl rfl (any_of HT_.out (by kernel_rfl)) (fun _ _ _ h => h) (Or.inl ⟨by rfl, ?_⟩) ?_ ?_
              rotate_left
              · intro w'
                go_simp
                with_reducible rfl
              rotate_left
              · simp only [Act.put, List.setIfInBounds_toArray, List.set_cons_zero, List.set_cons_succ, i64_w, i32_w]
                rfl
              refine pure_ (i := 33) (N := some 60) (v := ?_) (a' := ?_) #[true, true, true, true, true, true, true, true, true, true, true, true, true, true, true, true, true, true, true, true, true, true, true, true, true, true, true, true, true, true, true, true, true, true, false, false] rfl rfl (any_of HT_.out (by kernel_rfl)) (fun _ _ _ h => h) (Or.inl ⟨by rfl, ?_⟩) ?_ ?_
              rotate_left
              · intro w'
                go_simp
                with_reducible rfl
              rotate_left
              · simp only [Act.put, List.setIfInBounds_toArray, List.set_cons_zero, List.set_cons_succ, i64_w, i32_w]
                rfl
              refine pure_ (i := 34) (N := some 61) (v := ?_) (a' := ?_) #[true, true, true, true, true, true, true, true, true, true, true, true, true, true, true, true, true, true, true, true, true, true, true, true, true, true, true, true, true, true, true, true, true, true, true, false] rfl rfl (any_of HT_.out (by kernel_rfl)) (fun _ _ _ h => h) (Or.inl ⟨by rfl, ?_⟩) ?_ ?_
              rotate_left
              · intro w'
                go_simp
                with_reducible rfl
              rotate_left
              · simp only [Act.put, List.setIfInBounds_toArray, List.set_cons_zero, List.set_cons_succ, i64_w, i32_w]
                rfl
              refine pure_ (i := 35) (N := some 62) (v := ?_) (a' := ?_) #[true, true, true, true, true, true, true, true, true, true, true, true, true, true, true, true, true, true, true, true, true, true, true, true, true, true, true, true, true, true, true, true, true, true, true, true] rfl rfl (any_of HT_.out (by kernel_rfl)) (fun _ _ _ h => h) (Or.inl ⟨by rfl, ?_⟩) ?_ ?_
              rotate_left
              · intro w'
                go_simp
                with_reducible rfl
              rotate_left
              · simp only [Act.put, List.setIfInBounds_toArray, List.set_cons_zero, List.set_cons_succ, i64_w, i32_w]
                rfl
              refine done_ (done_of HT_.out (by kernel_rfl)) ?_
              try go_wp2
              go_meet
              case rel => exact ⟨_, (decide ((wrap64 ((wrap64 (t165 + 1)) * t163)) ≤ (wrap64 (t164 * 20)))), (by first | rfl | (simp; done) | (simp [*]; done)), H', ⟨by first | omega | exact Nat.le_refl _⟩, ⟨by (with_reducible repeat (first | refine blk_drewN ?_ _ | refine blk_drew ?_ | refine blk_alloc ?_ _)); exact BK162.out⟩, ⟨by repeat (first | (with_reducible first | exact HB.out | apply below_alloc | apply pw_below_drewN | apply below_drew1 | refine below_set ?_ GE162.out) | exact HB.out)⟩⟩
    case rest =>
      clear HC10
      try clear c1
      try clear c2
      try clear p2
      try clear c3
      try clear c6
      try clear p6
      try clear c17
      try clear c17b0
      try clear c18
      try clear c19
      try clear c19b0
      try clear c20
      try clear c21
      try clear c21b0
      try clear c22
      try clear c22b0
      try clear c24
      try clear c25
      try clear hcz13_0
      try clear hcz13_1
      try clear hcz15_0
      try clear hcz15_1
      try clear hfz13_0
      try clear hfz13_1
      try clear hfz15_0
      try clear hfz15_1
      obtain ⟨kq, x62_9, rfl, HA, HJ9, BK162, HB⟩ := hcut
      cases kq with
      | zero => exact absurd HA.out (by simp [laws_FnPortions.j0])
      | succ kj9 =>
        have H := HA.out
        clear HA
        simp only [laws_FnPortions.j0] at H
        by_cases c26 : x62_9 = true
        · subst c26
          have H1 : (some false) = some true := by rw [if_pos rfl] at H; exact H
          clear H
          have H := H1
          clear H1
          exact absurd H (by simp)
        · replace c26 := Bool.eq_false_iff.mpr c26
          subst c26
          have H1 : ((impl_DoughForAll.f kj9 (([(⟨t160, t161⟩ : S36), (⟨t160, t161⟩ : S36)] : List (S36))) (([(Int.tmod t166 50), (Int.tmod t167 50)] : List Int))).bind fun t176 => (if t176 = (wrap64 ((wrap64 ((Int.tmod t166 50) + (Int.tmod t167 50))) * t163)) then ((impl_DoughForAll.f kj9 ([] : List (S36)) ([] : List Int)).bind fun t177 => (if t177 = 0 then ((impl_BakedWeight.f t160 t161 0).bind fun t178 => (if t178 = 0 then ((impl_LoafOk.f t160 t161).bind fun t179 => (if t179 = true then ((impl_BakedWeight.f 500 15 589).bind fun t180 => (some (t180 == 500))) else (some false))) else (some false))) else (some false))) else (some false))) = some true := by rw [if_neg (show ¬ (false = true) by decide)] at H; exact H
          clear H
          have H := H1
          clear H1
          obtain ⟨y170, hy170⟩ : ∃ y_ : List (S36), y_ = (([(⟨t160, t161⟩ : S36), (⟨t160, t161⟩ : S36)] : List (S36))) := ⟨_, rfl⟩
          replace H : ((impl_DoughForAll.f kj9 y170 (([(Int.tmod t166 50), (Int.tmod t167 50)] : List Int))).bind fun t176 => (if t176 = (wrap64 ((wrap64 ((Int.tmod t166 50) + (Int.tmod t167 50))) * t163)) then ((impl_DoughForAll.f kj9 ([] : List (S36)) ([] : List Int)).bind fun t177 => (if t177 = 0 then ((impl_BakedWeight.f t160 t161 0).bind fun t178 => (if t178 = 0 then ((impl_LoafOk.f t160 t161).bind fun t179 => (if t179 = true then ((impl_BakedWeight.f 500 15 589).bind fun t180 => (some (t180 == 500))) else (some false))) else (some false))) else (some false))) else (some false))) = some true := by first | (rw [hy170]; with_reducible exact H) | (have H2_ := (Option.bind_some _ _).symm.trans H; rw [hy170]; with_reducible exact H2_) | (have H2_ := (Option.bind_some _ _).symm.trans H; with_reducible exact H2_) | with_reducible exact H | (rw [hy170]; exact H) | exact H
          have Ny170 := Aside0.mk hy170
          clear hy170
          obtain ⟨y173, hy173⟩ : ∃ y_ : List Int, y_ = (([(Int.tmod t166 50), (Int.tmod t167 50)] : List Int)) := ⟨_, rfl⟩
          replace H : ((impl_DoughForAll.f kj9 y170 y173).bind fun t176 => (if t176 = (wrap64 ((wrap64 ((Int.tmod t166 50) + (Int.tmod t167 50))) * t163)) then ((impl_DoughForAll.f kj9 ([] : List (S36)) ([] : List Int)).bind fun t177 => (if t177 = 0 then ((impl_BakedWeight.f t160 t161 0).bind fun t178 => (if t178 = 0 then ((impl_LoafOk.f t160 t161).bind fun t179 => (if t179 = true then ((impl_BakedWeight.f 500 15 589).bind fun t180 => (some (t180 == 500))) else (some false))) else (some false))) else (some false))) else (some false))) = some true := by first | (rw [hy173]; with_reducible exact H) | (have H2_ := (Option.bind_some _ _).symm.trans H; rw [hy173]; with_reducible exact H2_) | (have H2_ := (Option.bind_some _ _).symm.trans H; with_reducible exact H2_) | with_reducible exact H | (rw [hy173]; exact H) | exact H
          have Ny173 := Aside0.mk hy173
          clear hy173
          replace H := Option.bind_eq_some_iff.mp H
          obtain ⟨t176, A270, H⟩ := H
          replace H : (if t176 = (wrap64 ((wrap64 ((Int.tmod t166 50) + (Int.tmod t167 50))) * t163)) then ((impl_DoughForAll.f kj9 ([] : List (S36)) ([] : List Int)).bind fun t177 => (if t177 = 0 then ((impl_BakedWeight.f t160 t161 0).bind fun t178 => (if t178 = 0 then ((impl_LoafOk.f t160 t161).bind fun t179 => (if t179 = true then ((impl_BakedWeight.f 500 15 589).bind fun t180 => (some (t180 == 500))) else (some false))) else (some false))) else (some false))) else (some false)) = some true := H
          have A27 := Aside0.mk A270
          clear A270
          by_cases c28 : t176 = (wrap64 ((wrap64 ((Int.tmod t166 50) + (Int.tmod t167 50))) * t163))
          · rw [if_pos c28] at H
            have c28b0 : (t176 == (wrap64 ((wrap64 ((Int.tmod t166 50) + (Int.tmod t167 50))) * t163))) = true := beq_iff_eq.mpr c28
            have c28b1 : (t176 != (wrap64 ((wrap64 ((Int.tmod t166 50) + (Int.tmod t167 50))) * t163))) = false := bne_eq_false_iff_eq.mpr c28
            clear c28
            replace H := Option.bind_eq_some_iff.mp H
            obtain ⟨t177, A290, H⟩ := H
            replace H : (if t177 = 0 then ((impl_BakedWeight.f t160 t161 0).bind fun t178 => (if t178 = 0 then ((impl_LoafOk.f t160 t161).bind fun t179 => (if t179 = true then ((impl_BakedWeight.f 500 15 589).bind fun t180 => (some (t180 == 500))) else (some false))) else (some false))) else (some false)) = some true := H
            have A29 := Aside0.mk A290
            clear A290
            by_cases c30 : t177 = 0
            · rw [if_pos c30] at H
              have c30b0 : (t177 == 0) = true := beq_iff_eq.mpr c30
              have c30b1 : (t177 != 0) = false := bne_eq_false_iff_eq.mpr c30
              clear c30
              replace H := Option.bind_eq_some_iff.mp H
              obtain ⟨t178, A310, H⟩ := H
              replace H : (if t178 = 0 then ((impl_LoafOk.f t160 t161).bind fun t179 => (if t179 = true then ((impl_BakedWeight.f 500 15 589).bind fun t180 => (some (t180 == 500))) else (some false))) else (some false)) = some true := H
              have A31 := Aside0.mk A310
              clear A310
              by_cases c32 : t178 = 0
              · rw [if_pos c32] at H
                have c32b0 : (t178 == 0) = true := beq_iff_eq.mpr c32
                have c32b1 : (t178 != 0) = false := bne_eq_false_iff_eq.mpr c32
                clear c32
                replace H := Option.bind_eq_some_iff.mp H
                obtain ⟨t179, A330, H⟩ := H
                replace H : (if t179 = true then ((impl_BakedWeight.f 500 15 589).bind fun t180 => (some (t180 == 500))) else (some false)) = some true := H
                have A33 := Aside0.mk A330
                clear A330
                by_cases c34 : t179 = true
                · subst c34
                  have H1 : ((impl_BakedWeight.f 500 15 589).bind fun t180 => (some (t180 == 500))) = some true := by rw [if_pos rfl] at H; exact H
                  clear H
                  have H := H1
                  clear H1
                  replace H := Option.bind_eq_some_iff.mp H
                  obtain ⟨t180, A350, H⟩ := H
                  replace H : (some (t180 == 500)) = some true := H
                  have A35 := Aside0.mk A350
                  clear A350
                  have hT_ := Option.some.inj H
                  have hcz36_0 : wc.cell? ⟨gb162, 0, none⟩ = some (.int .i64 t160) := (blk_cell BK162.out 0).trans rfl
                  have hcz36_1 : wc.cell? ⟨gb162, 1, none⟩ = some (.int .i64 t161) := (blk_cell BK162.out 1).trans rfl
                  have hfz36_0 := blk_frozen BK162.out 0
                  have hfz36_1 := blk_frozen BK162.out 1
                  go_wp2_with (first | ((with_reducible refine gate_dst (N := 65) rfl ?_); refine Kd.R_lit k36 _ 36 ?hg (N := 65) ?hd (xs := ([(⟨t160, t161⟩ : S36), (⟨t160, t161⟩ : S36)] : List (S36))) (inner := [.int .i64 t160, .int .i64 t161, .int .i64 t160, .int .i64 t161]) (ok := fun _ => True) (okp := fun _ => True) ?hr ?hp (fun _ hk => hk) trivial (Below.refl _ _) (Nat.le_refl _) (by simp) ?_; (case hd => rfl); (case hg => rfl); (case hr => first | (go_simp; done) | (go_simp; rfl)); (case hp => exact (Reps.c2 (show Kd.M k36 _ _ _ (⟨t160, t161⟩ : S36) [.int .i64 t160, .int .i64 t161] from (k36_mkM _ _ _ (⟨t160, t161⟩ : S36) )) (Reps.c2 (show Kd.M k36 _ _ _ (⟨t160, t161⟩ : S36) [.int .i64 t160, .int .i64 t161] from (k36_mkM _ _ _ (⟨t160, t161⟩ : S36) )) (Reps.none _ _)))); intro v171 w37 ho38 hb hg_ hnew_; clear hg_ hnew_; (first | rw [← Ny170.out] at ho38 | (simp only [Int.reduceToNat] at ho38; rw [← Ny170.out] at ho38)); have n0_ := Aside0.mk (Kd.R_lower (Kd.R_newB ho38 (g := gb162) (o := .cells #[.int .i64 t160, .int .i64 t161] 36 (0, 0)) (by (with_reducible repeat (first | refine blk_drewN ?_ _ | refine blk_drew ?_ | refine blk_alloc ?_ _)); exact BK162.out)) (below_size (by repeat (first | (with_reducible first | exact HB.out | apply below_alloc | apply pw_below_drewN | apply below_drew1 | refine below_set ?_ GE162.out) | exact HB.out)))); have n1_ := Aside0.mk (blk_below (g := gb162) (o := .cells #[.int .i64 t160, .int .i64 t161] 36 (0, 0)) (by (with_reducible repeat (first | refine blk_drewN ?_ _ | refine blk_drew ?_ | refine blk_alloc ?_ _)); exact BK162.out) hb); have n2_ := Aside0.mk (below_step (by repeat (first | (with_reducible first | exact HB.out | apply below_alloc | apply pw_below_drewN | apply below_drew1 | refine below_set ?_ GE162.out) | exact HB.out)) hb); clear BK162; clear HB; have HO172 := n0_; have BK162 := n1_; have HB := n2_; clear n0_ n1_ n2_; clear hb ho38) | ((with_reducible refine gate_dst (N := 68) rfl ?_); refine Kd.R_lit (Kd.int .i64) _ 3 ?hg (N := 68) ?hd (xs := ([(Int.tmod t166 50), (Int.tmod t167 50)] : List Int)) (inner := [.int .i64 (Int.tmod t166 50), .int .i64 (Int.tmod t167 50)]) (ok := fun _ => True) (okp := fun _ => True) ?hr ?hp (fun _ hk => hk) trivial (Below.refl _ _) (Nat.le_refl _) (by simp) ?_; (case hd => rfl); (case hg => rfl); (case hr => first | (go_simp; done) | (go_simp; rfl)); (case hp => exact (Reps.one (show Kd.M (Kd.int .i64) _ _ _ (Int.tmod t166 50) [.int .i64 (Int.tmod t166 50)] from rfl) (Reps.one (show Kd.M (Kd.int .i64) _ _ _ (Int.tmod t167 50) [.int .i64 (Int.tmod t167 50)] from rfl) (Reps.none _ _)))); intro v174 w39 ho40 hb hg_ hnew_; clear hg_ hnew_; (first | rw [← Ny173.out] at ho40 | (simp only [Int.reduceToNat] at ho40; rw [← Ny173.out] at ho40)); have n0_ := Aside0.mk (Kd.R_below (by (with_reducible repeat (first | apply Kd.R_alloc | apply Kd.R_drewN | apply Kd.R_drew)); exact HO172.out) hb); have n1_ := Aside0.mk (Kd.R_lower ho40 (below_size (by repeat (first | (with_reducible first | exact HB.out | apply below_alloc | apply pw_below_drewN | apply below_drew1 | refine below_set ?_ GE162.out) | exact HB.out)))); have n2_ := Aside0.mk (blk_below (g := gb162) (o := .cells #[.int .i64 t160, .int .i64 t161] 36 (0, 0)) (by (with_reducible repeat (first | refine blk_drewN ?_ _ | refine blk_drew ?_ | refine blk_alloc ?_ _)); exact BK162.out) hb); have n3_ := Aside0.mk (below_step (by repeat (first | (with_reducible first | exact HB.out | apply below_alloc | apply pw_below_drewN | apply below_drew1 | refine below_set ?_ GE162.out) | exact HB.out)) hb); clear HO172; clear BK162; clear HB; have HO172 := n0_; have HO175 := n1_; have BK162 := n2_; have HB := n3_; clear n0_ n1_ n2_ n3_; clear hb ho40; obtain ⟨Ao41, co41, eo41⟩ := Kd.R_slice HO172.out; subst eo41; obtain ⟨Ao42, co42, eo42⟩ := Kd.R_slice HO175.out; subst eo42) | ((with_reducible refine gate_callee (f := 28) rfl ?_); refine goesL_ (some 69) rfl rfl Try.func28 (by kernel_rfl) rfl #[.slice Ao41 y170.length co41, .slice Ao42 y173.length co42] rfl (by (try simp only [List.map_toArray, List.map_cons, List.map_nil]); first | done | rfl | (simp only [List.length_drop, List.length_take]; rfl)) ?_; (with_reducible refine (impl_DoughForAll.calls kj9 _ _ y170 _ _ y173 t176 _ ?side1 ?side2 ?side3 ?side4 A27.out).mono ?_); (case side1 => repeat (first | exact (Kd.R_reads' HO172.out).2.2 | (with_reducible refine Kd.C_alloc ?_ _) | (with_reducible refine Kd.C_drewN ?_ _) | (with_reducible refine Kd.C_drew ?_))); (case side2 => exact (Kd.R_reads' HO172.out).2.1); (case side3 => repeat (first | exact (Kd.R_reads' HO175.out).2.2 | (with_reducible refine Kd.C_alloc ?_ _) | (with_reducible refine Kd.C_drewN ?_ _) | (with_reducible refine Kd.C_drew ?_))); (case side4 => exact (Kd.R_reads' HO175.out).2.1); rintro e w43 ⟨rfl, hb⟩; refine ⟨_, rfl, ?_⟩; have n0_ := Aside0.mk (Kd.R_below (by (with_reducible repeat (first | apply Kd.R_alloc | apply Kd.R_drewN | apply Kd.R_drew)); exact HO172.out) hb); have n1_ := Aside0.mk (Kd.R_below (by (with_reducible repeat (first | apply Kd.R_alloc | apply Kd.R_drewN | apply Kd.R_drew)); exact HO175.out) hb); have n2_ := Aside0.mk (blk_below (g := gb162) (o := .cells #[.int .i64 t160, .int .i64 t161] 36 (0, 0)) (by (with_reducible repeat (first | refine blk_drewN ?_ _ | refine blk_drew ?_ | refine blk_alloc ?_ _)); exact BK162.out) hb); have n3_ := Aside0.mk (below_step (by repeat (first | (with_reducible first | exact HB.out | apply below_alloc | apply pw_below_drewN | apply below_drew1 | refine below_set ?_ GE162.out) | exact HB.out)) hb); clear HO172; clear HO175; clear BK162; clear HB; have HO172 := n0_; have HO175 := n1_; have BK162 := n2_; have HB := n3_; clear n0_ n1_ n2_ n3_; (try clear hb); (try clear hb2); (try clear hk); (try clear hi)) | (go_at_call 28; (refine (impl_DoughForAll.calls kj9 _ _ ([] : List (S36)) _ _ ([] : List Int) t177 _ ?side1 ?side2 ?side3 ?side4 A29.out).mono ?_); (case side1 => exact Kd.C_nil _ _); (case side2 => exact Nat.le_refl _); (case side3 => exact Kd.C_nil _ _); (case side4 => exact Nat.le_refl _); rintro e w44 ⟨rfl, hb⟩; have n0_ := Aside0.mk (Kd.R_below (by (with_reducible repeat (first | apply Kd.R_alloc | apply Kd.R_drewN | apply Kd.R_drew)); exact HO172.out) hb); have n1_ := Aside0.mk (Kd.R_below (by (with_reducible repeat (first | apply Kd.R_alloc | apply Kd.R_drewN | apply Kd.R_drew)); exact HO175.out) hb); have n2_ := Aside0.mk (blk_below (g := gb162) (o := .cells #[.int .i64 t160, .int .i64 t161] 36 (0, 0)) (by (with_reducible repeat (first | refine blk_drewN ?_ _ | refine blk_drew ?_ | refine blk_alloc ?_ _)); exact BK162.out) hb); have n3_ := Aside0.mk (below_step (by repeat (first | (with_reducible first | exact HB.out | apply below_alloc | apply pw_below_drewN | apply below_drew1 | refine below_set ?_ GE162.out) | exact HB.out)) hb); clear HO172; clear HO175; clear BK162; clear HB; have HO172 := n0_; have HO175 := n1_; have BK162 := n2_; have HB := n3_; clear n0_ n1_ n2_ n3_; (try clear hb); (try clear hb2); (try clear hk); (try clear hi); have hcz45_0 : w44.cell? ⟨gb162, 0, none⟩ = some (.int .i64 t160) := (blk_cell BK162.out 0).trans rfl; have hcz45_1 : w44.cell? ⟨gb162, 1, none⟩ = some (.int .i64 t161) := (blk_cell BK162.out 1).trans rfl; have hfz45_0 := blk_frozen BK162.out 0; have hfz45_1 := blk_frozen BK162.out 1) | (go_at_call 27; (with_reducible refine (impl_BakedWeight.calls t160 t161 0 t178 _ A31.out).mono ?_); rintro e w46 ⟨rfl, hb⟩; have n0_ := Aside0.mk (Kd.R_below (by (with_reducible repeat (first | apply Kd.R_alloc | apply Kd.R_drewN | apply Kd.R_drew)); exact HO172.out) hb); have n1_ := Aside0.mk (Kd.R_below (by (with_reducible repeat (first | apply Kd.R_alloc | apply Kd.R_drewN | apply Kd.R_drew)); exact HO175.out) hb); have n2_ := Aside0.mk (blk_below (g := gb162) (o := .cells #[.int .i64 t160, .int .i64 t161] 36 (0, 0)) (by (with_reducible repeat (first | refine blk_drewN ?_ _ | refine blk_drew ?_ | refine blk_alloc ?_ _)); exact BK162.out) hb); have n3_ := Aside0.mk (below_step (by repeat (first | (with_reducible first | exact HB.out | apply below_alloc | apply pw_below_drewN | apply below_drew1 | refine below_set ?_ GE162.out) | exact HB.out)) hb); clear HO172; clear HO175; clear BK162; clear HB; have HO172 := n0_; have HO175 := n1_; have BK162 := n2_; have HB := n3_; clear n0_ n1_ n2_ n3_; (try clear hb); (try clear hb2); (try clear hk); (try clear hi); have hcz47_0 : w46.cell? ⟨gb162, 0, none⟩ = some (.int .i64 t160) := (blk_cell BK162.out 0).trans rfl; have hcz47_1 : w46.cell? ⟨gb162, 1, none⟩ = some (.int .i64 t161) := (blk_cell BK162.out 1).trans rfl; have hfz47_0 := blk_frozen BK162.out 0; have hfz47_1 := blk_frozen BK162.out 1) | (go_at_call 29; (with_reducible refine (impl_LoafOk.calls t160 t161 true _ A33.out).mono ?_); rintro e w48 ⟨rfl, hb⟩; have n0_ := Aside0.mk (Kd.R_below (by (with_reducible repeat (first | apply Kd.R_alloc | apply Kd.R_drewN | apply Kd.R_drew)); exact HO172.out) hb); have n1_ := Aside0.mk (Kd.R_below (by (with_reducible repeat (first | apply Kd.R_alloc | apply Kd.R_drewN | apply Kd.R_drew)); exact HO175.out) hb); have n2_ := Aside0.mk (blk_below (g := gb162) (o := .cells #[.int .i64 t160, .int .i64 t161] 36 (0, 0)) (by (with_reducible repeat (first | refine blk_drewN ?_ _ | refine blk_drew ?_ | refine blk_alloc ?_ _)); exact BK162.out) hb); have n3_ := Aside0.mk (below_step (by repeat (first | (with_reducible first | exact HB.out | apply below_alloc | apply pw_below_drewN | apply below_drew1 | refine below_set ?_ GE162.out) | exact HB.out)) hb); clear HO172; clear HO175; clear BK162; clear HB; have HO172 := n0_; have HO175 := n1_; have BK162 := n2_; have HB := n3_; clear n0_ n1_ n2_ n3_; (try clear hb); (try clear hb2); (try clear hk); (try clear hi)) | (go_at_call 27; (with_reducible refine (impl_BakedWeight.calls 500 15 589 t180 _ A35.out).mono ?_); rintro e w49 ⟨rfl, hb⟩; have n0_ := Aside0.mk (Kd.R_below (by (with_reducible repeat (first | apply Kd.R_alloc | apply Kd.R_drewN | apply Kd.R_drew)); exact HO172.out) hb); have n1_ := Aside0.mk (Kd.R_below (by (with_reducible repeat (first | apply Kd.R_alloc | apply Kd.R_drewN | apply Kd.R_drew)); exact HO175.out) hb); have n2_ := Aside0.mk (blk_below (g := gb162) (o := .cells #[.int .i64 t160, .int .i64 t161] 36 (0, 0)) (by (with_reducible repeat (first | refine blk_drewN ?_ _ | refine blk_drew ?_ | refine blk_alloc ?_ _)); exact BK162.out) hb); have n3_ := Aside0.mk (below_step (by repeat (first | (with_reducible first | exact HB.out | apply below_alloc | apply pw_below_drewN | apply below_drew1 | refine below_set ?_ GE162.out) | exact HB.out)) hb); clear HO172; clear HO175; clear BK162; clear HB; have HO172 := n0_; have HO175 := n1_; have BK162 := n2_; have HB := n3_; clear n0_ n1_ n2_ n3_; (try clear hb); (try clear hb2); (try clear hk); (try clear hi)))
                  go_ret
                  exact ⟨by first | rfl | (simp [errW_none, errW_some] <;> rfl) | (simp [*, errW_none, errW_some] <;> rfl), by repeat (first | (with_reducible first | exact HB.out | apply below_alloc | apply pw_below_drewN | apply below_drew1 | refine below_set ?_ GE162.out) | exact HB.out)⟩
                · replace c34 := Bool.eq_false_iff.mpr c34
                  subst c34
                  have H1 : (some false) = some true := by rw [if_neg (show ¬ (false = true) by decide)] at H; exact H
                  clear H
                  have H := H1
                  clear H1
                  exact absurd H (by simp)
              · rw [if_neg c32] at H
                have c32b0 : (t178 == 0) = false := beq_eq_false_iff_ne.mpr c32
                have c32b1 : (t178 != 0) = true := bne_iff_ne.mpr c32
                exact absurd H (by simp)
            · rw [if_neg c30] at H
              have c30b0 : (t177 == 0) = false := beq_eq_false_iff_ne.mpr c30
              have c30b1 : (t177 != 0) = true := bne_iff_ne.mpr c30
              exact absurd H (by simp)
          · rw [if_neg c28] at H
            have c28b0 : (t176 == (wrap64 ((wrap64 ((Int.tmod t166 50) + (Int.tmod t167 50))) * t163))) = false := beq_eq_false_iff_ne.mpr c28
            have c28b1 : (t176 != (wrap64 ((wrap64 ((Int.tmod t166 50) + (Int.tmod t167 50))) * t163))) = true := bne_iff_ne.mpr c28
            exact absurd H (by simp)

/-- THE ONE PURE STATEMENT of laws_FnPortions: yours. -/
def laws_FnPortions.Pure : Prop := ∀ (l0 : List Int), l0.length ≤ maxLen → l0.length * 1 ≤ 140737488351232 → (∀ x ∈ l0, (Lit.int .u8 x).wf = true) → ∃ k, laws_FnPortions.f k l0 = some true
theorem laws_FnPortions.walk (P : laws_FnPortions.Pure) (a0 : Option Addr) (len0 cap0 : Nat) (z0 : List Int) (w : World) (w0 : (a0 = none ∧ len0 = 0 ∧ cap0 = 0 ∧ z0 = []) ∨ ∃ x, a0 = some x ∧ len0 ≤ cap0 ∧ cap0 ≤ maxLen ∧ z0.length = cap0 ∧ (∀ i, i < z0.length → w.cell? (x.add i) = some (.int .u8 (z0.getD i 0))) ∧ ∀ n ∈ z0, (Lit.int .u8 n).wf = true) (y0 : len0 * 1 ≤ 140737488351232) :
    Calls Try.prog 6 #[.slice a0 len0 cap0] w fun e w' => e = .returned (.bool true) ∧ Below w.heap.size w w' := by
  obtain ⟨l0, rfl, hr0, hm0, hw0, hc0⟩ := ReadsInt.ofRowC w0
  obtain ⟨k, h⟩ := P l0 hm0 y0 hw0
  refine (laws_FnPortions.calls k _ _ l0 w (Kd.C_of_reads (d := (0 : Int)) (h1 := fun _ => rfl) hr0) hc0 h).mono ?_
  rintro e w' ⟨rfl, hd⟩
  exact ⟨rfl, hd⟩

end Go.Proofs.Ytamdbkilpllfoaa.PFnPortions

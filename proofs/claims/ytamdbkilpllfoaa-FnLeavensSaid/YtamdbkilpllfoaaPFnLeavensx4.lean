/- What is proved here: each Go function that the law FnLeavens reaches comes to what the plain Lean function beside it says; some by hand, the others as printed over them. No condition is added. -/
-- shrunk
import Derived.Test.YtamdbkilpllfoaaPFnLeavensx0
import Derived.Test.YtamdbkilpllfoaaPFnLeavensx1
import Derived.Test.YtamdbkilpllfoaaPFnLeavensx2
import Derived.Test.YtamdbkilpllfoaaPFnLeavensx3
namespace Go.Proofs.Ytamdbkilpllfoaa.PFnLeavens
open Go.RowKit Go.Proofs.YtamdbkilpllfoaaW.PrintWords Go.Proofs.YtamdbkilpllfoaaW.PrintLast Go.Proofs.YtamdbkilpllfoaaW.PrintMore
attribute [local go_sem] max2_int min2_int max_two min_two max_three min_three max_four min_four   -- for this text's walks alone
set_option linter.unusedVariables false
set_option linter.unusedSimpArgs false

/-! ### laws_FnLeavens: function 8 -/
set_option maxHeartbeats 8000000 in
set_option maxRecDepth 100000 in
theorem laws_FnLeavens.calls (k : Nat) (A0 : Option Addr) (c0 : Nat) (l0 : List Int) (w : World) (hr0 : Kd.C (Kd.int .u8) w A0 l0.length l0) (hc0 : l0.length ≤ c0) (h : laws_FnLeavens.f k l0 = some true) :
  Calls Try.prog 8 #[.slice A0 l0.length c0] w fun e w' => e = .returned (.bool true) ∧ Below w.heap.size w w' := by
 have hu49 := Try.underlying49
 have HR0 := Aside0.mk hr0
 have HC0 := Aside0.mk hc0
 clear hr0 hc0
 have HB := Aside0.mk (Below.refl w.heap.size w)
 have H : ((laws_big.f l0).bind fun t185 => (if t185 = true then (some true) else ((spec_DrawLeaven.f k l0).bind fun bt186 => ((laws_at.f l0 0).bind fun t189 => ((impl_Feed.f k bt186.1 bt186.2 (wrap64 (1 + (Int.tmod t189 4)))).bind fun bt190 => ((laws_at.f l0 1).bind fun t194 => ((impl_FeedingsFor.f k bt186.1 bt186.2 (wrap64 (1 + (Int.tmod t189 4))) (wrap64 (t194 * 10))).bind fun t195 => (if bt190.2.2 = true then (if bt190.1 = (wrap64 (bt186.1 * (wrap64 ((wrap64 (1 + (Int.tmod t189 4))) + 1)))) then (if bt190.2.1 = (wrap64 (bt186.2 + 1)) then (laws_FnLeavens.j0 k l0 (wrap64 (1 + (Int.tmod t189 4))) (wrap64 (t194 * 10)) t195 (decide (t195 < 0)) bt186.1 bt186.2) else (laws_FnLeavens.j0 k l0 (wrap64 (1 + (Int.tmod t189 4))) (wrap64 (t194 * 10)) t195 true bt186.1 bt186.2)) else (laws_FnLeavens.j0 k l0 (wrap64 (1 + (Int.tmod t189 4))) (wrap64 (t194 * 10)) t195 true bt186.1 bt186.2)) else (laws_FnLeavens.j0 k l0 (wrap64 (1 + (Int.tmod t189 4))) (wrap64 (t194 * 10)) t195 true bt186.1 bt186.2))))))))) = some true := h
 clear h
 replace H := Option.bind_eq_some_iff.mp H
 obtain ⟨t185, A20, H⟩ := H
 replace H : (if t185 = true then (some true) else ((spec_DrawLeaven.f k l0).bind fun bt186 => ((laws_at.f l0 0).bind fun t189 => ((impl_Feed.f k bt186.1 bt186.2 (wrap64 (1 + (Int.tmod t189 4)))).bind fun bt190 => ((laws_at.f l0 1).bind fun t194 => ((impl_FeedingsFor.f k bt186.1 bt186.2 (wrap64 (1 + (Int.tmod t189 4))) (wrap64 (t194 * 10))).bind fun t195 => (if bt190.2.2 = true then (if bt190.1 = (wrap64 (bt186.1 * (wrap64 ((wrap64 (1 + (Int.tmod t189 4))) + 1)))) then (if bt190.2.1 = (wrap64 (bt186.2 + 1)) then (laws_FnLeavens.j0 k l0 (wrap64 (1 + (Int.tmod t189 4))) (wrap64 (t194 * 10)) t195 (decide (t195 < 0)) bt186.1 bt186.2) else (laws_FnLeavens.j0 k l0 (wrap64 (1 + (Int.tmod t189 4))) (wrap64 (t194 * 10)) t195 true bt186.1 bt186.2)) else (laws_FnLeavens.j0 k l0 (wrap64 (1 + (Int.tmod t189 4))) (wrap64 (t194 * 10)) t195 true bt186.1 bt186.2)) else (laws_FnLeavens.j0 k l0 (wrap64 (1 + (Int.tmod t189 4))) (wrap64 (t194 * 10)) t195 true bt186.1 bt186.2)))))))) = some true := H
 have A2 := Aside0.mk A20
 clear A20
 by_cases c3 : t185 = true
 · subst c3
   have H1 : (some true) = some true := rfl
   clear H
   have H := H1
   clear H1
   have hT_ := Option.some.inj H
   go_enter Try.func8, Try.ntmps8
   go_wp2_with (first | ((with_reducible refine gate_callee (f := 18) rfl ?_); refine goesL_ (some 25) rfl rfl Try.func18 (by kernel_rfl) rfl #[.slice A0 l0.length c0] rfl (by (try simp only [List.map_toArray, List.map_cons, List.map_nil]); first | done | rfl | (simp only [List.length_drop, List.length_take]; rfl)) ?_; (with_reducible refine (laws_big.calls _ _ l0 true _ ?side1 ?side2 A2.out).mono ?_); (case side1 => repeat (first | exact HR0.out | (with_reducible refine Kd.C_alloc ?_ _) | (with_reducible refine Kd.C_drewN ?_ _) | (with_reducible refine Kd.C_drew ?_))); (case side2 => exact HC0.out); rintro e w' ⟨rfl, ⟨nd, rfl⟩⟩; refine ⟨_, rfl, ?_⟩))
   go_ret
   exact ⟨by first | rfl | (simp [errW_none, errW_some] <;> rfl) | (simp [*, errW_none, errW_some] <;> rfl), by repeat (first | (with_reducible first | exact HB.out | apply below_alloc | apply pw_below_drewN | apply below_drew1) | exact HB.out)⟩
 · replace c3 := Bool.eq_false_iff.mpr c3
   subst c3
   have H1 : ((spec_DrawLeaven.f k l0).bind fun bt186 => ((laws_at.f l0 0).bind fun t189 => ((impl_Feed.f k bt186.1 bt186.2 (wrap64 (1 + (Int.tmod t189 4)))).bind fun bt190 => ((laws_at.f l0 1).bind fun t194 => ((impl_FeedingsFor.f k bt186.1 bt186.2 (wrap64 (1 + (Int.tmod t189 4))) (wrap64 (t194 * 10))).bind fun t195 => (if bt190.2.2 = true then (if bt190.1 = (wrap64 (bt186.1 * (wrap64 ((wrap64 (1 + (Int.tmod t189 4))) + 1)))) then (if bt190.2.1 = (wrap64 (bt186.2 + 1)) then (laws_FnLeavens.j0 k l0 (wrap64 (1 + (Int.tmod t189 4))) (wrap64 (t194 * 10)) t195 (decide (t195 < 0)) bt186.1 bt186.2) else (laws_FnLeavens.j0 k l0 (wrap64 (1 + (Int.tmod t189 4))) (wrap64 (t194 * 10)) t195 true bt186.1 bt186.2)) else (laws_FnLeavens.j0 k l0 (wrap64 (1 + (Int.tmod t189 4))) (wrap64 (t194 * 10)) t195 true bt186.1 bt186.2)) else (laws_FnLeavens.j0 k l0 (wrap64 (1 + (Int.tmod t189 4))) (wrap64 (t194 * 10)) t195 true bt186.1 bt186.2))))))) = some true := by rw [if_neg (show ¬ (false = true) by decide)] at H; exact H
   clear H
   have H := H1
   clear H1
   replace H := Option.bind_eq_some_iff.mp H
   obtain ⟨⟨t186, t187⟩, A40, H⟩ := H
   replace H : ((laws_at.f l0 0).bind fun t189 => ((impl_Feed.f k t186 t187 (wrap64 (1 + (Int.tmod t189 4)))).bind fun bt190 => ((laws_at.f l0 1).bind fun t194 => ((impl_FeedingsFor.f k t186 t187 (wrap64 (1 + (Int.tmod t189 4))) (wrap64 (t194 * 10))).bind fun t195 => (if bt190.2.2 = true then (if bt190.1 = (wrap64 (t186 * (wrap64 ((wrap64 (1 + (Int.tmod t189 4))) + 1)))) then (if bt190.2.1 = (wrap64 (t187 + 1)) then (laws_FnLeavens.j0 k l0 (wrap64 (1 + (Int.tmod t189 4))) (wrap64 (t194 * 10)) t195 (decide (t195 < 0)) t186 t187) else (laws_FnLeavens.j0 k l0 (wrap64 (1 + (Int.tmod t189 4))) (wrap64 (t194 * 10)) t195 true t186 t187)) else (laws_FnLeavens.j0 k l0 (wrap64 (1 + (Int.tmod t189 4))) (wrap64 (t194 * 10)) t195 true t186 t187)) else (laws_FnLeavens.j0 k l0 (wrap64 (1 + (Int.tmod t189 4))) (wrap64 (t194 * 10)) t195 true t186 t187)))))) = some true := H
   have A4 := Aside0.mk A40
   clear A40
   replace H := Option.bind_eq_some_iff.mp H
   obtain ⟨t189, A50, H⟩ := H
   replace H : ((impl_Feed.f k t186 t187 (wrap64 (1 + (Int.tmod t189 4)))).bind fun bt190 => ((laws_at.f l0 1).bind fun t194 => ((impl_FeedingsFor.f k t186 t187 (wrap64 (1 + (Int.tmod t189 4))) (wrap64 (t194 * 10))).bind fun t195 => (if bt190.2.2 = true then (if bt190.1 = (wrap64 (t186 * (wrap64 ((wrap64 (1 + (Int.tmod t189 4))) + 1)))) then (if bt190.2.1 = (wrap64 (t187 + 1)) then (laws_FnLeavens.j0 k l0 (wrap64 (1 + (Int.tmod t189 4))) (wrap64 (t194 * 10)) t195 (decide (t195 < 0)) t186 t187) else (laws_FnLeavens.j0 k l0 (wrap64 (1 + (Int.tmod t189 4))) (wrap64 (t194 * 10)) t195 true t186 t187)) else (laws_FnLeavens.j0 k l0 (wrap64 (1 + (Int.tmod t189 4))) (wrap64 (t194 * 10)) t195 true t186 t187)) else (laws_FnLeavens.j0 k l0 (wrap64 (1 + (Int.tmod t189 4))) (wrap64 (t194 * 10)) t195 true t186 t187))))) = some true := H
   have A5 := Aside0.mk A50
   clear A50
   replace H := Option.bind_eq_some_iff.mp H
   obtain ⟨⟨t190, t191, t192⟩, A60, H⟩ := H
   replace H : ((laws_at.f l0 1).bind fun t194 => ((impl_FeedingsFor.f k t186 t187 (wrap64 (1 + (Int.tmod t189 4))) (wrap64 (t194 * 10))).bind fun t195 => (if t192 = true then (if t190 = (wrap64 (t186 * (wrap64 ((wrap64 (1 + (Int.tmod t189 4))) + 1)))) then (if t191 = (wrap64 (t187 + 1)) then (laws_FnLeavens.j0 k l0 (wrap64 (1 + (Int.tmod t189 4))) (wrap64 (t194 * 10)) t195 (decide (t195 < 0)) t186 t187) else (laws_FnLeavens.j0 k l0 (wrap64 (1 + (Int.tmod t189 4))) (wrap64 (t194 * 10)) t195 true t186 t187)) else (laws_FnLeavens.j0 k l0 (wrap64 (1 + (Int.tmod t189 4))) (wrap64 (t194 * 10)) t195 true t186 t187)) else (laws_FnLeavens.j0 k l0 (wrap64 (1 + (Int.tmod t189 4))) (wrap64 (t194 * 10)) t195 true t186 t187)))) = some true := H
   have A6 := Aside0.mk A60
   clear A60
   replace H := Option.bind_eq_some_iff.mp H
   obtain ⟨t194, A70, H⟩ := H
   replace H : ((impl_FeedingsFor.f k t186 t187 (wrap64 (1 + (Int.tmod t189 4))) (wrap64 (t194 * 10))).bind fun t195 => (if t192 = true then (if t190 = (wrap64 (t186 * (wrap64 ((wrap64 (1 + (Int.tmod t189 4))) + 1)))) then (if t191 = (wrap64 (t187 + 1)) then (laws_FnLeavens.j0 k l0 (wrap64 (1 + (Int.tmod t189 4))) (wrap64 (t194 * 10)) t195 (decide (t195 < 0)) t186 t187) else (laws_FnLeavens.j0 k l0 (wrap64 (1 + (Int.tmod t189 4))) (wrap64 (t194 * 10)) t195 true t186 t187)) else (laws_FnLeavens.j0 k l0 (wrap64 (1 + (Int.tmod t189 4))) (wrap64 (t194 * 10)) t195 true t186 t187)) else (laws_FnLeavens.j0 k l0 (wrap64 (1 + (Int.tmod t189 4))) (wrap64 (t194 * 10)) t195 true t186 t187))) = some true := H
   have A7 := Aside0.mk A70
   clear A70
   replace H := Option.bind_eq_some_iff.mp H
   obtain ⟨t195, A80, H⟩ := H
   replace H : (if t192 = true then (if t190 = (wrap64 (t186 * (wrap64 ((wrap64 (1 + (Int.tmod t189 4))) + 1)))) then (if t191 = (wrap64 (t187 + 1)) then (laws_FnLeavens.j0 k l0 (wrap64 (1 + (Int.tmod t189 4))) (wrap64 (t194 * 10)) t195 (decide (t195 < 0)) t186 t187) else (laws_FnLeavens.j0 k l0 (wrap64 (1 + (Int.tmod t189 4))) (wrap64 (t194 * 10)) t195 true t186 t187)) else (laws_FnLeavens.j0 k l0 (wrap64 (1 + (Int.tmod t189 4))) (wrap64 (t194 * 10)) t195 true t186 t187)) else (laws_FnLeavens.j0 k l0 (wrap64 (1 + (Int.tmod t189 4))) (wrap64 (t194 * 10)) t195 true t186 t187)) = some true := H
   have A8 := Aside0.mk A80
   clear A80
   have HC9 := Aside0.mk H
   clear H
   go_enter Try.func8, Try.ntmps8
   go_upto_region 8 with (first | ((with_reducible refine gate_callee (f := 18) rfl ?_); refine goesL_ (some 25) rfl rfl Try.func18 (by kernel_rfl) rfl #[.slice A0 l0.length c0] rfl (by (try simp only [List.map_toArray, List.map_cons, List.map_nil]); first | done | rfl | (simp only [List.length_drop, List.length_take]; rfl)) ?_; (with_reducible refine (laws_big.calls _ _ l0 false _ ?side1 ?side2 A2.out).mono ?_); (case side1 => repeat (first | exact HR0.out | (with_reducible refine Kd.C_alloc ?_ _) | (with_reducible refine Kd.C_drewN ?_ _) | (with_reducible refine Kd.C_drew ?_))); (case side2 => exact HC0.out); rintro e w' ⟨rfl, ⟨nd, rfl⟩⟩; refine ⟨_, rfl, ?_⟩) | ((with_reducible refine gate_callee (f := 34) rfl ?_); refine goesL_ (some 27) rfl rfl Try.func34 (by kernel_rfl) rfl #[.slice A0 l0.length c0] rfl (by (try simp only [List.map_toArray, List.map_cons, List.map_nil]); first | done | rfl | (simp only [List.length_drop, List.length_take]; rfl)) ?_; (with_reducible refine (spec_DrawLeaven.calls k _ _ l0 t186 t187 _ ?side1 ?side2 A4.out).mono ?_); (case side1 => repeat (first | exact HR0.out | (with_reducible refine Kd.C_alloc ?_ _) | (with_reducible refine Kd.C_drewN ?_ _) | (with_reducible refine Kd.C_drew ?_))); (case side2 => exact HC0.out); rintro e w10 ⟨rfl, hb⟩; refine ⟨_, rfl, ?_⟩; have n0_ := Aside0.mk (below_step (by repeat (first | (with_reducible first | exact HB.out | apply below_alloc | apply pw_below_drewN | apply below_drew1) | exact HB.out)) hb); clear HB; have HB := n0_; clear n0_; (try clear hb); (try clear hb2); (try clear hk); (try clear hi)) | ((with_reducible refine gate_dst (N := 3) rfl ?_); refine box_event ?hg (N := 3) ?hd (cs := #[.int .i64 0, .int .i64 0]) (t := 49) ?hr ?_; (case hd => rfl); (case hg => rfl); (case hr => first | (go_simp; done) | (go_simp; rfl)); intro gb188 hg w11 hbox hb; have n0_ := Aside0.mk (below_step (by repeat (first | (with_reducible first | exact HB.out | apply below_alloc | apply pw_below_drewN | apply below_drew1) | exact HB.out)) hb); have n1_ := Aside0.mk (hbox); have n2_ := Aside0.mk ((by rw [hg]; exact (below_size (by repeat (first | (with_reducible first | exact HB.out | apply below_alloc | apply pw_below_drewN | apply below_drew1) | exact HB.out))) : w.heap.size ≤ gb188)); have n3_ := Aside0.mk ((by rw [hg]; exact (below_size (by repeat (first | (with_reducible first | exact HB.out | apply below_alloc | apply pw_below_drewN | apply below_drew1) | exact HB.out))) : w.heap.size ≤ gb188)); clear HB; have HB := n0_; have BK188 := n1_; have GW188 := n2_; have GE188 := n3_; clear n0_ n1_ n2_ n3_; clear hb hbox hg; have hcz12_0 : w11.cell? ⟨gb188, 0, none⟩ = some (.int .i64 0) := (blk_cell BK188.out 0).trans rfl; have hcz12_1 : w11.cell? ⟨gb188, 1, none⟩ = some (.int .i64 0) := (blk_cell BK188.out 1).trans rfl; have hfz12_0 := blk_frozen BK188.out 0; have hfz12_1 := blk_frozen BK188.out 1) | ((with_reducible refine gate_callee (f := 20) rfl ?_); refine goesL_ (some 29) rfl rfl Try.func20 (by kernel_rfl) rfl #[.slice A0 l0.length c0, .int .i64 0] rfl (by (try simp only [List.map_toArray, List.map_cons, List.map_nil]); first | done | rfl | (simp only [List.length_drop, List.length_take]; rfl)) ?_; (with_reducible refine (laws_at.calls _ _ l0 0 t189 _ ?side1 ?side2 A5.out).mono ?_); (case side1 => exact Kd.C_below HR0.out (by repeat (first | (with_reducible first | exact HB.out | apply below_alloc | apply pw_below_drewN | apply below_drew1 | refine below_set ?_ GE188.out) | exact HB.out))); (case side2 => exact HC0.out); rintro e w' ⟨rfl, ⟨nd, rfl⟩⟩; refine ⟨_, rfl, ?_⟩) | ((with_reducible refine gate_callee (f := 35) rfl ?_); refine goesL_ (some 35) rfl rfl Try.func35 (by kernel_rfl) rfl #[.agg #[.int .i64 t186, .int .i64 t187], .int .i64 (wrap64 (1 + (Int.tmod t189 4)))] rfl (by (try simp only [List.map_toArray, List.map_cons, List.map_nil]); first | done | rfl | (simp only [List.length_drop, List.length_take]; rfl)) ?_; (with_reducible refine (impl_Feed.calls k t186 t187 (wrap64 (1 + (Int.tmod t189 4))) t190 t191 t192 _ A6.out).mono ?_); rintro e w13 ⟨rfl, hb⟩; refine ⟨_, rfl, ?_⟩; have n0_ := Aside0.mk (blk_below (g := gb188) (o := .cells #[.int .i64 t186, .int .i64 t187] 49 (0, 0)) (by (with_reducible repeat (first | refine blk_drewN ?_ _ | refine blk_drew ?_ | refine blk_alloc ?_ _)); refine blk_put (cs := #[.int .i64 t186, .int .i64 0]) ?_ 1 _ rfl; (with_reducible repeat (first | refine blk_drewN ?_ _ | refine blk_drew ?_ | refine blk_alloc ?_ _)); refine blk_put (cs := #[.int .i64 0, .int .i64 0]) ?_ 0 _ rfl; (with_reducible repeat (first | refine blk_drewN ?_ _ | refine blk_drew ?_ | refine blk_alloc ?_ _)); exact BK188.out) hb); have n1_ := Aside0.mk (below_step (by repeat (first | (with_reducible first | exact HB.out | apply below_alloc | apply pw_below_drewN | apply below_drew1 | refine below_set ?_ GE188.out) | exact HB.out)) hb); clear BK188; clear HB; have BK188 := n0_; have HB := n1_; clear n0_ n1_; (try clear hb); (try clear hb2); (try clear hk); (try clear hi)) | ((with_reducible refine gate_dst (N := 5) rfl ?_); refine box_event ?hg (N := 5) ?hd (cs := #[.int .i64 0, .int .i64 0]) (t := 49) ?hr ?_; (case hd => rfl); (case hg => rfl); (case hr => first | (go_simp; done) | (go_simp; rfl)); intro gb193 hg w14 hbox hb; have n0_ := Aside0.mk (blk_below (g := gb188) (o := .cells #[.int .i64 t186, .int .i64 t187] 49 (0, 0)) (by (with_reducible repeat (first | refine blk_drewN ?_ _ | refine blk_drew ?_ | refine blk_alloc ?_ _)); exact BK188.out) hb); have n1_ := Aside0.mk (below_step (by repeat (first | (with_reducible first | exact HB.out | apply below_alloc | apply pw_below_drewN | apply below_drew1 | refine below_set ?_ GE188.out) | exact HB.out)) hb); have n2_ := Aside0.mk (hbox); have n3_ := Aside0.mk ((by rw [hg]; exact (below_size (by repeat (first | (with_reducible first | exact HB.out | apply below_alloc | apply pw_below_drewN | apply below_drew1 | refine below_set ?_ GE188.out) | exact HB.out))) : w.heap.size ≤ gb193)); have n4_ := Aside0.mk ((by rw [hg]; exact (below_size (by repeat (first | (with_reducible first | exact HB.out | apply below_alloc | apply pw_below_drewN | apply below_drew1 | refine below_set ?_ GE188.out) | exact HB.out))) : w.heap.size ≤ gb193)); have n5_ := Aside0.mk ((by rw [hg]; exact Nat.ne_of_lt (blk_lt (g := gb188) (o := .cells #[.int .i64 t186, .int .i64 t187] 49 (0, 0)) (by (with_reducible repeat (first | refine blk_drewN ?_ _ | refine blk_drew ?_ | refine blk_alloc ?_ _)); exact BK188.out)) : gb188 ≠ gb193)); have n6_ := Aside0.mk ((by rw [hg]; exact Nat.ne_of_gt (blk_lt (g := gb188) (o := .cells #[.int .i64 t186, .int .i64 t187] 49 (0, 0)) (by (with_reducible repeat (first | refine blk_drewN ?_ _ | refine blk_drew ?_ | refine blk_alloc ?_ _)); exact BK188.out)) : gb193 ≠ gb188)); clear BK188; clear HB; have BK188 := n0_; have HB := n1_; have BK193 := n2_; have GW193 := n3_; have GE193 := n4_; have NB188_193 := n5_; have NB193_188 := n6_; clear n0_ n1_ n2_ n3_ n4_ n5_ n6_; clear hb hbox hg; have hnb15 := NB193_188.out; have hnc15 := NB188_193.out; have hcz16_0 : w14.cell? ⟨gb193, 0, none⟩ = some (.int .i64 0) := (blk_cell BK193.out 0).trans rfl; have hcz16_1 : w14.cell? ⟨gb193, 1, none⟩ = some (.int .i64 0) := (blk_cell BK193.out 1).trans rfl; have hfz16_0 := blk_frozen BK193.out 0; have hfz16_1 := blk_frozen BK193.out 1) | ((with_reducible refine gate_callee (f := 20) rfl ?_); refine goesL_ (some 39) rfl rfl Try.func20 (by kernel_rfl) rfl #[.slice A0 l0.length c0, .int .i64 1] rfl (by (try simp only [List.map_toArray, List.map_cons, List.map_nil]); first | done | rfl | (simp only [List.length_drop, List.length_take]; rfl)) ?_; (with_reducible refine (laws_at.calls _ _ l0 1 t194 _ ?side1 ?side2 A7.out).mono ?_); (case side1 => exact Kd.C_below HR0.out (by repeat (first | (with_reducible first | exact HB.out | apply below_alloc | apply pw_below_drewN | apply below_drew1 | refine below_set ?_ GE188.out | refine below_set ?_ GE193.out) | exact HB.out))); (case side2 => exact HC0.out); rintro e w' ⟨rfl, ⟨nd, rfl⟩⟩; refine ⟨_, rfl, ?_⟩; have hcz17_0 : w14.cell? ⟨gb188, 0, none⟩ = some (.int .i64 t186) := (blk_cell BK188.out 0).trans rfl; have hcz17_1 : w14.cell? ⟨gb188, 1, none⟩ = some (.int .i64 t187) := (blk_cell BK188.out 1).trans rfl; have hfz17_0 := blk_frozen BK188.out 0; have hfz17_1 := blk_frozen BK188.out 1) | ((with_reducible refine gate_callee (f := 36) rfl ?_); refine goesL_ (some 44) rfl rfl Try.func36 (by kernel_rfl) rfl #[.agg #[.int .i64 t186, .int .i64 t187], .int .i64 (wrap64 (1 + (Int.tmod t189 4))), .int .i64 (wrap64 (t194 * 10))] rfl (by (try simp only [List.map_toArray, List.map_cons, List.map_nil]); first | done | rfl | (simp only [List.length_drop, List.length_take]; rfl)) ?_; (with_reducible refine (impl_FeedingsFor.calls k t186 t187 (wrap64 (1 + (Int.tmod t189 4))) (wrap64 (t194 * 10)) t195 _ A8.out).mono ?_); rintro e w18 ⟨rfl, hb⟩; refine ⟨_, rfl, ?_⟩; have n0_ := Aside0.mk (blk_below (g := gb188) (o := .cells #[.int .i64 t186, .int .i64 t187] 49 (0, 0)) (by (with_reducible repeat (first | refine blk_drewN ?_ _ | refine blk_drew ?_ | refine blk_alloc ?_ _)); refine blk_far ?_ NB188_193.out _; (with_reducible repeat (first | refine blk_drewN ?_ _ | refine blk_drew ?_ | refine blk_alloc ?_ _)); refine blk_far ?_ NB188_193.out _; (with_reducible repeat (first | refine blk_drewN ?_ _ | refine blk_drew ?_ | refine blk_alloc ?_ _)); exact BK188.out) hb); have n1_ := Aside0.mk (blk_below (g := gb193) (o := .cells #[.int .i64 t190, .int .i64 t191] 49 (0, 0)) (by (with_reducible repeat (first | refine blk_drewN ?_ _ | refine blk_drew ?_ | refine blk_alloc ?_ _)); refine blk_put (cs := #[.int .i64 t190, .int .i64 0]) ?_ 1 _ rfl; (with_reducible repeat (first | refine blk_drewN ?_ _ | refine blk_drew ?_ | refine blk_alloc ?_ _)); refine blk_put (cs := #[.int .i64 0, .int .i64 0]) ?_ 0 _ rfl; (with_reducible repeat (first | refine blk_drewN ?_ _ | refine blk_drew ?_ | refine blk_alloc ?_ _)); exact BK193.out) hb); have n2_ := Aside0.mk (below_step (by repeat (first | (with_reducible first | exact HB.out | apply below_alloc | apply pw_below_drewN | apply below_drew1 | refine below_set ?_ GE188.out | refine below_set ?_ GE193.out) | exact HB.out)) hb); clear BK188; clear BK193; clear HB; have BK188 := n0_; have BK193 := n1_; have HB := n2_; clear n0_ n1_ n2_; (try clear hb); (try clear hb2); (try clear hk); (try clear hi)))
   (try simp only [Act.put, List.setIfInBounds_toArray, List.set_cons_zero, List.set_cons_succ])
   go_cut [68] (fun v68 wc => ∃ (kq : Nat) (x68_8 : Bool), v68 = .bool x68_8 ∧ Aside0 (laws_FnLeavens.j0 kq l0 (wrap64 (1 + (Int.tmod t189 4))) (wrap64 (t194 * 10)) t195 x68_8 t186 t187 = some true) ∧ Aside0 (kq ≤ k) ∧ Aside0 (wc.heap[gb188]? = some (.cells #[.int .i64 t186, .int .i64 t187] 49 (0, 0))) ∧ Aside0 (wc.heap[gb193]? = some (.cells #[.int .i64 t190, .int .i64 t191] 49 (0, 0))) ∧ Aside0 (Below w.heap.size w wc))
   case first =>
    have H := HC9.out
    clear HC9
    by_cases c19 : t192 = true
    · subst c19
      have H1 : (if t190 = (wrap64 (t186 * (wrap64 ((wrap64 (1 + (Int.tmod t189 4))) + 1)))) then (if t191 = (wrap64 (t187 + 1)) then (laws_FnLeavens.j0 k l0 (wrap64 (1 + (Int.tmod t189 4))) (wrap64 (t194 * 10)) t195 (decide (t195 < 0)) t186 t187) else (laws_FnLeavens.j0 k l0 (wrap64 (1 + (Int.tmod t189 4))) (wrap64 (t194 * 10)) t195 true t186 t187)) else (laws_FnLeavens.j0 k l0 (wrap64 (1 + (Int.tmod t189 4))) (wrap64 (t194 * 10)) t195 true t186 t187)) = some true := by rw [if_pos rfl] at H; exact H
      clear H
      have H := H1
      clear H1
      by_cases c20 : t190 = (wrap64 (t186 * (wrap64 ((wrap64 (1 + (Int.tmod t189 4))) + 1))))
      · rw [if_pos c20] at H
        have c20b0 : (t190 == (wrap64 (t186 * (wrap64 ((wrap64 (1 + (Int.tmod t189 4))) + 1))))) = true := beq_iff_eq.mpr c20
        have c20b1 : (t190 != (wrap64 (t186 * (wrap64 ((wrap64 (1 + (Int.tmod t189 4))) + 1))))) = false := bne_eq_false_iff_eq.mpr c20
        clear c20
        (first | rw [c20b0] | (simp only [i64_w, i32_w]; rw [c20b0]) | skip)
        by_cases c21 : t191 = (wrap64 (t187 + 1))
        · rw [if_pos c21] at H
          have c21b0 : (t191 == (wrap64 (t187 + 1))) = true := beq_iff_eq.mpr c21
          have c21b1 : (t191 != (wrap64 (t187 + 1))) = false := bne_eq_false_iff_eq.mpr c21
          clear c21
          have H' := Aside0.mk H
          clear H
          have hnb22 := NB193_188.out
          have hnc22 := NB188_193.out
          have hcz23_0 : w18.cell? ⟨gb193, 0, none⟩ = some (.int .i64 t190) := (blk_cell BK193.out 0).trans rfl
          have hcz23_1 : w18.cell? ⟨gb193, 1, none⟩ = some (.int .i64 t191) := (blk_cell BK193.out 1).trans rfl
          have hfz23_0 := blk_frozen BK193.out 0
          have hfz23_1 := blk_frozen BK193.out 1
          have hcz24_0 : w18.cell? ⟨gb188, 0, none⟩ = some (.int .i64 t186) := (blk_cell BK188.out 0).trans rfl
          have hcz24_1 : w18.cell? ⟨gb188, 1, none⟩ = some (.int .i64 t187) := (blk_cell BK188.out 1).trans rfl
          have hfz24_0 := blk_frozen BK188.out 0
          have hfz24_1 := blk_frozen BK188.out 1
          go_wp2
          go_meet
          case rel => exact ⟨_, (decide (t195 < 0)), (by first | rfl | (simp; done) | (simp [*]; done)), H', ⟨by first | omega | exact Nat.le_refl _⟩, ⟨by (with_reducible repeat (first | refine blk_drewN ?_ _ | refine blk_drew ?_ | refine blk_alloc ?_ _)); exact BK188.out⟩, ⟨by (with_reducible repeat (first | refine blk_drewN ?_ _ | refine blk_drew ?_ | refine blk_alloc ?_ _)); exact BK193.out⟩, ⟨by repeat (first | (with_reducible first | exact HB.out | apply below_alloc | apply pw_below_drewN | apply below_drew1 | refine below_set ?_ GE188.out | refine below_set ?_ GE193.out) | exact HB.out)⟩⟩
        · rw [if_neg c21] at H
          have c21b0 : (t191 == (wrap64 (t187 + 1))) = false := beq_eq_false_iff_ne.mpr c21
          have c21b1 : (t191 != (wrap64 (t187 + 1))) = true := bne_iff_ne.mpr c21
          exact absurd H (laws_FnLeavens.j0_no _ _ _ _ _ _)
      · rw [if_neg c20] at H
        have c20b0 : (t190 == (wrap64 (t186 * (wrap64 ((wrap64 (1 + (Int.tmod t189 4))) + 1))))) = false := beq_eq_false_iff_ne.mpr c20
        have c20b1 : (t190 != (wrap64 (t186 * (wrap64 ((wrap64 (1 + (Int.tmod t189 4))) + 1))))) = true := bne_iff_ne.mpr c20
        (first | rw [c20b0] | (simp only [i64_w, i32_w]; rw [c20b0]) | skip)
        exact absurd H (laws_FnLeavens.j0_no _ _ _ _ _ _)
    · replace c19 := Bool.eq_false_iff.mpr c19
      subst c19
      have H1 : (laws_FnLeavens.j0 k l0 (wrap64 (1 + (Int.tmod t189 4))) (wrap64 (t194 * 10)) t195 true t186 t187) = some true := by rw [if_neg (show ¬ (false = true) by decide)] at H; exact H
      clear H
      have H := H1
      clear H1
      exact absurd H (laws_FnLeavens.j0_no _ _ _ _ _ _)
   case rest =>
    clear HC9
    try clear c1
    try clear c2
    try clear p2
    try clear c3
    try clear p6
    try clear c8
    try clear c15
    try clear c18
    try clear c19
    try clear c20
    try clear c20b0
    try clear c20b1
    try clear c21
    try clear c21b0
    try clear c21b1
    try clear c22
    try clear hcz12_0
    try clear hcz12_1
    try clear hcz16_0
    try clear hcz16_1
    try clear hcz17_0
    try clear hcz17_1
    try clear hcz23_0
    try clear hcz23_1
    try clear hcz24_0
    try clear hcz24_1
    try clear hfz12_0
    try clear hfz12_1
    try clear hfz16_0
    try clear hfz16_1
    try clear hfz17_0
    try clear hfz17_1
    try clear hfz23_0
    try clear hfz23_1
    try clear hfz24_0
    try clear hfz24_1
    obtain ⟨kq, x68_8, rfl, HA, HJ8, BK188, BK193, HB⟩ := hcut
    cases kq with
    | zero => exact absurd HA.out (by simp [laws_FnLeavens.j0])
    | succ kj8 =>
     have H := HA.out
     clear HA
     simp only [laws_FnLeavens.j0] at H
     by_cases c25 : x68_8 = true
     · subst c25
       have H1 : (some false) = some true := by rw [if_pos rfl] at H; exact H
       clear H
       have H := H1
       clear H1
       exact absurd H (by simp)
     · replace c25 := Bool.eq_false_iff.mpr c25
       subst c25
       have H1 : (laws_FnLeavens.l0 kj8 l0 (wrap64 (1 + (Int.tmod t189 4))) (wrap64 (t194 * 10)) t195 0 t186 t187 t186 t187) = some true := by rw [if_neg (show ¬ (false = true) by decide)] at H; exact H
       clear H
       have H := H1
       clear H1
       have H' := Aside0.mk H
       clear H
       have hnb26 := NB188_193.out
       have hnc26 := NB193_188.out
       have hcz27_0 : wc.cell? ⟨gb188, 0, none⟩ = some (.int .i64 t186) := (blk_cell BK188.out 0).trans rfl
       have hcz27_1 : wc.cell? ⟨gb188, 1, none⟩ = some (.int .i64 t187) := (blk_cell BK188.out 1).trans rfl
       have hfz27_0 := blk_frozen BK188.out 0
       have hfz27_1 := blk_frozen BK188.out 1
       go_wp2_with (first | ((with_reducible refine gate_dst (N := 9) rfl ?_); refine box_event ?hg (N := 9) ?hd (cs := #[.int .i64 0, .int .i64 0]) (t := 49) ?hr ?_; (case hd => rfl); (case hg => rfl); (case hr => first | (go_simp; done) | (go_simp; rfl)); intro gb196 hg w28 hbox hb; have n0_ := Aside0.mk (blk_below (g := gb188) (o := .cells #[.int .i64 t186, .int .i64 t187] 49 (0, 0)) (by (with_reducible repeat (first | refine blk_drewN ?_ _ | refine blk_drew ?_ | refine blk_alloc ?_ _)); exact BK188.out) hb); have n1_ := Aside0.mk (blk_below (g := gb193) (o := .cells #[.int .i64 t190, .int .i64 t191] 49 (0, 0)) (by (with_reducible repeat (first | refine blk_drewN ?_ _ | refine blk_drew ?_ | refine blk_alloc ?_ _)); exact BK193.out) hb); have n2_ := Aside0.mk (below_step (by repeat (first | (with_reducible first | exact HB.out | apply below_alloc | apply pw_below_drewN | apply below_drew1 | refine below_set ?_ GE188.out | refine below_set ?_ GE193.out) | exact HB.out)) hb); have n3_ := Aside0.mk (hbox); have n4_ := Aside0.mk ((by rw [hg]; exact (below_size (by repeat (first | (with_reducible first | exact HB.out | apply below_alloc | apply pw_below_drewN | apply below_drew1 | refine below_set ?_ GE188.out | refine below_set ?_ GE193.out) | exact HB.out))) : w.heap.size ≤ gb196)); have n5_ := Aside0.mk ((by rw [hg]; exact (below_size (by repeat (first | (with_reducible first | exact HB.out | apply below_alloc | apply pw_below_drewN | apply below_drew1 | refine below_set ?_ GE188.out | refine below_set ?_ GE193.out) | exact HB.out))) : w.heap.size ≤ gb196)); have n6_ := Aside0.mk ((by rw [hg]; exact Nat.ne_of_lt (blk_lt (g := gb188) (o := .cells #[.int .i64 t186, .int .i64 t187] 49 (0, 0)) (by (with_reducible repeat (first | refine blk_drewN ?_ _ | refine blk_drew ?_ | refine blk_alloc ?_ _)); exact BK188.out)) : gb188 ≠ gb196)); have n7_ := Aside0.mk ((by rw [hg]; exact Nat.ne_of_gt (blk_lt (g := gb188) (o := .cells #[.int .i64 t186, .int .i64 t187] 49 (0, 0)) (by (with_reducible repeat (first | refine blk_drewN ?_ _ | refine blk_drew ?_ | refine blk_alloc ?_ _)); exact BK188.out)) : gb196 ≠ gb188)); have n8_ := Aside0.mk ((by rw [hg]; exact Nat.ne_of_lt (blk_lt (g := gb193) (o := .cells #[.int .i64 t190, .int .i64 t191] 49 (0, 0)) (by (with_reducible repeat (first | refine blk_drewN ?_ _ | refine blk_drew ?_ | refine blk_alloc ?_ _)); exact BK193.out)) : gb193 ≠ gb196)); have n9_ := Aside0.mk ((by rw [hg]; exact Nat.ne_of_gt (blk_lt (g := gb193) (o := .cells #[.int .i64 t190, .int .i64 t191] 49 (0, 0)) (by (with_reducible repeat (first | refine blk_drewN ?_ _ | refine blk_drew ?_ | refine blk_alloc ?_ _)); exact BK193.out)) : gb196 ≠ gb193)); clear BK188; clear BK193; clear HB; have BK188 := n0_; have BK193 := n1_; have HB := n2_; have BK196 := n3_; have GW196 := n4_; have GE196 := n5_; have NB188_196 := n6_; have NB196_188 := n7_; have NB193_196 := n8_; have NB196_193 := n9_; clear n0_ n1_ n2_ n3_ n4_ n5_ n6_ n7_ n8_ n9_; clear hb hbox hg; have hnb29 := NB196_188.out; have hnc29 := NB188_196.out; have hnb30 := NB196_193.out; have hnc30 := NB193_196.out; have hcz31_0 : w28.cell? ⟨gb196, 0, none⟩ = some (.int .i64 0) := (blk_cell BK196.out 0).trans rfl; have hcz31_1 : w28.cell? ⟨gb196, 1, none⟩ = some (.int .i64 0) := (blk_cell BK196.out 1).trans rfl; have hfz31_0 := blk_frozen BK196.out 0; have hfz31_1 := blk_frozen BK196.out 1))
       go_loopg [10] kj8 (fun kq v10 w' => ∃ (x10_2 : Int) (x197000_2 : Int) (x197001_2 : Int), v10 = .int .i64 x10_2 ∧ Aside0 (laws_FnLeavens.l0 kq l0 (wrap64 (1 + (Int.tmod t189 4))) (wrap64 (t194 * 10)) t195 x10_2 t186 t187 x197000_2 x197001_2 = some true) ∧ Aside0 (kq ≤ kj8) ∧ Aside0 (w'.heap[gb188]? = some (.cells #[.int .i64 t186, .int .i64 t187] 49 (0, 0))) ∧ Aside0 (w'.heap[gb193]? = some (.cells #[.int .i64 t190, .int .i64 t191] 49 (0, 0))) ∧ Aside0 (w'.heap[gb196]? = some (.cells #[.int .i64 x197000_2, .int .i64 x197001_2] 49 (0, 0))) ∧ Aside0 (Below w.heap.size w w'))
       case atStart => exact ⟨(0), (t186), (t187), (by first | rfl | (simp; done) | (simp [*]; done)), H', ⟨Nat.le_refl _⟩, ⟨by (with_reducible repeat (first | refine blk_drewN ?_ _ | refine blk_drew ?_ | refine blk_alloc ?_ _)); refine blk_far ?_ NB188_196.out _; (with_reducible repeat (first | refine blk_drewN ?_ _ | refine blk_drew ?_ | refine blk_alloc ?_ _)); refine blk_far ?_ NB188_196.out _; (with_reducible repeat (first | refine blk_drewN ?_ _ | refine blk_drew ?_ | refine blk_alloc ?_ _)); exact BK188.out⟩, ⟨by (with_reducible repeat (first | refine blk_drewN ?_ _ | refine blk_drew ?_ | refine blk_alloc ?_ _)); refine blk_far ?_ NB193_196.out _; (with_reducible repeat (first | refine blk_drewN ?_ _ | refine blk_drew ?_ | refine blk_alloc ?_ _)); refine blk_far ?_ NB193_196.out _; (with_reducible repeat (first | refine blk_drewN ?_ _ | refine blk_drew ?_ | refine blk_alloc ?_ _)); exact BK193.out⟩, ⟨by (with_reducible repeat (first | refine blk_drewN ?_ _ | refine blk_drew ?_ | refine blk_alloc ?_ _)); refine blk_put (cs := #[.int .i64 t186, .int .i64 0]) ?_ 1 _ rfl; (with_reducible repeat (first | refine blk_drewN ?_ _ | refine blk_drew ?_ | refine blk_alloc ?_ _)); refine blk_put (cs := #[.int .i64 0, .int .i64 0]) ?_ 0 _ rfl; (with_reducible repeat (first | refine blk_drewN ?_ _ | refine blk_drew ?_ | refine blk_alloc ?_ _)); exact BK196.out⟩, ⟨by repeat (first | (with_reducible first | exact HB.out | apply below_alloc | apply pw_below_drewN | apply below_drew1 | refine below_set ?_ GE188.out | refine below_set ?_ GE193.out | refine below_set ?_ GE196.out) | exact HB.out)⟩⟩
       case round =>
        clear H'
        try clear c1
        try clear c2
        try clear p2
        try clear c3
        try clear p6
        try clear c8
        try clear c15
        try clear c18
        try clear c19
        try clear c20
        try clear c20b0
        try clear c20b1
        try clear c21
        try clear c21b0
        try clear c21b1
        try clear c22
        try clear c25
        try clear c26
        try clear c29
        try clear c30
        try clear hcz12_0
        try clear hcz12_1
        try clear hcz16_0
        try clear hcz16_1
        try clear hcz17_0
        try clear hcz17_1
        try clear hcz23_0
        try clear hcz23_1
        try clear hcz24_0
        try clear hcz24_1
        try clear hcz27_0
        try clear hcz27_1
        try clear hcz31_0
        try clear hcz31_1
        try clear hfz12_0
        try clear hfz12_1
        try clear hfz16_0
        try clear hfz16_1
        try clear hfz17_0
        try clear hfz17_1
        try clear hfz23_0
        try clear hfz23_1
        try clear hfz24_0
        try clear hfz24_1
        try clear hfz27_0
        try clear hfz27_1
        try clear hfz31_0
        try clear hfz31_1
        try clear p2
        try clear p6
        obtain ⟨x10_2, x197000_2, x197001_2, rfl, HA, HK2, BK188, BK193, BK196, HB⟩ := hrel
        cases gk with
        | zero => exact absurd HA.out (by simp [laws_FnLeavens.l0])
        | succ k2 =>
         have H := HA.out
         clear HA
         simp only [laws_FnLeavens.l0] at H
         by_cases c32 : x10_2 < t195
         · rw [if_pos c32] at H
           have c32b0 : decide (x10_2 < t195) = true := decide_eq_true c32
           clear c32
           by_cases c33 : x197000_2 ≥ (wrap64 (t194 * 10))
           · rw [if_pos c33] at H
             have c33b0 : decide ((wrap64 (t194 * 10)) ≤ x197000_2) = true := decide_eq_true c33
             clear c33
             exact absurd H (by simp)
           · rw [if_neg c33] at H
             have c33b0 : decide ((wrap64 (t194 * 10)) ≤ x197000_2) = false := decide_eq_false c33
             clear c33
             replace H := Option.bind_eq_some_iff.mp H
             obtain ⟨⟨t197, t198, t199⟩, A340, H⟩ := H
             replace H : (laws_FnLeavens.l0 k2 l0 (wrap64 (1 + (Int.tmod t189 4))) (wrap64 (t194 * 10)) t195 (wrap64 (x10_2 + 1)) t186 t187 t197 t198) = some true := H
             have A34 := Aside0.mk A340
             clear A340
             have H' := Aside0.mk H
             clear H
             have hnb35 := NB196_188.out
             have hnc35 := NB188_196.out
             have hnb36 := NB196_193.out
             have hnc36 := NB193_196.out
             have hcz37_0 : wr.cell? ⟨gb196, 0, none⟩ = some (.int .i64 x197000_2) := (blk_cell BK196.out 0).trans rfl
             have hcz37_1 : wr.cell? ⟨gb196, 1, none⟩ = some (.int .i64 x197001_2) := (blk_cell BK196.out 1).trans rfl
             have hfz37_0 := blk_frozen BK196.out 0
             have hfz37_1 := blk_frozen BK196.out 1
             go_wp2_with (first | ((with_reducible refine gate_callee (f := 35) rfl ?_); refine goesL_ (some 82) rfl rfl Try.func35 (by kernel_rfl) rfl #[.agg #[.int .i64 x197000_2, .int .i64 x197001_2], .int .i64 (wrap64 (1 + (Int.tmod t189 4)))] rfl (by (try simp only [List.map_toArray, List.map_cons, List.map_nil]); first | done | rfl | (simp only [List.length_drop, List.length_take]; rfl)) ?_; (with_reducible refine (impl_Feed.calls k2 x197000_2 x197001_2 (wrap64 (1 + (Int.tmod t189 4))) t197 t198 t199 _ A34.out).mono ?_); rintro e w38 ⟨rfl, hb⟩; refine ⟨_, rfl, ?_⟩; have n0_ := Aside0.mk (blk_below (g := gb188) (o := .cells #[.int .i64 t186, .int .i64 t187] 49 (0, 0)) (by (with_reducible repeat (first | refine blk_drewN ?_ _ | refine blk_drew ?_ | refine blk_alloc ?_ _)); exact BK188.out) hb); have n1_ := Aside0.mk (blk_below (g := gb193) (o := .cells #[.int .i64 t190, .int .i64 t191] 49 (0, 0)) (by (with_reducible repeat (first | refine blk_drewN ?_ _ | refine blk_drew ?_ | refine blk_alloc ?_ _)); exact BK193.out) hb); have n2_ := Aside0.mk (blk_below (g := gb196) (o := .cells #[.int .i64 x197000_2, .int .i64 x197001_2] 49 (0, 0)) (by (with_reducible repeat (first | refine blk_drewN ?_ _ | refine blk_drew ?_ | refine blk_alloc ?_ _)); exact BK196.out) hb); have n3_ := Aside0.mk (below_step (by repeat (first | (with_reducible first | exact HB.out | apply below_alloc | apply pw_below_drewN | apply below_drew1 | refine below_set ?_ GE188.out | refine below_set ?_ GE193.out | refine below_set ?_ GE196.out) | exact HB.out)) hb); clear BK188; clear BK193; clear BK196; clear HB; have BK188 := n0_; have BK193 := n1_; have BK196 := n2_; have HB := n3_; clear n0_ n1_ n2_ n3_; (try clear hb); (try clear hb2); (try clear hk); (try clear hi); have hcz39_0 : w38.cell? ⟨gb196, 0, none⟩ = some (.int .i64 x197000_2) := (blk_cell BK196.out 0).trans rfl; have hcz39_1 : w38.cell? ⟨gb196, 1, none⟩ = some (.int .i64 x197001_2) := (blk_cell BK196.out 1).trans rfl; have hfz39_0 := blk_frozen BK196.out 0; have hfz39_1 := blk_frozen BK196.out 1))
             go_roundg k2
             case measure => have := HJ8.out; have := HK2.out; omega
             case rel => exact ⟨(wrap64 (x10_2 + 1)), (t197), (t198), (by first | rfl | (simp; done) | (simp [*]; done)), H', ⟨by have := HJ8.out; have := HK2.out; omega⟩, ⟨by (with_reducible repeat (first | refine blk_drewN ?_ _ | refine blk_drew ?_ | refine blk_alloc ?_ _)); refine blk_far ?_ NB188_196.out _; (with_reducible repeat (first | refine blk_drewN ?_ _ | refine blk_drew ?_ | refine blk_alloc ?_ _)); refine blk_far ?_ NB188_196.out _; (with_reducible repeat (first | refine blk_drewN ?_ _ | refine blk_drew ?_ | refine blk_alloc ?_ _)); exact BK188.out⟩, ⟨by (with_reducible repeat (first | refine blk_drewN ?_ _ | refine blk_drew ?_ | refine blk_alloc ?_ _)); refine blk_far ?_ NB193_196.out _; (with_reducible repeat (first | refine blk_drewN ?_ _ | refine blk_drew ?_ | refine blk_alloc ?_ _)); refine blk_far ?_ NB193_196.out _; (with_reducible repeat (first | refine blk_drewN ?_ _ | refine blk_drew ?_ | refine blk_alloc ?_ _)); exact BK193.out⟩, ⟨by (with_reducible repeat (first | refine blk_drewN ?_ _ | refine blk_drew ?_ | refine blk_alloc ?_ _)); refine blk_put (cs := #[.int .i64 t197, .int .i64 x197001_2]) ?_ 1 _ rfl; (with_reducible repeat (first | refine blk_drewN ?_ _ | refine blk_drew ?_ | refine blk_alloc ?_ _)); refine blk_put (cs := #[.int .i64 x197000_2, .int .i64 x197001_2]) ?_ 0 _ rfl; (with_reducible repeat (first | refine blk_drewN ?_ _ | refine blk_drew ?_ | refine blk_alloc ?_ _)); exact BK196.out⟩, ⟨by repeat (first | (with_reducible first | exact HB.out | apply below_alloc | apply pw_below_drewN | apply below_drew1 | refine below_set ?_ GE188.out | refine below_set ?_ GE193.out | refine below_set ?_ GE196.out) | exact HB.out)⟩⟩
         · rw [if_neg c32] at H
           have c32b0 : decide (x10_2 < t195) = false := decide_eq_false c32
           clear c32
           by_cases c40 : x197000_2 < (wrap64 (t194 * 10))
           · rw [if_pos c40] at H
             have c40b0 : decide (x197000_2 < (wrap64 (t194 * 10))) = true := decide_eq_true c40
             clear c40
             exact absurd H (by simp)
           · rw [if_neg c40] at H
             have c40b0 : decide (x197000_2 < (wrap64 (t194 * 10))) = false := decide_eq_false c40
             clear c40
             replace H := Option.bind_eq_some_iff.mp H
             obtain ⟨t200, A410, H⟩ := H
             replace H : (if (wrap64 (t186 + 1)) = 0 then (none) else ((impl_TakeLeaven.f t186 t187 (Int.tmod t200 (wrap64 (t186 + 1))) 1).bind fun bt201 => (if (bt201.2.2 != (decide ((Int.tmod t200 (wrap64 (t186 + 1))) < t186))) = true then (laws_FnLeavens.j2 k2 l0 (wrap64 (1 + (Int.tmod t189 4))) true t186 t187) else (if bt201.2.2 = true then (laws_FnLeavens.j2 k2 l0 (wrap64 (1 + (Int.tmod t189 4))) (bt201.1 != (wrap64 (t186 - (Int.tmod t200 (wrap64 (t186 + 1)))))) t186 t187) else (laws_FnLeavens.j2 k2 l0 (wrap64 (1 + (Int.tmod t189 4))) false t186 t187))))) = some true := H
             have A41 := Aside0.mk A410
             clear A410
             by_cases c42 : (wrap64 (t186 + 1)) = 0
             · rw [if_pos c42] at H
               exact absurd H (by simp)
             · rw [if_neg c42] at H
               have c42b0 : ((wrap64 (t186 + 1)) == 0) = false := beq_eq_false_iff_ne.mpr c42
               have c42b1 : ((wrap64 (t186 + 1)) != 0) = true := bne_iff_ne.mpr c42
               replace H := Option.bind_eq_some_iff.mp H
               obtain ⟨⟨t201, t202, t203⟩, A430, H⟩ := H
               replace H : (if (t203 != (decide ((Int.tmod t200 (wrap64 (t186 + 1))) < t186))) = true then (laws_FnLeavens.j2 k2 l0 (wrap64 (1 + (Int.tmod t189 4))) true t186 t187) else (if t203 = true then (laws_FnLeavens.j2 k2 l0 (wrap64 (1 + (Int.tmod t189 4))) (t201 != (wrap64 (t186 - (Int.tmod t200 (wrap64 (t186 + 1)))))) t186 t187) else (laws_FnLeavens.j2 k2 l0 (wrap64 (1 + (Int.tmod t189 4))) false t186 t187))) = some true := H
               have A43 := Aside0.mk A430
               clear A430
               have HC44 := Aside0.mk H
               clear H
               have hnb45 := NB196_188.out
               have hnc45 := NB188_196.out
               have hnb46 := NB196_193.out
               have hnc46 := NB193_196.out
               have hcz47_0 : wr.cell? ⟨gb196, 0, none⟩ = some (.int .i64 x197000_2) := (blk_cell BK196.out 0).trans rfl
               have hcz47_1 : wr.cell? ⟨gb196, 1, none⟩ = some (.int .i64 x197001_2) := (blk_cell BK196.out 1).trans rfl
               have hfz47_0 := blk_frozen BK196.out 0
               have hfz47_1 := blk_frozen BK196.out 1
               try go_wp2
               have n0_ := Aside0.mk (blk_drew BK188.out)
               have n1_ := Aside0.mk (blk_drew BK193.out)
               have n2_ := Aside0.mk (blk_drew BK196.out)
               have n3_ := Aside0.mk (below_drew1 HB.out)
               clear BK188
               clear BK193
               clear BK196
               clear HB
               have BK188 := n0_
               have BK193 := n1_
               have BK196 := n2_
               have HB := n3_
               clear n0_ n1_ n2_ n3_
               refine start_ (n := 7) (S := fun w' => w'.cell? ⟨gb188, 0, none⟩ = some (.int .i64 t186) ∧ w'.cell? ⟨gb188, 1, none⟩ = some (.int .i64 t187)) (ds := []) #[false, false, false, false, false, false, false] (by kernel_rfl) rfl rfl ⟨(blk_cell BK188.out 0).trans rfl, (blk_cell BK188.out 1).trans rfl⟩ (fun hHeld => ?_)
               generalize wr.drew = w48 at BK188 BK193 BK196 HB hHeld ⊢
               refine pure_ (i := 0) (N := some 89) (v := ?_) (a' := ?_) #[true, false, false, false, false, false, false] rfl rfl (by kernel_rfl) (fun _ _ _ h => h) (Or.inl ⟨by rfl, ?_⟩) ?_ ?_
               rotate_left
               · intro w'
                 go_simp
                 with_reducible rfl
               rotate_left
               · simp only [Act.put, List.setIfInBounds_toArray, List.set_cons_zero, List.set_cons_succ, i64_w, i32_w]
                 rfl
               refine pure_ (i := 2) (N := some 91) (v := ?_) (a' := ?_) #[true, false, true, false, false, false, false] rfl rfl (by kernel_rfl) (fun _ _ _ h => h) (Or.inl ⟨by rfl, ?_⟩) ?_ ?_
               rotate_left
               · intro w'
                 go_simp
                 with_reducible rfl
               rotate_left
               · simp only [Act.put, List.setIfInBounds_toArray, List.set_cons_zero, List.set_cons_succ, i64_w, i32_w]
                 rfl
               refine take_ (i := 3) (N := some 92) (v := ?_) (a' := ?_) #[true, false, true, true, false, false, false] rfl rfl (by kernel_rfl) (fun _ _ _ h => h) (Or.inl ⟨by rfl, ?_⟩) hHeld ?_ ?_
               rotate_left
               · rintro w' ⟨s0, s1⟩
                 go_simp
                 with_reducible rfl
               rotate_left
               · simp only [Act.put, List.setIfInBounds_toArray, List.set_cons_zero, List.set_cons_succ, i64_w, i32_w]
                 rfl
               refine pure_ (i := 4) (N := some 93) (v := ?_) (a' := ?_) #[true, false, true, true, true, false, false] rfl rfl (by kernel_rfl) (fun _ _ _ h => h) (Or.inl ⟨by rfl, ?_⟩) ?_ ?_
               rotate_left
               · intro w'
                 go_simp
                 with_reducible rfl
               rotate_left
               · simp only [Act.put, List.setIfInBounds_toArray, List.set_cons_zero, List.set_cons_succ, i64_w, i32_w]
                 rfl
               refine one_ (i := 1) (N := some 90) #[true, true, true, true, true, false, false] rfl rfl (by kernel_rfl) (by decide) (fun K hK => ?_)
               refine goes_ Try.func20 (by kernel_rfl) rfl #[.slice A0 l0.length c0, .int .i64 2] (by rfl) rfl rfl (by (try simp only [List.map_toArray, List.map_cons, List.map_nil]); first | done | rfl | (simp only [List.length_drop, List.length_take]; rfl)) ?_
               with_reducible refine (laws_at.calls _ _ l0 2 t200 _ ?side1 ?side2 A41.out).mono ?_
               (case side1 => repeat (first | exact (Kd.C_below HR0.out HB.out) | (with_reducible refine Kd.C_alloc ?_ _) | (with_reducible refine Kd.C_drewN ?_ _) | (with_reducible refine Kd.C_drew ?_)))
               (case side2 => exact HC0.out)
               rintro e w' ⟨rfl, ⟨nd, rfl⟩⟩
               refine ⟨_, rfl, ?_⟩
               refine hK.out _ _ ⟨(blk_cell BK188.out 0).trans rfl, (blk_cell BK188.out 1).trans rfl⟩ (fun hHeld => ?_)
               clear hK K
               refine norm_ (a' := ?_) ?_ ?_
               rotate_left
               · show Act.put _ (some 90) _ = _
                 simp only [Act.put, List.setIfInBounds_toArray, List.set_cons_zero, List.set_cons_succ, i64_w, i32_w]
                 rfl
               refine pure_ (i := 5) (N := some 94) (v := ?_) (a' := ?_) #[true, true, true, true, true, true, false] rfl rfl (by kernel_rfl) (fun _ _ _ h => h) (Or.inl ⟨by rfl, ?_⟩) ?_ ?_
               rotate_left
               · intro w'
                 go_simp
                 with_reducible rfl
               rotate_left
               · simp only [Act.put, List.setIfInBounds_toArray, List.set_cons_zero, List.set_cons_succ, i64_w, i32_w]
                 rfl
               refine pure_ (i := 6) (N := some 11) (v := ?_) (a' := ?_) #[true, true, true, true, true, true, true] rfl rfl (by kernel_rfl) (fun _ _ _ h => h) (Or.inl ⟨by rfl, ?_⟩) ?_ ?_
               rotate_left
               · intro w'
                 go_simp
                 with_reducible rfl
               rotate_left
               · simp only [Act.put, List.setIfInBounds_toArray, List.set_cons_zero, List.set_cons_succ, i64_w, i32_w]
                 rfl
               refine done_ (by kernel_rfl) ?_
               have hnb49 := NB188_193.out
               have hnc49 := NB193_188.out
               have hcz50_0 : w48.cell? ⟨gb188, 0, none⟩ = some (.int .i64 t186) := (blk_cell BK188.out 0).trans rfl
               have hcz50_1 : w48.cell? ⟨gb188, 1, none⟩ = some (.int .i64 t187) := (blk_cell BK188.out 1).trans rfl
               have hfz50_0 := blk_frozen BK188.out 0
               have hfz50_1 := blk_frozen BK188.out 1
               go_upto_region 21 with (first | ((with_reducible refine gate_callee (f := 37) rfl ?_); refine goesL_ (some 98) rfl rfl Try.func37 (by kernel_rfl) rfl #[.agg #[.int .i64 t186, .int .i64 t187], .int .i64 (Int.tmod t200 (wrap64 (t186 + 1))), .int .i64 1] rfl (by (try simp only [List.map_toArray, List.map_cons, List.map_nil]); first | done | rfl | (simp only [List.length_drop, List.length_take]; rfl)) ?_; (with_reducible refine (impl_TakeLeaven.calls t186 t187 (Int.tmod t200 (wrap64 (t186 + 1))) 1 t201 t202 t203 _ A43.out).mono ?_); rintro e w51 ⟨rfl, hb⟩; refine ⟨_, rfl, ?_⟩; have n0_ := Aside0.mk (blk_below (g := gb188) (o := .cells #[.int .i64 t186, .int .i64 t187] 49 (0, 0)) (by (with_reducible repeat (first | refine blk_drewN ?_ _ | refine blk_drew ?_ | refine blk_alloc ?_ _)); exact BK188.out) hb); have n1_ := Aside0.mk (blk_below (g := gb193) (o := .cells #[.int .i64 t190, .int .i64 t191] 49 (0, 0)) (by (with_reducible repeat (first | refine blk_drewN ?_ _ | refine blk_drew ?_ | refine blk_alloc ?_ _)); exact BK193.out) hb); have n2_ := Aside0.mk (blk_below (g := gb196) (o := .cells #[.int .i64 x197000_2, .int .i64 x197001_2] 49 (0, 0)) (by (with_reducible repeat (first | refine blk_drewN ?_ _ | refine blk_drew ?_ | refine blk_alloc ?_ _)); exact BK196.out) hb); have n3_ := Aside0.mk (below_step (by repeat (first | (with_reducible first | exact HB.out | apply below_alloc | apply pw_below_drewN | apply below_drew1 | refine below_set ?_ GE188.out | refine below_set ?_ GE193.out | refine below_set ?_ GE196.out) | exact HB.out)) hb); clear BK188; clear BK193; clear BK196; clear HB; have BK188 := n0_; have BK193 := n1_; have BK196 := n2_; have HB := n3_; clear n0_ n1_ n2_ n3_; (try clear hb); (try clear hb2); (try clear hk); (try clear hi)) | ((with_reducible refine gate_dst (N := 12) rfl ?_); refine box_event ?hg (N := 12) ?hd (cs := #[.int .i64 0, .int .i64 0]) (t := 49) ?hr ?_; (case hd => rfl); (case hg => rfl); (case hr => first | (go_simp; done) | (go_simp; rfl)); intro gb204 hg w52 hbox hb; have n0_ := Aside0.mk (blk_below (g := gb188) (o := .cells #[.int .i64 t186, .int .i64 t187] 49 (0, 0)) (by (with_reducible repeat (first | refine blk_drewN ?_ _ | refine blk_drew ?_ | refine blk_alloc ?_ _)); exact BK188.out) hb); have n1_ := Aside0.mk (blk_below (g := gb193) (o := .cells #[.int .i64 t190, .int .i64 t191] 49 (0, 0)) (by (with_reducible repeat (first | refine blk_drewN ?_ _ | refine blk_drew ?_ | refine blk_alloc ?_ _)); exact BK193.out) hb); have n2_ := Aside0.mk (blk_below (g := gb196) (o := .cells #[.int .i64 x197000_2, .int .i64 x197001_2] 49 (0, 0)) (by (with_reducible repeat (first | refine blk_drewN ?_ _ | refine blk_drew ?_ | refine blk_alloc ?_ _)); exact BK196.out) hb); have n3_ := Aside0.mk (below_step (by repeat (first | (with_reducible first | exact HB.out | apply below_alloc | apply pw_below_drewN | apply below_drew1 | refine below_set ?_ GE188.out | refine below_set ?_ GE193.out | refine below_set ?_ GE196.out) | exact HB.out)) hb); have n4_ := Aside0.mk (hbox); have n5_ := Aside0.mk ((by rw [hg]; exact (below_size (by repeat (first | (with_reducible first | exact HB.out | apply below_alloc | apply pw_below_drewN | apply below_drew1 | refine below_set ?_ GE188.out | refine below_set ?_ GE193.out | refine below_set ?_ GE196.out) | exact HB.out))) : w.heap.size ≤ gb204)); have n6_ := Aside0.mk ((by rw [hg]; exact (below_size (by repeat (first | (with_reducible first | exact HB.out | apply below_alloc | apply pw_below_drewN | apply below_drew1 | refine below_set ?_ GE188.out | refine below_set ?_ GE193.out | refine below_set ?_ GE196.out) | exact HB.out))) : w.heap.size ≤ gb204)); have n7_ := Aside0.mk ((by rw [hg]; exact Nat.ne_of_lt (blk_lt (g := gb188) (o := .cells #[.int .i64 t186, .int .i64 t187] 49 (0, 0)) (by (with_reducible repeat (first | refine blk_drewN ?_ _ | refine blk_drew ?_ | refine blk_alloc ?_ _)); exact BK188.out)) : gb188 ≠ gb204)); have n8_ := Aside0.mk ((by rw [hg]; exact Nat.ne_of_gt (blk_lt (g := gb188) (o := .cells #[.int .i64 t186, .int .i64 t187] 49 (0, 0)) (by (with_reducible repeat (first | refine blk_drewN ?_ _ | refine blk_drew ?_ | refine blk_alloc ?_ _)); exact BK188.out)) : gb204 ≠ gb188)); have n9_ := Aside0.mk ((by rw [hg]; exact Nat.ne_of_lt (blk_lt (g := gb193) (o := .cells #[.int .i64 t190, .int .i64 t191] 49 (0, 0)) (by (with_reducible repeat (first | refine blk_drewN ?_ _ | refine blk_drew ?_ | refine blk_alloc ?_ _)); exact BK193.out)) : gb193 ≠ gb204)); have n10_ := Aside0.mk ((by rw [hg]; exact Nat.ne_of_gt (blk_lt (g := gb193) (o := .cells #[.int .i64 t190, .int .i64 t191] 49 (0, 0)) (by (with_reducible repeat (first | refine blk_drewN ?_ _ | refine blk_drew ?_ | refine blk_alloc ?_ _)); exact BK193.out)) : gb204 ≠ gb193)); have n11_ := Aside0.mk ((by rw [hg]; exact Nat.ne_of_lt (blk_lt (g := gb196) (o := .cells #[.int .i64 x197000_2, .int .i64 x197001_2] 49 (0, 0)) (by (with_reducible repeat (first | refine blk_drewN ?_ _ | refine blk_drew ?_ | refine blk_alloc ?_ _)); exact BK196.out)) : gb196 ≠ gb204)); have n12_ := Aside0.mk ((by rw [hg]; exact Nat.ne_of_gt (blk_lt (g := gb196) (o := .cells #[.int .i64 x197000_2, .int .i64 x197001_2] 49 (0, 0)) (by (with_reducible repeat (first | refine blk_drewN ?_ _ | refine blk_drew ?_ | refine blk_alloc ?_ _)); exact BK196.out)) : gb204 ≠ gb196)); clear BK188; clear BK193; clear BK196; clear HB; have BK188 := n0_; have BK193 := n1_; have BK196 := n2_; have HB := n3_; have BK204 := n4_; have GW204 := n5_; have GE204 := n6_; have NB188_204 := n7_; have NB204_188 := n8_; have NB193_204 := n9_; have NB204_193 := n10_; have NB196_204 := n11_; have NB204_196 := n12_; clear n0_ n1_ n2_ n3_ n4_ n5_ n6_ n7_ n8_ n9_ n10_ n11_ n12_; clear hb hbox hg; have hnb53 := NB204_188.out; have hnc53 := NB188_204.out; have hnb54 := NB204_193.out; have hnc54 := NB193_204.out; have hnb55 := NB204_196.out; have hnc55 := NB196_204.out; have hcz56_0 : w52.cell? ⟨gb204, 0, none⟩ = some (.int .i64 0) := (blk_cell BK204.out 0).trans rfl; have hcz56_1 : w52.cell? ⟨gb204, 1, none⟩ = some (.int .i64 0) := (blk_cell BK204.out 1).trans rfl; have hfz56_0 := blk_frozen BK204.out 0; have hfz56_1 := blk_frozen BK204.out 1))
               (try simp only [Act.put, List.setIfInBounds_toArray, List.set_cons_zero, List.set_cons_succ])
               go_cut [118] (fun v118 wc => ∃ (kq : Nat) (x118_43 : Bool), v118 = .bool x118_43 ∧ Aside0 (laws_FnLeavens.j2 kq l0 (wrap64 (1 + (Int.tmod t189 4))) x118_43 t186 t187 = some true) ∧ Aside0 (kq ≤ k2) ∧ Aside0 (wc.heap[gb188]? = some (.cells #[.int .i64 t186, .int .i64 t187] 49 (0, 0))) ∧ Aside0 (wc.heap[gb193]? = some (.cells #[.int .i64 t190, .int .i64 t191] 49 (0, 0))) ∧ Aside0 (wc.heap[gb196]? = some (.cells #[.int .i64 x197000_2, .int .i64 x197001_2] 49 (0, 0))) ∧ Aside0 (wc.heap[gb204]? = some (.cells #[.int .i64 t201, .int .i64 t202] 49 (0, 0))) ∧ Aside0 (Below w.heap.size w wc))
               case first =>
                have H := HC44.out
                clear HC44
                by_cases c57 : (t203 != (decide ((Int.tmod t200 (wrap64 (t186 + 1))) < t186))) = true
                · rw [if_pos c57] at H
                  have c57b0 : (t203 != (decide ((Int.tmod t200 (wrap64 (t186 + 1))) < t186))) = true := c57
                  (try (have c57b1 : decide (t203 = (decide ((Int.tmod t200 (wrap64 (t186 + 1))) < t186))) = false := by simpa using c57))
                  (try (have c57b2 : (t203 == (decide ((Int.tmod t200 (wrap64 (t186 + 1))) < t186))) = false := by simpa using c57))
                  (try (have c57b3 : ¬ (t203 = (decide ((Int.tmod t200 (wrap64 (t186 + 1))) < t186))) := by simpa using c57))
                  clear c57
                  (first | rw [c57b0] | (simp only [i64_w, i32_w]; rw [c57b0]) | skip)
                  exact absurd H (laws_FnLeavens.j2_no _ _ _ _)
                · rw [if_neg c57] at H
                  have c57b0 : (t203 != (decide ((Int.tmod t200 (wrap64 (t186 + 1))) < t186))) = false := by simpa using c57
                  (try (have c57b1 : decide (t203 = (decide ((Int.tmod t200 (wrap64 (t186 + 1))) < t186))) = true := by simpa using c57))
                  (try (have c57b2 : (t203 == (decide ((Int.tmod t200 (wrap64 (t186 + 1))) < t186))) = true := by simpa using c57))
                  clear c57
                  (first | rw [c57b0] | (simp only [i64_w, i32_w]; rw [c57b0]) | skip)
                  by_cases c58 : t203 = true
                  · subst c58
                    have H1 : (laws_FnLeavens.j2 k2 l0 (wrap64 (1 + (Int.tmod t189 4))) (t201 != (wrap64 (t186 - (Int.tmod t200 (wrap64 (t186 + 1)))))) t186 t187) = some true := by rw [if_pos rfl] at H; exact H
                    clear H
                    have H := H1
                    clear H1
                    have H' := Aside0.mk H
                    clear H
                    have hnb59 := NB188_193.out
                    have hnc59 := NB193_188.out
                    have hnb60 := NB188_196.out
                    have hnc60 := NB196_188.out
                    have hnb61 := NB188_204.out
                    have hnc61 := NB204_188.out
                    have hcz62_0 : w52.cell? ⟨gb188, 0, none⟩ = some (.int .i64 t186) := (blk_cell BK188.out 0).trans rfl
                    have hcz62_1 : w52.cell? ⟨gb188, 1, none⟩ = some (.int .i64 t187) := (blk_cell BK188.out 1).trans rfl
                    have hfz62_0 := blk_frozen BK188.out 0
                    have hfz62_1 := blk_frozen BK188.out 1
                    have hnb63 := NB204_193.out
                    have hnc63 := NB193_204.out
                    have hnb64 := NB204_196.out
                    have hnc64 := NB196_204.out
                    have hcz65_0 : w52.cell? ⟨gb204, 0, none⟩ = some (.int .i64 0) := (blk_cell BK204.out 0).trans rfl
                    have hcz65_1 : w52.cell? ⟨gb204, 1, none⟩ = some (.int .i64 0) := (blk_cell BK204.out 1).trans rfl
                    have hfz65_0 := blk_frozen BK204.out 0
                    have hfz65_1 := blk_frozen BK204.out 1
                    go_wp2
                    go_meet
                    case rel => exact ⟨_, ((t201 != (wrap64 (t186 - (Int.tmod t200 (wrap64 (t186 + 1))))))), (by first | rfl | (simp; done) | (simp [*]; done)), H', ⟨by have := HJ8.out; have := HK2.out; first | omega | exact Nat.le_refl _⟩, ⟨by (with_reducible repeat (first | refine blk_drewN ?_ _ | refine blk_drew ?_ | refine blk_alloc ?_ _)); refine blk_far ?_ NB188_204.out _; (with_reducible repeat (first | refine blk_drewN ?_ _ | refine blk_drew ?_ | refine blk_alloc ?_ _)); refine blk_far ?_ NB188_204.out _; (with_reducible repeat (first | refine blk_drewN ?_ _ | refine blk_drew ?_ | refine blk_alloc ?_ _)); exact BK188.out⟩, ⟨by (with_reducible repeat (first | refine blk_drewN ?_ _ | refine blk_drew ?_ | refine blk_alloc ?_ _)); refine blk_far ?_ NB193_204.out _; (with_reducible repeat (first | refine blk_drewN ?_ _ | refine blk_drew ?_ | refine blk_alloc ?_ _)); refine blk_far ?_ NB193_204.out _; (with_reducible repeat (first | refine blk_drewN ?_ _ | refine blk_drew ?_ | refine blk_alloc ?_ _)); exact BK193.out⟩, ⟨by (with_reducible repeat (first | refine blk_drewN ?_ _ | refine blk_drew ?_ | refine blk_alloc ?_ _)); refine blk_far ?_ NB196_204.out _; (with_reducible repeat (first | refine blk_drewN ?_ _ | refine blk_drew ?_ | refine blk_alloc ?_ _)); refine blk_far ?_ NB196_204.out _; (with_reducible repeat (first | refine blk_drewN ?_ _ | refine blk_drew ?_ | refine blk_alloc ?_ _)); exact BK196.out⟩, ⟨by (with_reducible repeat (first | refine blk_drewN ?_ _ | refine blk_drew ?_ | refine blk_alloc ?_ _)); refine blk_put (cs := #[.int .i64 t201, .int .i64 0]) ?_ 1 _ rfl; (with_reducible repeat (first | refine blk_drewN ?_ _ | refine blk_drew ?_ | refine blk_alloc ?_ _)); refine blk_put (cs := #[.int .i64 0, .int .i64 0]) ?_ 0 _ rfl; (with_reducible repeat (first | refine blk_drewN ?_ _ | refine blk_drew ?_ | refine blk_alloc ?_ _)); exact BK204.out⟩, ⟨by repeat (first | (with_reducible first | exact HB.out | apply below_alloc | apply pw_below_drewN | apply below_drew1 | refine below_set ?_ GE188.out | refine below_set ?_ GE193.out | refine below_set ?_ GE196.out | refine below_set ?_ GE204.out) | exact HB.out)⟩⟩
                  · replace c58 := Bool.eq_false_iff.mpr c58
                    subst c58
                    have H1 : (laws_FnLeavens.j2 k2 l0 (wrap64 (1 + (Int.tmod t189 4))) false t186 t187) = some true := by rw [if_neg (show ¬ (false = true) by decide)] at H; exact H
                    clear H
                    have H := H1
                    clear H1
                    have H' := Aside0.mk H
                    clear H
                    have hnb66 := NB188_193.out
                    have hnc66 := NB193_188.out
                    have hnb67 := NB188_196.out
                    have hnc67 := NB196_188.out
                    have hnb68 := NB188_204.out
                    have hnc68 := NB204_188.out
                    have hcz69_0 : w52.cell? ⟨gb188, 0, none⟩ = some (.int .i64 t186) := (blk_cell BK188.out 0).trans rfl
                    have hcz69_1 : w52.cell? ⟨gb188, 1, none⟩ = some (.int .i64 t187) := (blk_cell BK188.out 1).trans rfl
                    have hfz69_0 := blk_frozen BK188.out 0
                    have hfz69_1 := blk_frozen BK188.out 1
                    go_wp2
                    go_meet
                    case rel => exact ⟨_, (false), (by first | rfl | (simp; done) | (simp [*]; done)), H', ⟨by have := HJ8.out; have := HK2.out; first | omega | exact Nat.le_refl _⟩, ⟨by (with_reducible repeat (first | refine blk_drewN ?_ _ | refine blk_drew ?_ | refine blk_alloc ?_ _)); refine blk_far ?_ NB188_204.out _; (with_reducible repeat (first | refine blk_drewN ?_ _ | refine blk_drew ?_ | refine blk_alloc ?_ _)); refine blk_far ?_ NB188_204.out _; (with_reducible repeat (first | refine blk_drewN ?_ _ | refine blk_drew ?_ | refine blk_alloc ?_ _)); exact BK188.out⟩, ⟨by (with_reducible repeat (first | refine blk_drewN ?_ _ | refine blk_drew ?_ | refine blk_alloc ?_ _)); refine blk_far ?_ NB193_204.out _; (with_reducible repeat (first | refine blk_drewN ?_ _ | refine blk_drew ?_ | refine blk_alloc ?_ _)); refine blk_far ?_ NB193_204.out _; (with_reducible repeat (first | refine blk_drewN ?_ _ | refine blk_drew ?_ | refine blk_alloc ?_ _)); exact BK193.out⟩, ⟨by (with_reducible repeat (first | refine blk_drewN ?_ _ | refine blk_drew ?_ | refine blk_alloc ?_ _)); refine blk_far ?_ NB196_204.out _; (with_reducible repeat (first | refine blk_drewN ?_ _ | refine blk_drew ?_ | refine blk_alloc ?_ _)); refine blk_far ?_ NB196_204.out _; (with_reducible repeat (first | refine blk_drewN ?_ _ | refine blk_drew ?_ | refine blk_alloc ?_ _)); exact BK196.out⟩, ⟨by (with_reducible repeat (first | refine blk_drewN ?_ _ | refine blk_drew ?_ | refine blk_alloc ?_ _)); refine blk_put (cs := #[.int .i64 t201, .int .i64 0]) ?_ 1 _ rfl; (with_reducible repeat (first | refine blk_drewN ?_ _ | refine blk_drew ?_ | refine blk_alloc ?_ _)); refine blk_put (cs := #[.int .i64 0, .int .i64 0]) ?_ 0 _ rfl; (with_reducible repeat (first | refine blk_drewN ?_ _ | refine blk_drew ?_ | refine blk_alloc ?_ _)); exact BK204.out⟩, ⟨by repeat (first | (with_reducible first | exact HB.out | apply below_alloc | apply pw_below_drewN | apply below_drew1 | refine below_set ?_ GE188.out | refine below_set ?_ GE193.out | refine below_set ?_ GE196.out | refine below_set ?_ GE204.out) | exact HB.out)⟩⟩
               case rest =>
                clear HC44
                try clear c1
                try clear c2
                try clear p2
                try clear c3
                try clear c4
                try clear c5
                try clear c6
                try clear p6
                try clear c8
                try clear c15
                try clear c18
                try clear c19
                try clear c20
                try clear c20b0
                try clear c20b1
                try clear c21
                try clear c21b0
                try clear c21b1
                try clear c22
                try clear c25
                try clear c26
                try clear c29
                try clear c30
                try clear c32
                try clear c32b0
                try clear c33
                try clear c33b0
                try clear c34
                try clear c35
                try clear c36
                try clear c37
                try clear c40
                try clear c40b0
                try clear c42
                try clear c42b0
                try clear c42b1
                try clear c45
                try clear c46
                try clear c49
                try clear c53
                try clear c54
                try clear c55
                try clear c57
                try clear c57b0
                try clear c57b1
                try clear c57b2
                try clear c58
                try clear c59
                try clear c60
                try clear c61
                try clear c63
                try clear c64
                try clear p64
                try clear c66
                try clear c67
                try clear c68
                try clear hcz12_0
                try clear hcz12_1
                try clear hcz16_0
                try clear hcz16_1
                try clear hcz17_0
                try clear hcz17_1
                try clear hcz23_0
                try clear hcz23_1
                try clear hcz24_0
                try clear hcz24_1
                try clear hcz27_0
                try clear hcz27_1
                try clear hcz31_0
                try clear hcz31_1
                try clear hcz37_0
                try clear hcz37_1
                try clear hcz39_0
                try clear hcz39_1
                try clear hcz47_0
                try clear hcz47_1
                try clear hcz50_0
                try clear hcz50_1
                try clear hcz56_0
                try clear hcz56_1
                try clear hcz62_0
                try clear hcz62_1
                try clear hcz65_0
                try clear hcz65_1
                try clear hcz69_0
                try clear hcz69_1
                try clear hfz12_0
                try clear hfz12_1
                try clear hfz16_0
                try clear hfz16_1
                try clear hfz17_0
                try clear hfz17_1
                try clear hfz23_0
                try clear hfz23_1
                try clear hfz24_0
                try clear hfz24_1
                try clear hfz27_0
                try clear hfz27_1
                try clear hfz31_0
                try clear hfz31_1
                try clear hfz37_0
                try clear hfz37_1
                try clear hfz39_0
                try clear hfz39_1
                try clear hfz47_0
                try clear hfz47_1
                try clear hfz50_0
                try clear hfz50_1
                try clear hfz56_0
                try clear hfz56_1
                try clear hfz62_0
                try clear hfz62_1
                try clear hfz65_0
                try clear hfz65_1
                try clear hfz69_0
                try clear hfz69_1
                try clear p2
                try clear p6
                obtain ⟨kq, x118_43, rfl, HA, HJ43, BK188, BK193, BK196, BK204, HB⟩ := hcut
                cases kq with
                | zero => exact absurd HA.out (by simp [laws_FnLeavens.j2])
                | succ kj43 =>
                 have H := HA.out
                 clear HA
                 simp only [laws_FnLeavens.j2] at H
                 by_cases c70 : x118_43 = true
                 · subst c70
                   have H1 : (some false) = some true := by rw [if_pos rfl] at H; exact H
                   clear H
                   have H := H1
                   clear H1
                   exact absurd H (by simp)
                 · replace c70 := Bool.eq_false_iff.mpr c70
                   subst c70
                   have H1 : ((laws_at.f l0 3).bind fun t205 => ((laws_at.f l0 4).bind fun t206 => ((laws_at.f l0 5).bind fun t207 => ((some (([t205, t206, t207] : List Int) : List Int)).bind fun y208 => ((impl_KeepForDays.f kj43 y208 (wrap64 (1 + (Int.tmod t189 4)))).bind fun t211 => (if t211 < 1 then (some false) else (laws_FnLeavens.l1 kj43 (wrap64 (1 + (Int.tmod t189 4))) y208 t211 0 t186 t187))))))) = some true := by rw [if_neg (show ¬ (false = true) by decide)] at H; exact H
                   clear H
                   have H := H1
                   clear H1
                   replace H := Option.bind_eq_some_iff.mp H
                   obtain ⟨t205, A710, H⟩ := H
                   replace H : ((laws_at.f l0 4).bind fun t206 => ((laws_at.f l0 5).bind fun t207 => ((some (([t205, t206, t207] : List Int) : List Int)).bind fun y208 => ((impl_KeepForDays.f kj43 y208 (wrap64 (1 + (Int.tmod t189 4)))).bind fun t211 => (if t211 < 1 then (some false) else (laws_FnLeavens.l1 kj43 (wrap64 (1 + (Int.tmod t189 4))) y208 t211 0 t186 t187)))))) = some true := H
                   have A71 := Aside0.mk A710
                   clear A710
                   replace H := Option.bind_eq_some_iff.mp H
                   obtain ⟨t206, A720, H⟩ := H
                   replace H : ((laws_at.f l0 5).bind fun t207 => ((some (([t205, t206, t207] : List Int) : List Int)).bind fun y208 => ((impl_KeepForDays.f kj43 y208 (wrap64 (1 + (Int.tmod t189 4)))).bind fun t211 => (if t211 < 1 then (some false) else (laws_FnLeavens.l1 kj43 (wrap64 (1 + (Int.tmod t189 4))) y208 t211 0 t186 t187))))) = some true := H
                   have A72 := Aside0.mk A720
                   clear A720
                   replace H := Option.bind_eq_some_iff.mp H
                   obtain ⟨t207, A730, H⟩ := H
                   replace H : ((some (([t205, t206, t207] : List Int) : List Int)).bind fun y208 => ((impl_KeepForDays.f kj43 y208 (wrap64 (1 + (Int.tmod t189 4)))).bind fun t211 => (if t211 < 1 then (some false) else (laws_FnLeavens.l1 kj43 (wrap64 (1 + (Int.tmod t189 4))) y208 t211 0 t186 t187)))) = some true := H
                   have A73 := Aside0.mk A730
                   clear A730
                   obtain ⟨y208, hy208⟩ : ∃ y_ : List Int, y_ = (([t205, t206, t207] : List Int)) := ⟨_, rfl⟩
                   replace H : ((impl_KeepForDays.f kj43 y208 (wrap64 (1 + (Int.tmod t189 4)))).bind fun t211 => (if t211 < 1 then (some false) else (laws_FnLeavens.l1 kj43 (wrap64 (1 + (Int.tmod t189 4))) y208 t211 0 t186 t187))) = some true := by first | (rw [hy208]; with_reducible exact H) | (have H2_ := (Option.bind_some _ _).symm.trans H; rw [hy208]; with_reducible exact H2_) | (have H2_ := (Option.bind_some _ _).symm.trans H; with_reducible exact H2_) | with_reducible exact H | (rw [hy208]; exact H) | exact H
                   have Ny208 := Aside0.mk hy208
                   clear hy208
                   replace H := Option.bind_eq_some_iff.mp H
                   obtain ⟨t211, A740, H⟩ := H
                   replace H : (if t211 < 1 then (some false) else (laws_FnLeavens.l1 kj43 (wrap64 (1 + (Int.tmod t189 4))) y208 t211 0 t186 t187)) = some true := H
                   have A74 := Aside0.mk A740
                   clear A740
                   by_cases c75 : t211 < 1
                   · rw [if_pos c75] at H
                     have c75b0 : decide (t211 < 1) = true := decide_eq_true c75
                     clear c75
                     exact absurd H (by simp)
                   · rw [if_neg c75] at H
                     have c75b0 : decide (t211 < 1) = false := decide_eq_false c75
                     clear c75
                     have H' := Aside0.mk H
                     clear H
                     go_wp2_with (first | ((with_reducible refine gate_callee (f := 20) rfl ?_); refine goesL_ (some 120) rfl rfl Try.func20 (by kernel_rfl) rfl #[.slice A0 l0.length c0, .int .i64 3] rfl (by (try simp only [List.map_toArray, List.map_cons, List.map_nil]); first | done | rfl | (simp only [List.length_drop, List.length_take]; rfl)) ?_; (with_reducible refine (laws_at.calls _ _ l0 3 t205 _ ?side1 ?side2 A71.out).mono ?_); (case side1 => repeat (first | exact (Kd.C_below HR0.out HB.out) | (with_reducible refine Kd.C_alloc ?_ _) | (with_reducible refine Kd.C_drewN ?_ _) | (with_reducible refine Kd.C_drew ?_))); (case side2 => exact HC0.out); rintro e w' ⟨rfl, ⟨nd, rfl⟩⟩; refine ⟨_, rfl, ?_⟩) | ((with_reducible refine gate_callee (f := 20) rfl ?_); refine goesL_ (some 122) rfl rfl Try.func20 (by kernel_rfl) rfl #[.slice A0 l0.length c0, .int .i64 4] rfl (by (try simp only [List.map_toArray, List.map_cons, List.map_nil]); first | done | rfl | (simp only [List.length_drop, List.length_take]; rfl)) ?_; (with_reducible refine (laws_at.calls _ _ l0 4 t206 _ ?side1 ?side2 A72.out).mono ?_); (case side1 => repeat (first | exact (Kd.C_below HR0.out (by repeat (first | (with_reducible first | exact HB.out | apply below_alloc | apply pw_below_drewN | apply below_drew1 | refine below_set ?_ GE188.out | refine below_set ?_ GE193.out | refine below_set ?_ GE196.out | refine below_set ?_ GE204.out) | exact HB.out))) | (with_reducible refine Kd.C_alloc ?_ _) | (with_reducible refine Kd.C_drewN ?_ _) | (with_reducible refine Kd.C_drew ?_))); (case side2 => exact HC0.out); rintro e w' ⟨rfl, ⟨nd, rfl⟩⟩; refine ⟨_, rfl, ?_⟩) | ((with_reducible refine gate_callee (f := 20) rfl ?_); refine goesL_ (some 124) rfl rfl Try.func20 (by kernel_rfl) rfl #[.slice A0 l0.length c0, .int .i64 5] rfl (by (try simp only [List.map_toArray, List.map_cons, List.map_nil]); first | done | rfl | (simp only [List.length_drop, List.length_take]; rfl)) ?_; (with_reducible refine (laws_at.calls _ _ l0 5 t207 _ ?side1 ?side2 A73.out).mono ?_); (case side1 => repeat (first | exact (Kd.C_below HR0.out (by repeat (first | (with_reducible first | exact HB.out | apply below_alloc | apply pw_below_drewN | apply below_drew1 | refine below_set ?_ GE188.out | refine below_set ?_ GE193.out | refine below_set ?_ GE196.out | refine below_set ?_ GE204.out) | exact HB.out))) | (with_reducible refine Kd.C_alloc ?_ _) | (with_reducible refine Kd.C_drewN ?_ _) | (with_reducible refine Kd.C_drew ?_))); (case side2 => exact HC0.out); rintro e w' ⟨rfl, ⟨nd, rfl⟩⟩; refine ⟨_, rfl, ?_⟩) | ((with_reducible refine gate_dst (N := 125) rfl ?_); refine Kd.R_lit (Kd.int .i64) _ 3 ?hg (N := 125) ?hd (xs := ([t205, t206, t207] : List Int)) (inner := [.int .i64 t205, .int .i64 t206, .int .i64 t207]) (ok := fun _ => True) (okp := fun _ => True) ?hr ?hp (fun _ hk => hk) trivial (Below.refl _ _) (Nat.le_refl _) (by simp) ?_; (case hd => rfl); (case hg => rfl); (case hr => first | (go_simp; done) | (go_simp; rfl)); (case hp => exact (Reps.one (show Kd.M (Kd.int .i64) _ _ _ t205 [.int .i64 t205] from rfl) (Reps.one (show Kd.M (Kd.int .i64) _ _ _ t206 [.int .i64 t206] from rfl) (Reps.one (show Kd.M (Kd.int .i64) _ _ _ t207 [.int .i64 t207] from rfl) (Reps.none _ _))))); intro v209 w76 ho77 hb hg_ hnew_; clear hg_ hnew_; (first | rw [← Ny208.out] at ho77 | (simp only [Int.reduceToNat] at ho77; rw [← Ny208.out] at ho77)); have n0_ := Aside0.mk (Kd.R_lower ho77 (below_size (by repeat (first | (with_reducible first | exact HB.out | apply below_alloc | apply pw_below_drewN | apply below_drew1 | refine below_set ?_ GE188.out | refine below_set ?_ GE193.out | refine below_set ?_ GE196.out | refine below_set ?_ GE204.out) | exact HB.out)))); have n1_ := Aside0.mk (blk_below (g := gb188) (o := .cells #[.int .i64 t186, .int .i64 t187] 49 (0, 0)) (by (with_reducible repeat (first | refine blk_drewN ?_ _ | refine blk_drew ?_ | refine blk_alloc ?_ _)); exact BK188.out) hb); have n2_ := Aside0.mk (blk_below (g := gb193) (o := .cells #[.int .i64 t190, .int .i64 t191] 49 (0, 0)) (by (with_reducible repeat (first | refine blk_drewN ?_ _ | refine blk_drew ?_ | refine blk_alloc ?_ _)); exact BK193.out) hb); have n3_ := Aside0.mk (blk_below (g := gb196) (o := .cells #[.int .i64 x197000_2, .int .i64 x197001_2] 49 (0, 0)) (by (with_reducible repeat (first | refine blk_drewN ?_ _ | refine blk_drew ?_ | refine blk_alloc ?_ _)); exact BK196.out) hb); have n4_ := Aside0.mk (blk_below (g := gb204) (o := .cells #[.int .i64 t201, .int .i64 t202] 49 (0, 0)) (by (with_reducible repeat (first | refine blk_drewN ?_ _ | refine blk_drew ?_ | refine blk_alloc ?_ _)); exact BK204.out) hb); have n5_ := Aside0.mk (below_step (by repeat (first | (with_reducible first | exact HB.out | apply below_alloc | apply pw_below_drewN | apply below_drew1 | refine below_set ?_ GE188.out | refine below_set ?_ GE193.out | refine below_set ?_ GE196.out | refine below_set ?_ GE204.out) | exact HB.out)) hb); clear BK188; clear BK193; clear BK196; clear BK204; clear HB; have HO210 := n0_; have BK188 := n1_; have BK193 := n2_; have BK196 := n3_; have BK204 := n4_; have HB := n5_; clear n0_ n1_ n2_ n3_ n4_ n5_; clear hb ho77; obtain ⟨Ao78, co78, eo78⟩ := Kd.R_slice HO210.out; subst eo78) | ((with_reducible refine gate_callee (f := 38) rfl ?_); refine goesL_ (some 128) rfl rfl Try.func38 (by kernel_rfl) rfl #[.slice Ao78 y208.length co78, .int .i64 (wrap64 (1 + (Int.tmod t189 4)))] rfl (by (try simp only [List.map_toArray, List.map_cons, List.map_nil]); first | done | rfl | (simp only [List.length_drop, List.length_take]; rfl)) ?_; (with_reducible refine (impl_KeepForDays.calls kj43 _ _ y208 (wrap64 (1 + (Int.tmod t189 4))) t211 _ ?side1 ?side2 A74.out).mono ?_); (case side1 => repeat (first | exact (Kd.R_reads' HO210.out).2.2 | (with_reducible refine Kd.C_alloc ?_ _) | (with_reducible refine Kd.C_drewN ?_ _) | (with_reducible refine Kd.C_drew ?_))); (case side2 => exact (Kd.R_reads' HO210.out).2.1); rintro e w79 ⟨rfl, hb⟩; refine ⟨_, rfl, ?_⟩; have n0_ := Aside0.mk (Kd.R_below (by (with_reducible repeat (first | apply Kd.R_alloc | apply Kd.R_drewN | apply Kd.R_drew)); exact HO210.out) hb); have n1_ := Aside0.mk (blk_below (g := gb188) (o := .cells #[.int .i64 t186, .int .i64 t187] 49 (0, 0)) (by (with_reducible repeat (first | refine blk_drewN ?_ _ | refine blk_drew ?_ | refine blk_alloc ?_ _)); exact BK188.out) hb); have n2_ := Aside0.mk (blk_below (g := gb193) (o := .cells #[.int .i64 t190, .int .i64 t191] 49 (0, 0)) (by (with_reducible repeat (first | refine blk_drewN ?_ _ | refine blk_drew ?_ | refine blk_alloc ?_ _)); exact BK193.out) hb); have n3_ := Aside0.mk (blk_below (g := gb196) (o := .cells #[.int .i64 x197000_2, .int .i64 x197001_2] 49 (0, 0)) (by (with_reducible repeat (first | refine blk_drewN ?_ _ | refine blk_drew ?_ | refine blk_alloc ?_ _)); exact BK196.out) hb); have n4_ := Aside0.mk (blk_below (g := gb204) (o := .cells #[.int .i64 t201, .int .i64 t202] 49 (0, 0)) (by (with_reducible repeat (first | refine blk_drewN ?_ _ | refine blk_drew ?_ | refine blk_alloc ?_ _)); exact BK204.out) hb); have n5_ := Aside0.mk (below_step (by repeat (first | (with_reducible first | exact HB.out | apply below_alloc | apply pw_below_drewN | apply below_drew1 | refine below_set ?_ GE188.out | refine below_set ?_ GE193.out | refine below_set ?_ GE196.out | refine below_set ?_ GE204.out) | exact HB.out)) hb); clear HO210; clear BK188; clear BK193; clear BK196; clear BK204; clear HB; have HO210 := n0_; have BK188 := n1_; have BK193 := n2_; have BK196 := n3_; have BK204 := n4_; have HB := n5_; clear n0_ n1_ n2_ n3_ n4_ n5_; (try clear hb); (try clear hb2); (try clear hk); (try clear hi)))
                     go_loopg [16] kj43 (fun kq v16 w' => ∃ (x16_4 : Int), v16 = .int .i64 x16_4 ∧ Aside0 (laws_FnLeavens.l1 kq (wrap64 (1 + (Int.tmod t189 4))) y208 t211 x16_4 t186 t187 = some true) ∧ Aside0 (kq ≤ kj43) ∧ Aside0 (Kd.R (Kd.int .i64) 3 w' w.heap.size (fun _ => True) (.slice Ao78 y208.length co78) y208) ∧ Aside0 (w'.heap[gb188]? = some (.cells #[.int .i64 t186, .int .i64 t187] 49 (0, 0))) ∧ Aside0 (w'.heap[gb193]? = some (.cells #[.int .i64 t190, .int .i64 t191] 49 (0, 0))) ∧ Aside0 (w'.heap[gb196]? = some (.cells #[.int .i64 x197000_2, .int .i64 x197001_2] 49 (0, 0))) ∧ Aside0 (w'.heap[gb204]? = some (.cells #[.int .i64 t201, .int .i64 t202] 49 (0, 0))) ∧ Aside0 (Below w.heap.size w w'))
                     case atStart => exact ⟨(0), (by first | rfl | (simp; done) | (simp [*]; done)), H', ⟨Nat.le_refl _⟩, ⟨by (with_reducible repeat (first | apply Kd.R_alloc | apply Kd.R_drewN | apply Kd.R_drew)); exact HO210.out⟩, ⟨by (with_reducible repeat (first | refine blk_drewN ?_ _ | refine blk_drew ?_ | refine blk_alloc ?_ _)); exact BK188.out⟩, ⟨by (with_reducible repeat (first | refine blk_drewN ?_ _ | refine blk_drew ?_ | refine blk_alloc ?_ _)); exact BK193.out⟩, ⟨by (with_reducible repeat (first | refine blk_drewN ?_ _ | refine blk_drew ?_ | refine blk_alloc ?_ _)); exact BK196.out⟩, ⟨by (with_reducible repeat (first | refine blk_drewN ?_ _ | refine blk_drew ?_ | refine blk_alloc ?_ _)); exact BK204.out⟩, ⟨by repeat (first | (with_reducible first | exact HB.out | apply below_alloc | apply pw_below_drewN | apply below_drew1 | refine below_set ?_ GE188.out | refine below_set ?_ GE193.out | refine below_set ?_ GE196.out | refine below_set ?_ GE204.out) | exact HB.out)⟩⟩
                     case round =>
                      clear H'
                      try clear c1
                      try clear c2
                      try clear p2
                      try clear c3
                      try clear c4
                      try clear c5
                      try clear c6
                      try clear p6
                      try clear c7
                      try clear c8
                      try clear c15
                      try clear c18
                      try clear c19
                      try clear c20
                      try clear c20b0
                      try clear c20b1
                      try clear c21
                      try clear c21b0
                      try clear c21b1
                      try clear c22
                      try clear c25
                      try clear c26
                      try clear c29
                      try clear c30
                      try clear c32
                      try clear c32b0
                      try clear c33
                      try clear c33b0
                      try clear c34
                      try clear c35
                      try clear c36
                      try clear c37
                      try clear c38
                      try clear c40
                      try clear c40b0
                      try clear c42
                      try clear c42b0
                      try clear c42b1
                      try clear c45
                      try clear c46
                      try clear c49
                      try clear c53
                      try clear c54
                      try clear c55
                      try clear c57
                      try clear c57b0
                      try clear c57b1
                      try clear c57b2
                      try clear c58
                      try clear c59
                      try clear c60
                      try clear c61
                      try clear c63
                      try clear c64
                      try clear p64
                      try clear c66
                      try clear c67
                      try clear c68
                      try clear c70
                      try clear c75
                      try clear c75b0
                      try clear hcz12_0
                      try clear hcz12_1
                      try clear hcz16_0
                      try clear hcz16_1
                      try clear hcz17_0
                      try clear hcz17_1
                      try clear hcz23_0
                      try clear hcz23_1
                      try clear hcz24_0
                      try clear hcz24_1
                      try clear hcz27_0
                      try clear hcz27_1
                      try clear hcz31_0
                      try clear hcz31_1
                      try clear hcz37_0
                      try clear hcz37_1
                      try clear hcz39_0
                      try clear hcz39_1
                      try clear hcz47_0
                      try clear hcz47_1
                      try clear hcz50_0
                      try clear hcz50_1
                      try clear hcz56_0
                      try clear hcz56_1
                      try clear hcz62_0
                      try clear hcz62_1
                      try clear hcz65_0
                      try clear hcz65_1
                      try clear hcz69_0
                      try clear hcz69_1
                      try clear hfz12_0
                      try clear hfz12_1
                      try clear hfz16_0
                      try clear hfz16_1
                      try clear hfz17_0
                      try clear hfz17_1
                      try clear hfz23_0
                      try clear hfz23_1
                      try clear hfz24_0
                      try clear hfz24_1
                      try clear hfz27_0
                      try clear hfz27_1
                      try clear hfz31_0
                      try clear hfz31_1
                      try clear hfz37_0
                      try clear hfz37_1
                      try clear hfz39_0
                      try clear hfz39_1
                      try clear hfz47_0
                      try clear hfz47_1
                      try clear hfz50_0
                      try clear hfz50_1
                      try clear hfz56_0
                      try clear hfz56_1
                      try clear hfz62_0
                      try clear hfz62_1
                      try clear hfz65_0
                      try clear hfz65_1
                      try clear hfz69_0
                      try clear hfz69_1
                      try clear p2
                      try clear p6
                      try clear p64
                      obtain ⟨x16_4, rfl, HA, HK4, HO_14, BK188, BK193, BK196, BK204, HB⟩ := hrel
                      cases gk with
                      | zero => exact absurd HA.out (by simp [laws_FnLeavens.l1])
                      | succ k4 =>
                       have H := HA.out
                       clear HA
                       simp only [laws_FnLeavens.l1] at H
                       by_cases c80 : x16_4 ≤ 1
                       · rw [if_pos c80] at H
                         have c80b0 : decide (x16_4 ≤ 1) = true := decide_eq_true c80
                         clear c80
                         have H' := Aside0.mk H
                         clear H
                         go_wp2_with (first | ((with_reducible refine gate_dst (N := 17) rfl ?_); refine box_event ?hg (N := 17) ?hd (cs := #[.int .i64 0, .int .i64 0]) (t := 49) ?hr ?_; (case hd => rfl); (case hg => rfl); (case hr => first | (go_simp; done) | (go_simp; rfl)); intro gb214 hg w81 hbox hb; have n0_ := Aside0.mk (Kd.R_below (by (with_reducible repeat (first | apply Kd.R_alloc | apply Kd.R_drewN | apply Kd.R_drew)); exact HO_14.out) hb); have n1_ := Aside0.mk (blk_below (g := gb188) (o := .cells #[.int .i64 t186, .int .i64 t187] 49 (0, 0)) (by (with_reducible repeat (first | refine blk_drewN ?_ _ | refine blk_drew ?_ | refine blk_alloc ?_ _)); exact BK188.out) hb); have n2_ := Aside0.mk (blk_below (g := gb193) (o := .cells #[.int .i64 t190, .int .i64 t191] 49 (0, 0)) (by (with_reducible repeat (first | refine blk_drewN ?_ _ | refine blk_drew ?_ | refine blk_alloc ?_ _)); exact BK193.out) hb); have n3_ := Aside0.mk (blk_below (g := gb196) (o := .cells #[.int .i64 x197000_2, .int .i64 x197001_2] 49 (0, 0)) (by (with_reducible repeat (first | refine blk_drewN ?_ _ | refine blk_drew ?_ | refine blk_alloc ?_ _)); exact BK196.out) hb); have n4_ := Aside0.mk (blk_below (g := gb204) (o := .cells #[.int .i64 t201, .int .i64 t202] 49 (0, 0)) (by (with_reducible repeat (first | refine blk_drewN ?_ _ | refine blk_drew ?_ | refine blk_alloc ?_ _)); exact BK204.out) hb); have n5_ := Aside0.mk (below_step (by repeat (first | (with_reducible first | exact HB.out | apply below_alloc | apply pw_below_drewN | apply below_drew1 | refine below_set ?_ GE188.out | refine below_set ?_ GE193.out | refine below_set ?_ GE196.out | refine below_set ?_ GE204.out) | exact HB.out)) hb); have n6_ := Aside0.mk (hbox); have n7_ := Aside0.mk ((by rw [hg]; exact (below_size (by repeat (first | (with_reducible first | exact HB.out | apply below_alloc | apply pw_below_drewN | apply below_drew1 | refine below_set ?_ GE188.out | refine below_set ?_ GE193.out | refine below_set ?_ GE196.out | refine below_set ?_ GE204.out) | exact HB.out))) : w.heap.size ≤ gb214)); have n8_ := Aside0.mk ((by rw [hg]; exact (below_size (by repeat (first | (with_reducible first | exact HB.out | apply below_alloc | apply pw_below_drewN | apply below_drew1 | refine below_set ?_ GE188.out | refine below_set ?_ GE193.out | refine below_set ?_ GE196.out | refine below_set ?_ GE204.out) | exact HB.out))) : w.heap.size ≤ gb214)); have n9_ := Aside0.mk ((by rw [hg]; exact Nat.ne_of_lt (blk_lt (g := gb188) (o := .cells #[.int .i64 t186, .int .i64 t187] 49 (0, 0)) (by (with_reducible repeat (first | refine blk_drewN ?_ _ | refine blk_drew ?_ | refine blk_alloc ?_ _)); exact BK188.out)) : gb188 ≠ gb214)); have n10_ := Aside0.mk ((by rw [hg]; exact Nat.ne_of_gt (blk_lt (g := gb188) (o := .cells #[.int .i64 t186, .int .i64 t187] 49 (0, 0)) (by (with_reducible repeat (first | refine blk_drewN ?_ _ | refine blk_drew ?_ | refine blk_alloc ?_ _)); exact BK188.out)) : gb214 ≠ gb188)); have n11_ := Aside0.mk ((by rw [hg]; exact Nat.ne_of_lt (blk_lt (g := gb193) (o := .cells #[.int .i64 t190, .int .i64 t191] 49 (0, 0)) (by (with_reducible repeat (first | refine blk_drewN ?_ _ | refine blk_drew ?_ | refine blk_alloc ?_ _)); exact BK193.out)) : gb193 ≠ gb214)); have n12_ := Aside0.mk ((by rw [hg]; exact Nat.ne_of_gt (blk_lt (g := gb193) (o := .cells #[.int .i64 t190, .int .i64 t191] 49 (0, 0)) (by (with_reducible repeat (first | refine blk_drewN ?_ _ | refine blk_drew ?_ | refine blk_alloc ?_ _)); exact BK193.out)) : gb214 ≠ gb193)); have n13_ := Aside0.mk ((by rw [hg]; exact Nat.ne_of_lt (blk_lt (g := gb196) (o := .cells #[.int .i64 x197000_2, .int .i64 x197001_2] 49 (0, 0)) (by (with_reducible repeat (first | refine blk_drewN ?_ _ | refine blk_drew ?_ | refine blk_alloc ?_ _)); exact BK196.out)) : gb196 ≠ gb214)); have n14_ := Aside0.mk ((by rw [hg]; exact Nat.ne_of_gt (blk_lt (g := gb196) (o := .cells #[.int .i64 x197000_2, .int .i64 x197001_2] 49 (0, 0)) (by (with_reducible repeat (first | refine blk_drewN ?_ _ | refine blk_drew ?_ | refine blk_alloc ?_ _)); exact BK196.out)) : gb214 ≠ gb196)); have n15_ := Aside0.mk ((by rw [hg]; exact Nat.ne_of_lt (blk_lt (g := gb204) (o := .cells #[.int .i64 t201, .int .i64 t202] 49 (0, 0)) (by (with_reducible repeat (first | refine blk_drewN ?_ _ | refine blk_drew ?_ | refine blk_alloc ?_ _)); exact BK204.out)) : gb204 ≠ gb214)); have n16_ := Aside0.mk ((by rw [hg]; exact Nat.ne_of_gt (blk_lt (g := gb204) (o := .cells #[.int .i64 t201, .int .i64 t202] 49 (0, 0)) (by (with_reducible repeat (first | refine blk_drewN ?_ _ | refine blk_drew ?_ | refine blk_alloc ?_ _)); exact BK204.out)) : gb214 ≠ gb204)); clear HO_14; clear BK188; clear BK193; clear BK196; clear BK204; clear HB; have HO_14 := n0_; have BK188 := n1_; have BK193 := n2_; have BK196 := n3_; have BK204 := n4_; have HB := n5_; have BK214 := n6_; have GW214 := n7_; have GE214 := n8_; have NB188_214 := n9_; have NB214_188 := n10_; have NB193_214 := n11_; have NB214_193 := n12_; have NB196_214 := n13_; have NB214_196 := n14_; have NB204_214 := n15_; have NB214_204 := n16_; clear n0_ n1_ n2_ n3_ n4_ n5_ n6_ n7_ n8_ n9_ n10_ n11_ n12_ n13_ n14_ n15_ n16_; clear hb hbox hg; have hnb82 := NB214_188.out; have hnc82 := NB188_214.out; have hnb83 := NB214_193.out; have hnc83 := NB193_214.out; have hnb84 := NB214_196.out; have hnc84 := NB196_214.out; have hnb85 := NB214_204.out; have hnc85 := NB204_214.out; have hcz86_0 : w81.cell? ⟨gb214, 0, none⟩ = some (.int .i64 0) := (blk_cell BK214.out 0).trans rfl; have hcz86_1 : w81.cell? ⟨gb214, 1, none⟩ = some (.int .i64 0) := (blk_cell BK214.out 1).trans rfl; have hfz86_0 := blk_frozen BK214.out 0; have hfz86_1 := blk_frozen BK214.out 1))
                         go_loopg [18, 19] k4 (fun kq v18 v19 w' => ∃ (x18_5 : Bool) (x19_5 : Int) (x215000_5 : Int) (x215001_5 : Int), v18 = .bool x18_5 ∧ v19 = .int .i64 x19_5 ∧ Aside0 (laws_FnLeavens.l2 kq (wrap64 (1 + (Int.tmod t189 4))) y208 t211 x16_4 x18_5 x19_5 t186 t187 x215000_5 x215001_5 = some true) ∧ Aside0 (kq ≤ k4) ∧ Aside0 (Kd.R (Kd.int .i64) 3 w' w.heap.size (fun _ => True) (.slice Ao78 y208.length co78) y208) ∧ Aside0 (w'.heap[gb188]? = some (.cells #[.int .i64 t186, .int .i64 t187] 49 (0, 0))) ∧ Aside0 (w'.heap[gb193]? = some (.cells #[.int .i64 t190, .int .i64 t191] 49 (0, 0))) ∧ Aside0 (w'.heap[gb196]? = some (.cells #[.int .i64 x197000_2, .int .i64 x197001_2] 49 (0, 0))) ∧ Aside0 (w'.heap[gb204]? = some (.cells #[.int .i64 t201, .int .i64 t202] 49 (0, 0))) ∧ Aside0 (w'.heap[gb214]? = some (.cells #[.int .i64 x215000_5, .int .i64 x215001_5] 49 (0, 0))) ∧ Aside0 (Below w.heap.size w w'))
                         case atStart => exact ⟨(true), (0), (wrap64 (t211 - x16_4)), (0), (by first | rfl | (simp; done) | (simp [*]; done)), (by first | rfl | (simp; done) | (simp [*]; done)), H', ⟨Nat.le_refl _⟩, ⟨by (with_reducible repeat (first | apply Kd.R_alloc | apply Kd.R_drewN | apply Kd.R_drew)); exact Kd.R_mono (Kd.R_far (p := ⟨gb214, 1, none⟩) (Kd.R_far (p := ⟨gb214, 0, none⟩) (Kd.R_types HO_14.out BK214.out (by decide)) (fun _ hk => hk.2) (.int .i64 (wrap64 (t211 - x16_4)))) (fun _ hk => hk.2) (.int .i64 0)) (fun _ hk => trivial)⟩, ⟨by (with_reducible repeat (first | refine blk_drewN ?_ _ | refine blk_drew ?_ | refine blk_alloc ?_ _)); refine blk_far ?_ NB188_214.out _; (with_reducible repeat (first | refine blk_drewN ?_ _ | refine blk_drew ?_ | refine blk_alloc ?_ _)); refine blk_far ?_ NB188_214.out _; (with_reducible repeat (first | refine blk_drewN ?_ _ | refine blk_drew ?_ | refine blk_alloc ?_ _)); exact BK188.out⟩, ⟨by (with_reducible repeat (first | refine blk_drewN ?_ _ | refine blk_drew ?_ | refine blk_alloc ?_ _)); refine blk_far ?_ NB193_214.out _; (with_reducible repeat (first | refine blk_drewN ?_ _ | refine blk_drew ?_ | refine blk_alloc ?_ _)); refine blk_far ?_ NB193_214.out _; (with_reducible repeat (first | refine blk_drewN ?_ _ | refine blk_drew ?_ | refine blk_alloc ?_ _)); exact BK193.out⟩, ⟨by (with_reducible repeat (first | refine blk_drewN ?_ _ | refine blk_drew ?_ | refine blk_alloc ?_ _)); refine blk_far ?_ NB196_214.out _; (with_reducible repeat (first | refine blk_drewN ?_ _ | refine blk_drew ?_ | refine blk_alloc ?_ _)); refine blk_far ?_ NB196_214.out _; (with_reducible repeat (first | refine blk_drewN ?_ _ | refine blk_drew ?_ | refine blk_alloc ?_ _)); exact BK196.out⟩, ⟨by (with_reducible repeat (first | refine blk_drewN ?_ _ | refine blk_drew ?_ | refine blk_alloc ?_ _)); refine blk_far ?_ NB204_214.out _; (with_reducible repeat (first | refine blk_drewN ?_ _ | refine blk_drew ?_ | refine blk_alloc ?_ _)); refine blk_far ?_ NB204_214.out _; (with_reducible repeat (first | refine blk_drewN ?_ _ | refine blk_drew ?_ | refine blk_alloc ?_ _)); exact BK204.out⟩, ⟨by (with_reducible repeat (first | refine blk_drewN ?_ _ | refine blk_drew ?_ | refine blk_alloc ?_ _)); refine blk_put (cs := #[.int .i64 (wrap64 (t211 - x16_4)), .int .i64 0]) ?_ 1 _ rfl; (with_reducible repeat (first | refine blk_drewN ?_ _ | refine blk_drew ?_ | refine blk_alloc ?_ _)); refine blk_put (cs := #[.int .i64 0, .int .i64 0]) ?_ 0 _ rfl; (with_reducible repeat (first | refine blk_drewN ?_ _ | refine blk_drew ?_ | refine blk_alloc ?_ _)); exact BK214.out⟩, ⟨by repeat (first | (with_reducible first | exact HB.out | apply below_alloc | apply pw_below_drewN | apply below_drew1 | refine below_set ?_ GE188.out | refine below_set ?_ GE193.out | refine below_set ?_ GE196.out | refine below_set ?_ GE204.out | refine below_set ?_ GE214.out) | exact HB.out)⟩⟩
                         case round =>
                          clear H'
                          try clear c1
                          try clear c2
                          try clear p2
                          try clear c3
                          try clear c4
                          try clear c5
                          try clear c6
                          try clear p6
                          try clear c7
                          try clear c8
                          try clear c15
                          try clear c18
                          try clear c19
                          try clear c20
                          try clear c20b0
                          try clear c20b1
                          try clear c21
                          try clear c21b0
                          try clear c21b1
                          try clear c22
                          try clear c25
                          try clear c26
                          try clear c29
                          try clear c30
                          try clear c32
                          try clear c32b0
                          try clear c33
                          try clear c33b0
                          try clear c34
                          try clear c35
                          try clear c36
                          try clear c37
                          try clear c38
                          try clear c40
                          try clear c40b0
                          try clear c42
                          try clear c42b0
                          try clear c42b1
                          try clear c45
                          try clear c46
                          try clear c49
                          try clear c53
                          try clear c54
                          try clear c55
                          try clear c57
                          try clear c57b0
                          try clear c57b1
                          try clear c57b2
                          try clear c58
                          try clear c59
                          try clear c60
                          try clear c61
                          try clear c63
                          try clear c64
                          try clear p64
                          try clear c66
                          try clear c67
                          try clear c68
                          try clear c70
                          try clear c75
                          try clear c75b0
                          try clear c80
                          try clear c80b0
                          try clear c82
                          try clear c83
                          try clear c84
                          try clear c85
                          try clear hcz12_0
                          try clear hcz12_1
                          try clear hcz16_0
                          try clear hcz16_1
                          try clear hcz17_0
                          try clear hcz17_1
                          try clear hcz23_0
                          try clear hcz23_1
                          try clear hcz24_0
                          try clear hcz24_1
                          try clear hcz27_0
                          try clear hcz27_1
                          try clear hcz31_0
                          try clear hcz31_1
                          try clear hcz37_0
                          try clear hcz37_1
                          try clear hcz39_0
                          try clear hcz39_1
                          try clear hcz47_0
                          try clear hcz47_1
                          try clear hcz50_0
                          try clear hcz50_1
                          try clear hcz56_0
                          try clear hcz56_1
                          try clear hcz62_0
                          try clear hcz62_1
                          try clear hcz65_0
                          try clear hcz65_1
                          try clear hcz69_0
                          try clear hcz69_1
                          try clear hcz86_0
                          try clear hcz86_1
                          try clear hfz12_0
                          try clear hfz12_1
                          try clear hfz16_0
                          try clear hfz16_1
                          try clear hfz17_0
                          try clear hfz17_1
                          try clear hfz23_0
                          try clear hfz23_1
                          try clear hfz24_0
                          try clear hfz24_1
                          try clear hfz27_0
                          try clear hfz27_1
                          try clear hfz31_0
                          try clear hfz31_1
                          try clear hfz37_0
                          try clear hfz37_1
                          try clear hfz39_0
                          try clear hfz39_1
                          try clear hfz47_0
                          try clear hfz47_1
                          try clear hfz50_0
                          try clear hfz50_1
                          try clear hfz56_0
                          try clear hfz56_1
                          try clear hfz62_0
                          try clear hfz62_1
                          try clear hfz65_0
                          try clear hfz65_1
                          try clear hfz69_0
                          try clear hfz69_1
                          try clear hfz86_0
                          try clear hfz86_1
                          try clear p2
                          try clear p6
                          try clear p64
                          obtain ⟨x18_5, x19_5, x215000_5, x215001_5, rfl, rfl, HA, HK5, HO_14, BK188, BK193, BK196, BK204, BK214, HB⟩ := hrel
                          cases gk with
                          | zero => exact absurd HA.out (by simp [laws_FnLeavens.l2])
                          | succ k5 =>
                           have H := HA.out
                           clear HA
                           simp only [laws_FnLeavens.l2] at H
                           have HC87 := Aside0.mk H
                           clear H
                           go_upto_region 33 with (fail)
                           go_cut [145] (fun v145 wc => ∃ (kq : Nat) (x145_86 : Bool), v145 = .bool x145_86 ∧ Aside0 (laws_FnLeavens.j5 kq (wrap64 (1 + (Int.tmod t189 4))) y208 t211 x16_4 x18_5 x19_5 x145_86 t186 t187 x215000_5 x215001_5 = some true) ∧ Aside0 (kq ≤ k5) ∧ Aside0 (Kd.R (Kd.int .i64) 3 wc w.heap.size (fun _ => True) (.slice Ao78 y208.length co78) y208) ∧ Aside0 (wc.heap[gb188]? = some (.cells #[.int .i64 t186, .int .i64 t187] 49 (0, 0))) ∧ Aside0 (wc.heap[gb193]? = some (.cells #[.int .i64 t190, .int .i64 t191] 49 (0, 0))) ∧ Aside0 (wc.heap[gb196]? = some (.cells #[.int .i64 x197000_2, .int .i64 x197001_2] 49 (0, 0))) ∧ Aside0 (wc.heap[gb204]? = some (.cells #[.int .i64 t201, .int .i64 t202] 49 (0, 0))) ∧ Aside0 (wc.heap[gb214]? = some (.cells #[.int .i64 x215000_5, .int .i64 x215001_5] 49 (0, 0))) ∧ Aside0 (Below w.heap.size w wc))
                           case first =>
                            have H := HC87.out
                            clear HC87
                            by_cases c88 : x19_5 < (y208.length : Int)
                            · rw [if_pos c88] at H
                              have c88b0 : decide (x19_5 < (y208.length : Int)) = true := decide_eq_true c88
                              clear c88
                              (first | rw [c88b0] | (simp only [i64_w, i32_w]; rw [c88b0]) | skip)
                              have H' := Aside0.mk H
                              clear H
                              go_wp2
                              go_meet
                              case rel => exact ⟨_, (x18_5), (by first | rfl | (simp; done) | (simp [*]; done)), H', ⟨by have := HJ8.out; have := HK2.out; have := HJ43.out; have := HK4.out; have := HK5.out; first | omega | exact Nat.le_refl _⟩, ⟨by (with_reducible repeat (first | apply Kd.R_alloc | apply Kd.R_drewN | apply Kd.R_drew)); exact HO_14.out⟩, ⟨by (with_reducible repeat (first | refine blk_drewN ?_ _ | refine blk_drew ?_ | refine blk_alloc ?_ _)); exact BK188.out⟩, ⟨by (with_reducible repeat (first | refine blk_drewN ?_ _ | refine blk_drew ?_ | refine blk_alloc ?_ _)); exact BK193.out⟩, ⟨by (with_reducible repeat (first | refine blk_drewN ?_ _ | refine blk_drew ?_ | refine blk_alloc ?_ _)); exact BK196.out⟩, ⟨by (with_reducible repeat (first | refine blk_drewN ?_ _ | refine blk_drew ?_ | refine blk_alloc ?_ _)); exact BK204.out⟩, ⟨by (with_reducible repeat (first | refine blk_drewN ?_ _ | refine blk_drew ?_ | refine blk_alloc ?_ _)); exact BK214.out⟩, ⟨by repeat (first | (with_reducible first | exact HB.out | apply below_alloc | apply pw_below_drewN | apply below_drew1 | refine below_set ?_ GE188.out | refine below_set ?_ GE193.out | refine below_set ?_ GE196.out | refine below_set ?_ GE204.out | refine below_set ?_ GE214.out) | exact HB.out)⟩⟩
                            · rw [if_neg c88] at H
                              have c88b0 : decide (x19_5 < (y208.length : Int)) = false := decide_eq_false c88
                              clear c88
                              (first | rw [c88b0] | (simp only [i64_w, i32_w]; rw [c88b0]) | skip)
                              have H' := Aside0.mk H
                              clear H
                              go_wp2
                              go_meet
                              case rel => exact ⟨_, (false), (by first | rfl | (simp; done) | (simp [*]; done)), H', ⟨by have := HJ8.out; have := HK2.out; have := HJ43.out; have := HK4.out; have := HK5.out; first | omega | exact Nat.le_refl _⟩, ⟨by (with_reducible repeat (first | apply Kd.R_alloc | apply Kd.R_drewN | apply Kd.R_drew)); exact HO_14.out⟩, ⟨by (with_reducible repeat (first | refine blk_drewN ?_ _ | refine blk_drew ?_ | refine blk_alloc ?_ _)); exact BK188.out⟩, ⟨by (with_reducible repeat (first | refine blk_drewN ?_ _ | refine blk_drew ?_ | refine blk_alloc ?_ _)); exact BK193.out⟩, ⟨by (with_reducible repeat (first | refine blk_drewN ?_ _ | refine blk_drew ?_ | refine blk_alloc ?_ _)); exact BK196.out⟩, ⟨by (with_reducible repeat (first | refine blk_drewN ?_ _ | refine blk_drew ?_ | refine blk_alloc ?_ _)); exact BK204.out⟩, ⟨by (with_reducible repeat (first | refine blk_drewN ?_ _ | refine blk_drew ?_ | refine blk_alloc ?_ _)); exact BK214.out⟩, ⟨by repeat (first | (with_reducible first | exact HB.out | apply below_alloc | apply pw_below_drewN | apply below_drew1 | refine below_set ?_ GE188.out | refine below_set ?_ GE193.out | refine below_set ?_ GE196.out | refine below_set ?_ GE204.out | refine below_set ?_ GE214.out) | exact HB.out)⟩⟩
                           case rest =>
                            clear HC87
                            try clear c1
                            try clear c2
                            try clear p2
                            try clear c3
                            try clear c4
                            try clear c5
                            try clear c6
                            try clear p6
                            try clear c7
                            try clear c8
                            try clear c15
                            try clear c18
                            try clear c19
                            try clear c20
                            try clear c20b0
                            try clear c20b1
                            try clear c21
                            try clear c21b0
                            try clear c21b1
                            try clear c22
                            try clear c25
                            try clear c26
                            try clear c29
                            try clear c30
                            try clear c32
                            try clear c32b0
                            try clear c33
                            try clear c33b0
                            try clear c34
                            try clear c35
                            try clear c36
                            try clear c37
                            try clear c38
                            try clear c40
                            try clear c40b0
                            try clear c42
                            try clear c42b0
                            try clear c42b1
                            try clear c45
                            try clear c46
                            try clear c49
                            try clear c53
                            try clear c54
                            try clear c55
                            try clear c57
                            try clear c57b0
                            try clear c57b1
                            try clear c57b2
                            try clear c58
                            try clear c59
                            try clear c60
                            try clear c61
                            try clear c63
                            try clear c64
                            try clear p64
                            try clear c66
                            try clear c67
                            try clear c68
                            try clear c70
                            try clear c75
                            try clear c75b0
                            try clear c80
                            try clear c80b0
                            try clear c82
                            try clear c83
                            try clear c84
                            try clear c85
                            try clear c88
                            try clear c88b0
                            try clear hcz12_0
                            try clear hcz12_1
                            try clear hcz16_0
                            try clear hcz16_1
                            try clear hcz17_0
                            try clear hcz17_1
                            try clear hcz23_0
                            try clear hcz23_1
                            try clear hcz24_0
                            try clear hcz24_1
                            try clear hcz27_0
                            try clear hcz27_1
                            try clear hcz31_0
                            try clear hcz31_1
                            try clear hcz37_0
                            try clear hcz37_1
                            try clear hcz39_0
                            try clear hcz39_1
                            try clear hcz47_0
                            try clear hcz47_1
                            try clear hcz50_0
                            try clear hcz50_1
                            try clear hcz56_0
                            try clear hcz56_1
                            try clear hcz62_0
                            try clear hcz62_1
                            try clear hcz65_0
                            try clear hcz65_1
                            try clear hcz69_0
                            try clear hcz69_1
                            try clear hcz86_0
                            try clear hcz86_1
                            try clear hfz12_0
                            try clear hfz12_1
                            try clear hfz16_0
                            try clear hfz16_1
                            try clear hfz17_0
                            try clear hfz17_1
                            try clear hfz23_0
                            try clear hfz23_1
                            try clear hfz24_0
                            try clear hfz24_1
                            try clear hfz27_0
                            try clear hfz27_1
                            try clear hfz31_0
                            try clear hfz31_1
                            try clear hfz37_0
                            try clear hfz37_1
                            try clear hfz39_0
                            try clear hfz39_1
                            try clear hfz47_0
                            try clear hfz47_1
                            try clear hfz50_0
                            try clear hfz50_1
                            try clear hfz56_0
                            try clear hfz56_1
                            try clear hfz62_0
                            try clear hfz62_1
                            try clear hfz65_0
                            try clear hfz65_1
                            try clear hfz69_0
                            try clear hfz69_1
                            try clear hfz86_0
                            try clear hfz86_1
                            try clear p2
                            try clear p6
                            try clear p64
                            obtain ⟨kq, x145_86, rfl, HA, HJ86, HO_14, BK188, BK193, BK196, BK204, BK214, HB⟩ := hcut
                            cases kq with
                            | zero => exact absurd HA.out (by simp [laws_FnLeavens.j5])
                            | succ kj86 =>
                             have H := HA.out
                             clear HA
                             simp only [laws_FnLeavens.j5] at H
                             by_cases c89 : x145_86 = true
                             · subst c89
                               have H1 : ((spec_Feed.f kj86 x215000_5 x215001_5 (wrap64 (1 + (Int.tmod t189 4)))).bind fun bt215 => (if 0 ≤ x19_5 then (if x19_5 < (y208.length : Int) then ((spec_TakeLeaven.f bt215.1 bt215.2.1 (rd y208 x19_5) 1).bind fun bt220 => (if bt215.2.2 = true then (laws_FnLeavens.l2 kj86 (wrap64 (1 + (Int.tmod t189 4))) y208 t211 x16_4 bt220.2.2 (wrap64 (x19_5 + 1)) t186 t187 bt220.1 bt220.2.1) else (laws_FnLeavens.l2 kj86 (wrap64 (1 + (Int.tmod t189 4))) y208 t211 x16_4 false (wrap64 (x19_5 + 1)) t186 t187 bt220.1 bt220.2.1))) else (none)) else (none))) = some true := by rw [if_pos rfl] at H; exact H
                               clear H
                               have H := H1
                               clear H1
                               replace H := Option.bind_eq_some_iff.mp H
                               obtain ⟨⟨t215, t216, t217⟩, A900, H⟩ := H
                               replace H : (if 0 ≤ x19_5 then (if x19_5 < (y208.length : Int) then ((spec_TakeLeaven.f t215 t216 (rd y208 x19_5) 1).bind fun bt220 => (if t217 = true then (laws_FnLeavens.l2 kj86 (wrap64 (1 + (Int.tmod t189 4))) y208 t211 x16_4 bt220.2.2 (wrap64 (x19_5 + 1)) t186 t187 bt220.1 bt220.2.1) else (laws_FnLeavens.l2 kj86 (wrap64 (1 + (Int.tmod t189 4))) y208 t211 x16_4 false (wrap64 (x19_5 + 1)) t186 t187 bt220.1 bt220.2.1))) else (none)) else (none)) = some true := H
                               have A90 := Aside0.mk A900
                               clear A900
                               by_cases c91 : 0 ≤ x19_5
                               · rw [if_pos c91] at H
                                 have c91b0 : decide (0 ≤ x19_5) = true := decide_eq_true c91
                                 clear c91
                                 by_cases c92 : x19_5 < (y208.length : Int)
                                 · rw [if_pos c92] at H
                                   have c92b0 : decide (x19_5 < (y208.length : Int)) = true := decide_eq_true c92
                                   clear c92
                                   replace H := Option.bind_eq_some_iff.mp H
                                   obtain ⟨⟨t220, t221, t222⟩, A930, H⟩ := H
                                   replace H : (if t217 = true then (laws_FnLeavens.l2 kj86 (wrap64 (1 + (Int.tmod t189 4))) y208 t211 x16_4 t222 (wrap64 (x19_5 + 1)) t186 t187 t220 t221) else (laws_FnLeavens.l2 kj86 (wrap64 (1 + (Int.tmod t189 4))) y208 t211 x16_4 false (wrap64 (x19_5 + 1)) t186 t187 t220 t221)) = some true := H
                                   have A93 := Aside0.mk A930
                                   clear A930
                                   by_cases c94 : t217 = true
                                   · subst c94
                                     have H1 : (laws_FnLeavens.l2 kj86 (wrap64 (1 + (Int.tmod t189 4))) y208 t211 x16_4 t222 (wrap64 (x19_5 + 1)) t186 t187 t220 t221) = some true := by rw [if_pos rfl] at H; exact H
                                     clear H
                                     have H := H1
                                     clear H1
                                     have H' := Aside0.mk H
                                     clear H
                                     have hnb95 := NB214_188.out
                                     have hnc95 := NB188_214.out
                                     have hnb96 := NB214_193.out
                                     have hnc96 := NB193_214.out
                                     have hnb97 := NB214_196.out
                                     have hnc97 := NB196_214.out
                                     have hnb98 := NB214_204.out
                                     have hnc98 := NB204_214.out
                                     have hcz99_0 : wc.cell? ⟨gb214, 0, none⟩ = some (.int .i64 x215000_5) := (blk_cell BK214.out 0).trans rfl
                                     have hcz99_1 : wc.cell? ⟨gb214, 1, none⟩ = some (.int .i64 x215001_5) := (blk_cell BK214.out 1).trans rfl
                                     have hfz99_0 := blk_frozen BK214.out 0
                                     have hfz99_1 := blk_frozen BK214.out 1
                                     try go_wp2_with (first | ((with_reducible refine gate_callee (f := 39) rfl ?_); refine goesL_ (some 151) rfl rfl Try.func39 (by kernel_rfl) rfl #[.agg #[.int .i64 x215000_5, .int .i64 x215001_5], .int .i64 (wrap64 (1 + (Int.tmod t189 4)))] rfl (by (try simp only [List.map_toArray, List.map_cons, List.map_nil]); first | done | rfl | (simp only [List.length_drop, List.length_take]; rfl)) ?_; (with_reducible refine (spec_Feed.calls kj86 x215000_5 x215001_5 (wrap64 (1 + (Int.tmod t189 4))) t215 t216 true _ A90.out).mono ?_); rintro e w100 ⟨rfl, hb⟩; refine ⟨_, rfl, ?_⟩; have n0_ := Aside0.mk (Kd.R_below (by (with_reducible repeat (first | apply Kd.R_alloc | apply Kd.R_drewN | apply Kd.R_drew)); exact HO_14.out) hb); have n1_ := Aside0.mk (blk_below (g := gb188) (o := .cells #[.int .i64 t186, .int .i64 t187] 49 (0, 0)) (by (with_reducible repeat (first | refine blk_drewN ?_ _ | refine blk_drew ?_ | refine blk_alloc ?_ _)); exact BK188.out) hb); have n2_ := Aside0.mk (blk_below (g := gb193) (o := .cells #[.int .i64 t190, .int .i64 t191] 49 (0, 0)) (by (with_reducible repeat (first | refine blk_drewN ?_ _ | refine blk_drew ?_ | refine blk_alloc ?_ _)); exact BK193.out) hb); have n3_ := Aside0.mk (blk_below (g := gb196) (o := .cells #[.int .i64 x197000_2, .int .i64 x197001_2] 49 (0, 0)) (by (with_reducible repeat (first | refine blk_drewN ?_ _ | refine blk_drew ?_ | refine blk_alloc ?_ _)); exact BK196.out) hb); have n4_ := Aside0.mk (blk_below (g := gb204) (o := .cells #[.int .i64 t201, .int .i64 t202] 49 (0, 0)) (by (with_reducible repeat (first | refine blk_drewN ?_ _ | refine blk_drew ?_ | refine blk_alloc ?_ _)); exact BK204.out) hb); have n5_ := Aside0.mk (blk_below (g := gb214) (o := .cells #[.int .i64 x215000_5, .int .i64 x215001_5] 49 (0, 0)) (by (with_reducible repeat (first | refine blk_drewN ?_ _ | refine blk_drew ?_ | refine blk_alloc ?_ _)); exact BK214.out) hb); have n6_ := Aside0.mk (below_step (by repeat (first | (with_reducible first | exact HB.out | apply below_alloc | apply pw_below_drewN | apply below_drew1 | refine below_set ?_ GE188.out | refine below_set ?_ GE193.out | refine below_set ?_ GE196.out | refine below_set ?_ GE204.out | refine below_set ?_ GE214.out) | exact HB.out)) hb); clear HO_14; clear BK188; clear BK193; clear BK196; clear BK204; clear BK214; clear HB; have HO_14 := n0_; have BK188 := n1_; have BK193 := n2_; have BK196 := n3_; have BK204 := n4_; have BK214 := n5_; have HB := n6_; clear n0_ n1_ n2_ n3_ n4_ n5_ n6_; (try clear hb); (try clear hb2); (try clear hk); (try clear hi)) | ((with_reducible refine gate_dst (N := 20) rfl ?_); refine box_event ?hg (N := 20) ?hd (cs := #[.int .i64 0, .int .i64 0]) (t := 49) ?hr ?_; (case hd => rfl); (case hg => rfl); (case hr => first | (go_simp; done) | (go_simp; rfl)); intro gb218 hg w101 hbox hb; have n0_ := Aside0.mk (Kd.R_below (by (with_reducible repeat (first | apply Kd.R_alloc | apply Kd.R_drewN | apply Kd.R_drew)); exact HO_14.out) hb); have n1_ := Aside0.mk (blk_below (g := gb188) (o := .cells #[.int .i64 t186, .int .i64 t187] 49 (0, 0)) (by (with_reducible repeat (first | refine blk_drewN ?_ _ | refine blk_drew ?_ | refine blk_alloc ?_ _)); exact BK188.out) hb); have n2_ := Aside0.mk (blk_below (g := gb193) (o := .cells #[.int .i64 t190, .int .i64 t191] 49 (0, 0)) (by (with_reducible repeat (first | refine blk_drewN ?_ _ | refine blk_drew ?_ | refine blk_alloc ?_ _)); exact BK193.out) hb); have n3_ := Aside0.mk (blk_below (g := gb196) (o := .cells #[.int .i64 x197000_2, .int .i64 x197001_2] 49 (0, 0)) (by (with_reducible repeat (first | refine blk_drewN ?_ _ | refine blk_drew ?_ | refine blk_alloc ?_ _)); exact BK196.out) hb); have n4_ := Aside0.mk (blk_below (g := gb204) (o := .cells #[.int .i64 t201, .int .i64 t202] 49 (0, 0)) (by (with_reducible repeat (first | refine blk_drewN ?_ _ | refine blk_drew ?_ | refine blk_alloc ?_ _)); exact BK204.out) hb); have n5_ := Aside0.mk (blk_below (g := gb214) (o := .cells #[.int .i64 x215000_5, .int .i64 x215001_5] 49 (0, 0)) (by (with_reducible repeat (first | refine blk_drewN ?_ _ | refine blk_drew ?_ | refine blk_alloc ?_ _)); exact BK214.out) hb); have n6_ := Aside0.mk (below_step (by repeat (first | (with_reducible first | exact HB.out | apply below_alloc | apply pw_below_drewN | apply below_drew1 | refine below_set ?_ GE188.out | refine below_set ?_ GE193.out | refine below_set ?_ GE196.out | refine below_set ?_ GE204.out | refine below_set ?_ GE214.out) | exact HB.out)) hb); have n7_ := Aside0.mk (hbox); have n8_ := Aside0.mk ((by rw [hg]; exact (below_size (by repeat (first | (with_reducible first | exact HB.out | apply below_alloc | apply pw_below_drewN | apply below_drew1 | refine below_set ?_ GE188.out | refine below_set ?_ GE193.out | refine below_set ?_ GE196.out | refine below_set ?_ GE204.out | refine below_set ?_ GE214.out) | exact HB.out))) : w.heap.size ≤ gb218)); have n9_ := Aside0.mk ((by rw [hg]; exact (below_size (by repeat (first | (with_reducible first | exact HB.out | apply below_alloc | apply pw_below_drewN | apply below_drew1 | refine below_set ?_ GE188.out | refine below_set ?_ GE193.out | refine below_set ?_ GE196.out | refine below_set ?_ GE204.out | refine below_set ?_ GE214.out) | exact HB.out))) : w.heap.size ≤ gb218)); have n10_ := Aside0.mk ((by rw [hg]; exact Nat.ne_of_lt (blk_lt (g := gb188) (o := .cells #[.int .i64 t186, .int .i64 t187] 49 (0, 0)) (by (with_reducible repeat (first | refine blk_drewN ?_ _ | refine blk_drew ?_ | refine blk_alloc ?_ _)); exact BK188.out)) : gb188 ≠ gb218)); have n11_ := Aside0.mk ((by rw [hg]; exact Nat.ne_of_gt (blk_lt (g := gb188) (o := .cells #[.int .i64 t186, .int .i64 t187] 49 (0, 0)) (by (with_reducible repeat (first | refine blk_drewN ?_ _ | refine blk_drew ?_ | refine blk_alloc ?_ _)); exact BK188.out)) : gb218 ≠ gb188)); have n12_ := Aside0.mk ((by rw [hg]; exact Nat.ne_of_lt (blk_lt (g := gb193) (o := .cells #[.int .i64 t190, .int .i64 t191] 49 (0, 0)) (by (with_reducible repeat (first | refine blk_drewN ?_ _ | refine blk_drew ?_ | refine blk_alloc ?_ _)); exact BK193.out)) : gb193 ≠ gb218)); have n13_ := Aside0.mk ((by rw [hg]; exact Nat.ne_of_gt (blk_lt (g := gb193) (o := .cells #[.int .i64 t190, .int .i64 t191] 49 (0, 0)) (by (with_reducible repeat (first | refine blk_drewN ?_ _ | refine blk_drew ?_ | refine blk_alloc ?_ _)); exact BK193.out)) : gb218 ≠ gb193)); have n14_ := Aside0.mk ((by rw [hg]; exact Nat.ne_of_lt (blk_lt (g := gb196) (o := .cells #[.int .i64 x197000_2, .int .i64 x197001_2] 49 (0, 0)) (by (with_reducible repeat (first | refine blk_drewN ?_ _ | refine blk_drew ?_ | refine blk_alloc ?_ _)); exact BK196.out)) : gb196 ≠ gb218)); have n15_ := Aside0.mk ((by rw [hg]; exact Nat.ne_of_gt (blk_lt (g := gb196) (o := .cells #[.int .i64 x197000_2, .int .i64 x197001_2] 49 (0, 0)) (by (with_reducible repeat (first | refine blk_drewN ?_ _ | refine blk_drew ?_ | refine blk_alloc ?_ _)); exact BK196.out)) : gb218 ≠ gb196)); have n16_ := Aside0.mk ((by rw [hg]; exact Nat.ne_of_lt (blk_lt (g := gb204) (o := .cells #[.int .i64 t201, .int .i64 t202] 49 (0, 0)) (by (with_reducible repeat (first | refine blk_drewN ?_ _ | refine blk_drew ?_ | refine blk_alloc ?_ _)); exact BK204.out)) : gb204 ≠ gb218)); have n17_ := Aside0.mk ((by rw [hg]; exact Nat.ne_of_gt (blk_lt (g := gb204) (o := .cells #[.int .i64 t201, .int .i64 t202] 49 (0, 0)) (by (with_reducible repeat (first | refine blk_drewN ?_ _ | refine blk_drew ?_ | refine blk_alloc ?_ _)); exact BK204.out)) : gb218 ≠ gb204)); have n18_ := Aside0.mk ((by rw [hg]; exact Nat.ne_of_lt (blk_lt (g := gb214) (o := .cells #[.int .i64 x215000_5, .int .i64 x215001_5] 49 (0, 0)) (by (with_reducible repeat (first | refine blk_drewN ?_ _ | refine blk_drew ?_ | refine blk_alloc ?_ _)); exact BK214.out)) : gb214 ≠ gb218)); have n19_ := Aside0.mk ((by rw [hg]; exact Nat.ne_of_gt (blk_lt (g := gb214) (o := .cells #[.int .i64 x215000_5, .int .i64 x215001_5] 49 (0, 0)) (by (with_reducible repeat (first | refine blk_drewN ?_ _ | refine blk_drew ?_ | refine blk_alloc ?_ _)); exact BK214.out)) : gb218 ≠ gb214)); clear HO_14; clear BK188; clear BK193; clear BK196; clear BK204; clear BK214; clear HB; have HO_14 := n0_; have BK188 := n1_; have BK193 := n2_; have BK196 := n3_; have BK204 := n4_; have BK214 := n5_; have HB := n6_; have BK218 := n7_; have GW218 := n8_; have GE218 := n9_; have NB188_218 := n10_; have NB218_188 := n11_; have NB193_218 := n12_; have NB218_193 := n13_; have NB196_218 := n14_; have NB218_196 := n15_; have NB204_218 := n16_; have NB218_204 := n17_; have NB214_218 := n18_; have NB218_214 := n19_; clear n0_ n1_ n2_ n3_ n4_ n5_ n6_ n7_ n8_ n9_ n10_ n11_ n12_ n13_ n14_ n15_ n16_ n17_ n18_ n19_; clear hb hbox hg; have hnb102 := NB218_188.out; have hnc102 := NB188_218.out; have hnb103 := NB218_193.out; have hnc103 := NB193_218.out; have hnb104 := NB218_196.out; have hnc104 := NB196_218.out; have hnb105 := NB218_204.out; have hnc105 := NB204_218.out; have hnb106 := NB218_214.out; have hnc106 := NB214_218.out; have hcz107_0 : w101.cell? ⟨gb218, 0, none⟩ = some (.int .i64 0) := (blk_cell BK218.out 0).trans rfl; have hcz107_1 : w101.cell? ⟨gb218, 1, none⟩ = some (.int .i64 0) := (blk_cell BK218.out 1).trans rfl; have hfz107_0 := blk_frozen BK218.out 0; have hfz107_1 := blk_frozen BK218.out 1))
                                     have n0_ : Aside0 (Kd.R (Kd.int .i64) 3 ((w101.setCell ⟨gb218, 0, none⟩ (.int .i64 t215)).setCell ⟨gb218, 1, none⟩ (.int .i64 t216)) w.heap.size (fun _ => True) (.slice Ao78 y208.length co78) y208) := ⟨by (with_reducible repeat (first | apply Kd.R_alloc | apply Kd.R_drewN | apply Kd.R_drew)); exact Kd.R_mono (Kd.R_far (p := ⟨gb218, 1, none⟩) (Kd.R_far (p := ⟨gb218, 0, none⟩) (Kd.R_types HO_14.out BK218.out (by decide)) (fun _ hk => hk.2) (.int .i64 t215)) (fun _ hk => hk.2) (.int .i64 t216)) (fun _ hk => trivial)⟩
                                     have n1_ : Aside0 (((w101.setCell ⟨gb218, 0, none⟩ (.int .i64 t215)).setCell ⟨gb218, 1, none⟩ (.int .i64 t216)).heap[gb188]? = some (.cells #[.int .i64 t186, .int .i64 t187] 49 (0, 0))) := ⟨by (with_reducible repeat (first | refine blk_drewN ?_ _ | refine blk_drew ?_ | refine blk_alloc ?_ _)); refine blk_far ?_ NB188_218.out _; (with_reducible repeat (first | refine blk_drewN ?_ _ | refine blk_drew ?_ | refine blk_alloc ?_ _)); refine blk_far ?_ NB188_218.out _; (with_reducible repeat (first | refine blk_drewN ?_ _ | refine blk_drew ?_ | refine blk_alloc ?_ _)); exact BK188.out⟩
                                     have n2_ : Aside0 (((w101.setCell ⟨gb218, 0, none⟩ (.int .i64 t215)).setCell ⟨gb218, 1, none⟩ (.int .i64 t216)).heap[gb193]? = some (.cells #[.int .i64 t190, .int .i64 t191] 49 (0, 0))) := ⟨by (with_reducible repeat (first | refine blk_drewN ?_ _ | refine blk_drew ?_ | refine blk_alloc ?_ _)); refine blk_far ?_ NB193_218.out _; (with_reducible repeat (first | refine blk_drewN ?_ _ | refine blk_drew ?_ | refine blk_alloc ?_ _)); refine blk_far ?_ NB193_218.out _; (with_reducible repeat (first | refine blk_drewN ?_ _ | refine blk_drew ?_ | refine blk_alloc ?_ _)); exact BK193.out⟩
                                     have n3_ : Aside0 (((w101.setCell ⟨gb218, 0, none⟩ (.int .i64 t215)).setCell ⟨gb218, 1, none⟩ (.int .i64 t216)).heap[gb196]? = some (.cells #[.int .i64 x197000_2, .int .i64 x197001_2] 49 (0, 0))) := ⟨by (with_reducible repeat (first | refine blk_drewN ?_ _ | refine blk_drew ?_ | refine blk_alloc ?_ _)); refine blk_far ?_ NB196_218.out _; (with_reducible repeat (first | refine blk_drewN ?_ _ | refine blk_drew ?_ | refine blk_alloc ?_ _)); refine blk_far ?_ NB196_218.out _; (with_reducible repeat (first | refine blk_drewN ?_ _ | refine blk_drew ?_ | refine blk_alloc ?_ _)); exact BK196.out⟩
                                     have n4_ : Aside0 (((w101.setCell ⟨gb218, 0, none⟩ (.int .i64 t215)).setCell ⟨gb218, 1, none⟩ (.int .i64 t216)).heap[gb204]? = some (.cells #[.int .i64 t201, .int .i64 t202] 49 (0, 0))) := ⟨by (with_reducible repeat (first | refine blk_drewN ?_ _ | refine blk_drew ?_ | refine blk_alloc ?_ _)); refine blk_far ?_ NB204_218.out _; (with_reducible repeat (first | refine blk_drewN ?_ _ | refine blk_drew ?_ | refine blk_alloc ?_ _)); refine blk_far ?_ NB204_218.out _; (with_reducible repeat (first | refine blk_drewN ?_ _ | refine blk_drew ?_ | refine blk_alloc ?_ _)); exact BK204.out⟩
                                     have n5_ : Aside0 (((w101.setCell ⟨gb218, 0, none⟩ (.int .i64 t215)).setCell ⟨gb218, 1, none⟩ (.int .i64 t216)).heap[gb214]? = some (.cells #[.int .i64 x215000_5, .int .i64 x215001_5] 49 (0, 0))) := ⟨by (with_reducible repeat (first | refine blk_drewN ?_ _ | refine blk_drew ?_ | refine blk_alloc ?_ _)); refine blk_far ?_ NB214_218.out _; (with_reducible repeat (first | refine blk_drewN ?_ _ | refine blk_drew ?_ | refine blk_alloc ?_ _)); refine blk_far ?_ NB214_218.out _; (with_reducible repeat (first | refine blk_drewN ?_ _ | refine blk_drew ?_ | refine blk_alloc ?_ _)); exact BK214.out⟩
                                     have n6_ : Aside0 (((w101.setCell ⟨gb218, 0, none⟩ (.int .i64 t215)).setCell ⟨gb218, 1, none⟩ (.int .i64 t216)).heap[gb218]? = some (.cells #[.int .i64 t215, .int .i64 t216] 49 (0, 0))) := ⟨by (with_reducible repeat (first | refine blk_drewN ?_ _ | refine blk_drew ?_ | refine blk_alloc ?_ _)); refine blk_put (cs := #[.int .i64 t215, .int .i64 0]) ?_ 1 _ rfl; (with_reducible repeat (first | refine blk_drewN ?_ _ | refine blk_drew ?_ | refine blk_alloc ?_ _)); refine blk_put (cs := #[.int .i64 0, .int .i64 0]) ?_ 0 _ rfl; (with_reducible repeat (first | refine blk_drewN ?_ _ | refine blk_drew ?_ | refine blk_alloc ?_ _)); exact BK218.out⟩
                                     have n7_ : Aside0 (Below w.heap.size w ((w101.setCell ⟨gb218, 0, none⟩ (.int .i64 t215)).setCell ⟨gb218, 1, none⟩ (.int .i64 t216))) := ⟨by repeat (first | (with_reducible first | exact HB.out | apply below_alloc | apply pw_below_drewN | apply below_drew1 | refine below_set ?_ GE188.out | refine below_set ?_ GE193.out | refine below_set ?_ GE196.out | refine below_set ?_ GE204.out | refine below_set ?_ GE214.out | refine below_set ?_ GE218.out) | exact HB.out)⟩
                                     (try clear HO_14)
                                     (try clear BK188)
                                     (try clear BK193)
                                     (try clear BK196)
                                     (try clear BK204)
                                     (try clear BK214)
                                     (try clear BK218)
                                     (try clear HB)
                                     generalize ((w101.setCell ⟨gb218, 0, none⟩ (.int .i64 t215)).setCell ⟨gb218, 1, none⟩ (.int .i64 t216)) = w108 at n0_ n1_ n2_ n3_ n4_ n5_ n6_ n7_ ⊢
                                     have HO_14 := n0_
                                     have BK188 := n1_
                                     have BK193 := n2_
                                     have BK196 := n3_
                                     have BK204 := n4_
                                     have BK214 := n5_
                                     have BK218 := n6_
                                     have HB := n7_
                                     clear n0_ n1_ n2_ n3_ n4_ n5_ n6_ n7_
                                     have n0_ := Aside0.mk (Kd.R_drew HO_14.out)
                                     have n1_ := Aside0.mk (blk_drew BK188.out)
                                     have n2_ := Aside0.mk (blk_drew BK193.out)
                                     have n3_ := Aside0.mk (blk_drew BK196.out)
                                     have n4_ := Aside0.mk (blk_drew BK204.out)
                                     have n5_ := Aside0.mk (blk_drew BK214.out)
                                     have n6_ := Aside0.mk (blk_drew BK218.out)
                                     have n7_ := Aside0.mk (below_drew1 HB.out)
                                     clear HO_14
                                     clear BK188
                                     clear BK193
                                     clear BK196
                                     clear BK204
                                     clear BK214
                                     clear BK218
                                     clear HB
                                     have HO_14 := n0_
                                     have BK188 := n1_
                                     have BK193 := n2_
                                     have BK196 := n3_
                                     have BK204 := n4_
                                     have BK214 := n5_
                                     have BK218 := n6_
                                     have HB := n7_
                                     clear n0_ n1_ n2_ n3_ n4_ n5_ n6_ n7_
                                     have p219 : 0 ≤ (x19_5 : Int) := of_decide_eq_true (by first | (with_reducible assumption) | assumption)
                                     have q219 : x19_5 < (y208.length : Int) := of_decide_eq_true (by first | (with_reducible assumption) | assumption)
                                     obtain ⟨ad219, e219, hx219_0⟩ := Kd.at_int (Kd.R_reads' HO_14.out).2.2 x19_5 p219 q219
                                     cases e219
                                     replace p219 := eq_true p219
                                     replace q219 := eq_true q219
                                     refine start_ (n := 12) (S := fun w' => w'.cell? ⟨gb218, 0, none⟩ = some (.int .i64 t215) ∧ w'.cell? ⟨gb218, 1, none⟩ = some (.int .i64 t216) ∧ w'.cell? (ad219.add (x19_5).toNat) = some (.int .i64 (rd y208 x19_5))) (ds := []) #[false, false, false, false, false, false, false, false, false, false, false, false] (by kernel_rfl) rfl rfl ⟨(blk_cell BK218.out 0).trans rfl, (blk_cell BK218.out 1).trans rfl, hx219_0⟩ (fun hHeld => ?_); refine with_tabW laws_FnLeavens.tab36 laws_FnLeavens.bits36 (fun HT_ HW_ => ?_)
                                     generalize w108.drew = w109 at HO_14 BK188 BK193 BK196 BK204 BK214 BK218 HB hx219_0 hHeld ⊢
                                     refine pure_ (i := 1) (N := some 156) (v := ?_) (a' := ?_) #[false, true, false, false, false, false, false, false, false, false, false, false] rfl rfl (any_of HT_.out (by kernel_rfl)) (fun _ _ _ h => h) (Or.inl ⟨by rfl, ?_⟩) ?_ ?_
                                     rotate_left
                                     · intro w'
                                       go_simp
                                       with_reducible rfl
                                     rotate_left
                                     · simp only [Act.put, List.setIfInBounds_toArray, List.set_cons_zero, List.set_cons_succ, i64_w, i32_w]
                                       rfl
                                     refine pure_ (i := 2) (N := some 157) (v := ?_) (a' := ?_) #[false, true, true, false, false, false, false, false, false, false, false, false] rfl rfl (any_of HT_.out (by kernel_rfl)) (fun _ _ _ h => h) (Or.inl ⟨by rfl, ?_⟩) ?_ ?_
                                     rotate_left
                                     · intro w'
                                       go_simp
                                       with_reducible rfl
                                     rotate_left
                                     · simp only [Act.put, List.setIfInBounds_toArray, List.set_cons_zero, List.set_cons_succ, i64_w, i32_w]
                                       rfl
                                     refine pure_ (i := 3) (N := some 158) (v := ?_) (a' := ?_) #[false, true, true, true, false, false, false, false, false, false, false, false] rfl rfl (any_of HT_.out (by kernel_rfl)) (fun _ _ _ h => h) (Or.inl ⟨by rfl, ?_⟩) ?_ ?_
                                     rotate_left
                                     · intro w'
                                       go_simp
                                       with_reducible rfl
                                     rotate_left
                                     · simp only [Act.put, List.setIfInBounds_toArray, List.set_cons_zero, List.set_cons_succ, i64_w, i32_w]
                                       rfl
                                     refine take_ (i := 0) (N := some 155) (v := ?_) (a' := ?_) #[true, true, true, true, false, false, false, false, false, false, false, false] rfl rfl (take_ofW HT_.out HW_.out (by kernel_rfl)) (fun _ _ _ h => h) (Or.inl ⟨by rfl, ?_⟩) hHeld ?_ ?_
                                     rotate_left
                                     · rintro w' ⟨s0, s1, s2⟩
                                       go_simp
                                       with_reducible rfl
                                     rotate_left
                                     · simp only [Act.put, List.setIfInBounds_toArray, List.set_cons_zero, List.set_cons_succ, i64_w, i32_w]
                                       rfl
                                     refine take_ (i := 4) (N := some 159) (v := ?_) (a' := ?_) #[true, true, true, true, true, false, false, false, false, false, false, false] rfl rfl (take_ofW HT_.out HW_.out (by kernel_rfl)) (fun _ _ _ h => h) (Or.inl ⟨by rfl, ?_⟩) hHeld ?_ ?_
                                     rotate_left
                                     · rintro w' ⟨s0, s1, s2⟩
                                       go_simp
                                       with_reducible rfl
                                     rotate_left
                                     · simp only [Act.put, List.setIfInBounds_toArray, List.set_cons_zero, List.set_cons_succ, i64_w, i32_w]
                                       rfl
                                     refine join_ (σ := Nat) 2 #[true, true, true, true, true, true, true, true, true, true, false, false] (fun s_ => [(160, .tuple #[.agg #[.int .i64 t220, .int .i64 t221], .bool t222]), (22, .pointer (some ⟨s_, 0, none⟩)), (154, .tuple #[.agg #[.int .i64 t220, .int .i64 t221], .bool t222]), (161, .agg #[.int .i64 t220, .int .i64 t221]), (162, .bool t222)]) (fun s_ w' => (w'.cell? ⟨gb218, 0, none⟩ = some (.int .i64 t215) ∧ w'.cell? ⟨gb218, 1, none⟩ = some (.int .i64 t216) ∧ w'.cell? (ad219.add (x19_5).toNat) = some (.int .i64 (rd y208 x19_5))) ∧ (Kd.R (Kd.int .i64) 3 w' w.heap.size (fun _ => True) (.slice (some ad219) y208.length co78) y208) ∧ (w'.heap[gb188]? = some (.cells #[.int .i64 t186, .int .i64 t187] 49 (0, 0))) ∧ (w'.heap[gb193]? = some (.cells #[.int .i64 t190, .int .i64 t191] 49 (0, 0))) ∧ (w'.heap[gb196]? = some (.cells #[.int .i64 x197000_2, .int .i64 x197001_2] 49 (0, 0))) ∧ (w'.heap[gb204]? = some (.cells #[.int .i64 t201, .int .i64 t202] 49 (0, 0))) ∧ (w'.heap[gb214]? = some (.cells #[.int .i64 x215000_5, .int .i64 x215001_5] 49 (0, 0))) ∧ (w'.heap[gb218]? = some (.cells #[.int .i64 t215, .int .i64 t216] 49 (0, 0))) ∧ (w'.heap[s_]? = some (.cells #[.int .i64 0, .int .i64 0] 49 (0, 0))) ∧ (w.heap.size ≤ s_) ∧ (w.heap.size ≤ s_) ∧ (gb188 ≠ s_) ∧ (s_ ≠ gb188) ∧ (gb193 ≠ s_) ∧ (s_ ≠ gb193) ∧ (gb196 ≠ s_) ∧ (s_ ≠ gb196) ∧ (gb204 ≠ s_) ∧ (s_ ≠ gb204) ∧ (gb214 ≠ s_) ∧ (s_ ≠ gb214) ∧ (gb218 ≠ s_) ∧ (s_ ≠ gb218) ∧ (Below w.heap.size w w')) ?_ ?_
                                     rotate_left
                                     · intro hCont
                                       refine two_ (i := 5) (j := 9) (Ni := some 160) (Nj := some 22) #[true, true, true, true, true, true, false, false, false, false, false, false] #[true, true, true, true, true, false, false, false, false, true, false, false] rfl rfl rfl rfl (two_of HT_.out (by kernel_rfl)) (by decide) (by decide) (fun K hK => ?_) (fun K hK => ?_)
                                       · skip
                                         refine goes_ Try.func40 (by kernel_rfl) rfl #[.agg #[.int .i64 t215, .int .i64 t216], .int .i64 (rd y208 x19_5), .int .i64 1] (by rfl) rfl rfl (by (try simp only [List.map_toArray, List.map_cons, List.map_nil]); first | done | rfl | (simp only [List.length_drop, List.length_take]; rfl)) ?_
                                         with_reducible refine (spec_TakeLeaven.calls t215 t216 (rd y208 x19_5) 1 t220 t221 t222 _ A93.out).mono ?_
                                         rintro e w110 ⟨rfl, hb⟩
                                         have HS2_ := (hb.cell (World.block_lt_of_cell? _ _ (hHeld.2.2))).trans (hHeld.2.2)
                                         refine ⟨_, rfl, ?_⟩
                                         have n0_ := Aside0.mk (Kd.R_below (by (with_reducible repeat (first | apply Kd.R_alloc | apply Kd.R_drewN | apply Kd.R_drew)); exact HO_14.out) hb)
                                         have n1_ := Aside0.mk (blk_below (g := gb188) (o := .cells #[.int .i64 t186, .int .i64 t187] 49 (0, 0)) (by (with_reducible repeat (first | refine blk_drewN ?_ _ | refine blk_drew ?_ | refine blk_alloc ?_ _)); exact BK188.out) hb)
                                         have n2_ := Aside0.mk (blk_below (g := gb193) (o := .cells #[.int .i64 t190, .int .i64 t191] 49 (0, 0)) (by (with_reducible repeat (first | refine blk_drewN ?_ _ | refine blk_drew ?_ | refine blk_alloc ?_ _)); exact BK193.out) hb)
                                         have n3_ := Aside0.mk (blk_below (g := gb196) (o := .cells #[.int .i64 x197000_2, .int .i64 x197001_2] 49 (0, 0)) (by (with_reducible repeat (first | refine blk_drewN ?_ _ | refine blk_drew ?_ | refine blk_alloc ?_ _)); exact BK196.out) hb)
                                         have n4_ := Aside0.mk (blk_below (g := gb204) (o := .cells #[.int .i64 t201, .int .i64 t202] 49 (0, 0)) (by (with_reducible repeat (first | refine blk_drewN ?_ _ | refine blk_drew ?_ | refine blk_alloc ?_ _)); exact BK204.out) hb)
                                         have n5_ := Aside0.mk (blk_below (g := gb214) (o := .cells #[.int .i64 x215000_5, .int .i64 x215001_5] 49 (0, 0)) (by (with_reducible repeat (first | refine blk_drewN ?_ _ | refine blk_drew ?_ | refine blk_alloc ?_ _)); exact BK214.out) hb)
                                         have n6_ := Aside0.mk (blk_below (g := gb218) (o := .cells #[.int .i64 t215, .int .i64 t216] 49 (0, 0)) (by (with_reducible repeat (first | refine blk_drewN ?_ _ | refine blk_drew ?_ | refine blk_alloc ?_ _)); exact BK218.out) hb)
                                         have n7_ := Aside0.mk (below_step (by repeat (first | (with_reducible first | exact HB.out | apply below_alloc | apply pw_below_drewN | apply below_drew1 | refine below_set ?_ GE188.out | refine below_set ?_ GE193.out | refine below_set ?_ GE196.out | refine below_set ?_ GE204.out | refine below_set ?_ GE214.out | refine below_set ?_ GE218.out) | exact HB.out)) hb)
                                         clear HO_14
                                         clear BK188
                                         clear BK193
                                         clear BK196
                                         clear BK204
                                         clear BK214
                                         clear BK218
                                         clear HB
                                         have HO_14 := n0_
                                         have BK188 := n1_
                                         have BK193 := n2_
                                         have BK196 := n3_
                                         have BK204 := n4_
                                         have BK214 := n5_
                                         have BK218 := n6_
                                         have HB := n7_
                                         clear n0_ n1_ n2_ n3_ n4_ n5_ n6_ n7_
                                         (try clear hb)
                                         (try clear hb2)
                                         (try clear hk)
                                         (try clear hi)
                                         refine hK.out _ _ ⟨(blk_cell BK218.out 0).trans rfl, (blk_cell BK218.out 1).trans rfl, HS2_⟩ (fun hHeld => ?_)
                                         clear hK K
                                         refine norm_ (a' := ?_) ?_ ?_
                                         rotate_left
                                         · show Act.put _ (some 160) _ = _
                                           simp only [Act.put, List.setIfInBounds_toArray, List.set_cons_zero, List.set_cons_succ, i64_w, i32_w]
                                           rfl
                                         refine pure_ (i := 6) (N := some 154) (v := ?_) (a' := ?_) #[true, true, true, true, true, true, true, false, false, false, false, false] rfl rfl (any_of HT_.out (by kernel_rfl)) (fun _ _ _ h => h) (Or.inl ⟨by rfl, ?_⟩) ?_ ?_
                                         rotate_left
                                         · intro w'
                                           go_simp
                                           with_reducible rfl
                                         rotate_left
                                         · simp only [Act.put, List.setIfInBounds_toArray, List.set_cons_zero, List.set_cons_succ, i64_w, i32_w]
                                           rfl
                                         refine pure_ (i := 7) (N := some 161) (v := ?_) (a' := ?_) #[true, true, true, true, true, true, true, true, false, false, false, false] rfl rfl (any_of HT_.out (by kernel_rfl)) (fun _ _ _ h => h) (Or.inl ⟨by rfl, ?_⟩) ?_ ?_
                                         rotate_left
                                         · intro w'
                                           go_simp
                                           with_reducible rfl
                                         rotate_left
                                         · simp only [Act.put, List.setIfInBounds_toArray, List.set_cons_zero, List.set_cons_succ, i64_w, i32_w]
                                           rfl
                                         refine pure_ (i := 8) (N := some 162) (v := ?_) (a' := ?_) #[true, true, true, true, true, true, true, true, true, false, false, false] rfl rfl (any_of HT_.out (by kernel_rfl)) (fun _ _ _ h => h) (Or.inl ⟨by rfl, ?_⟩) ?_ ?_
                                         rotate_left
                                         · intro w'
                                           go_simp
                                           with_reducible rfl
                                         rotate_left
                                         · simp only [Act.put, List.setIfInBounds_toArray, List.set_cons_zero, List.set_cons_succ, i64_w, i32_w]
                                           rfl
                                         refine one_ (i := 9) (N := some 22) #[true, true, true, true, true, true, true, true, true, true, false, false] rfl rfl (one_of HT_.out (by kernel_rfl)) (by decide) (fun K hK => ?_)
                                         refine box_step ?hg (N := 22) ?hd (cs := #[.int .i64 0, .int .i64 0]) (t := 49) ?hr ?_; (case hd => rfl); (case hg => rfl); (case hr => first | (go_simp; done) | (go_simp; rfl))
                                         intro gb223 hg w111 hbox hb
                                         have HS2_ := (hb.cell (World.block_lt_of_cell? _ _ (hHeld.2.2))).trans (hHeld.2.2)
                                         have n0_ := Aside0.mk (Kd.R_below (by (with_reducible repeat (first | apply Kd.R_alloc | apply Kd.R_drewN | apply Kd.R_drew)); exact HO_14.out) hb)
                                         have n1_ := Aside0.mk (blk_below (g := gb188) (o := .cells #[.int .i64 t186, .int .i64 t187] 49 (0, 0)) (by (with_reducible repeat (first | refine blk_drewN ?_ _ | refine blk_drew ?_ | refine blk_alloc ?_ _)); exact BK188.out) hb)
                                         have n2_ := Aside0.mk (blk_below (g := gb193) (o := .cells #[.int .i64 t190, .int .i64 t191] 49 (0, 0)) (by (with_reducible repeat (first | refine blk_drewN ?_ _ | refine blk_drew ?_ | refine blk_alloc ?_ _)); exact BK193.out) hb)
                                         have n3_ := Aside0.mk (blk_below (g := gb196) (o := .cells #[.int .i64 x197000_2, .int .i64 x197001_2] 49 (0, 0)) (by (with_reducible repeat (first | refine blk_drewN ?_ _ | refine blk_drew ?_ | refine blk_alloc ?_ _)); exact BK196.out) hb)
                                         have n4_ := Aside0.mk (blk_below (g := gb204) (o := .cells #[.int .i64 t201, .int .i64 t202] 49 (0, 0)) (by (with_reducible repeat (first | refine blk_drewN ?_ _ | refine blk_drew ?_ | refine blk_alloc ?_ _)); exact BK204.out) hb)
                                         have n5_ := Aside0.mk (blk_below (g := gb214) (o := .cells #[.int .i64 x215000_5, .int .i64 x215001_5] 49 (0, 0)) (by (with_reducible repeat (first | refine blk_drewN ?_ _ | refine blk_drew ?_ | refine blk_alloc ?_ _)); exact BK214.out) hb)
                                         have n6_ := Aside0.mk (blk_below (g := gb218) (o := .cells #[.int .i64 t215, .int .i64 t216] 49 (0, 0)) (by (with_reducible repeat (first | refine blk_drewN ?_ _ | refine blk_drew ?_ | refine blk_alloc ?_ _)); exact BK218.out) hb)
                                         have n7_ := Aside0.mk (below_step (by repeat (first | (with_reducible first | exact HB.out | apply below_alloc | apply pw_below_drewN | apply below_drew1 | refine below_set ?_ GE188.out | refine below_set ?_ GE193.out | refine below_set ?_ GE196.out | refine below_set ?_ GE204.out | refine below_set ?_ GE214.out | refine below_set ?_ GE218.out) | exact HB.out)) hb)
                                         have n8_ := Aside0.mk (hbox)
                                         have n9_ := Aside0.mk ((by rw [hg]; exact (below_size (by repeat (first | (with_reducible first | exact HB.out | apply below_alloc | apply pw_below_drewN | apply below_drew1 | refine below_set ?_ GE188.out | refine below_set ?_ GE193.out | refine below_set ?_ GE196.out | refine below_set ?_ GE204.out | refine below_set ?_ GE214.out | refine below_set ?_ GE218.out) | exact HB.out))) : w.heap.size ≤ gb223))
                                         have n10_ := Aside0.mk ((by rw [hg]; exact (below_size (by repeat (first | (with_reducible first | exact HB.out | apply below_alloc | apply pw_below_drewN | apply below_drew1 | refine below_set ?_ GE188.out | refine below_set ?_ GE193.out | refine below_set ?_ GE196.out | refine below_set ?_ GE204.out | refine below_set ?_ GE214.out | refine below_set ?_ GE218.out) | exact HB.out))) : w.heap.size ≤ gb223))
                                         have n11_ := Aside0.mk ((by rw [hg]; exact Nat.ne_of_lt (blk_lt (g := gb188) (o := .cells #[.int .i64 t186, .int .i64 t187] 49 (0, 0)) (by (with_reducible repeat (first | refine blk_drewN ?_ _ | refine blk_drew ?_ | refine blk_alloc ?_ _)); exact BK188.out)) : gb188 ≠ gb223))
                                         have n12_ := Aside0.mk ((by rw [hg]; exact Nat.ne_of_gt (blk_lt (g := gb188) (o := .cells #[.int .i64 t186, .int .i64 t187] 49 (0, 0)) (by (with_reducible repeat (first | refine blk_drewN ?_ _ | refine blk_drew ?_ | refine blk_alloc ?_ _)); exact BK188.out)) : gb223 ≠ gb188))
                                         have n13_ := Aside0.mk ((by rw [hg]; exact Nat.ne_of_lt (blk_lt (g := gb193) (o := .cells #[.int .i64 t190, .int .i64 t191] 49 (0, 0)) (by (with_reducible repeat (first | refine blk_drewN ?_ _ | refine blk_drew ?_ | refine blk_alloc ?_ _)); exact BK193.out)) : gb193 ≠ gb223))
                                         have n14_ := Aside0.mk ((by rw [hg]; exact Nat.ne_of_gt (blk_lt (g := gb193) (o := .cells #[.int .i64 t190, .int .i64 t191] 49 (0, 0)) (by (with_reducible repeat (first | refine blk_drewN ?_ _ | refine blk_drew ?_ | refine blk_alloc ?_ _)); exact BK193.out)) : gb223 ≠ gb193))
                                         have n15_ := Aside0.mk ((by rw [hg]; exact Nat.ne_of_lt (blk_lt (g := gb196) (o := .cells #[.int .i64 x197000_2, .int .i64 x197001_2] 49 (0, 0)) (by (with_reducible repeat (first | refine blk_drewN ?_ _ | refine blk_drew ?_ | refine blk_alloc ?_ _)); exact BK196.out)) : gb196 ≠ gb223))
                                         have n16_ := Aside0.mk ((by rw [hg]; exact Nat.ne_of_gt (blk_lt (g := gb196) (o := .cells #[.int .i64 x197000_2, .int .i64 x197001_2] 49 (0, 0)) (by (with_reducible repeat (first | refine blk_drewN ?_ _ | refine blk_drew ?_ | refine blk_alloc ?_ _)); exact BK196.out)) : gb223 ≠ gb196))
                                         have n17_ := Aside0.mk ((by rw [hg]; exact Nat.ne_of_lt (blk_lt (g := gb204) (o := .cells #[.int .i64 t201, .int .i64 t202] 49 (0, 0)) (by (with_reducible repeat (first | refine blk_drewN ?_ _ | refine blk_drew ?_ | refine blk_alloc ?_ _)); exact BK204.out)) : gb204 ≠ gb223))
                                         have n18_ := Aside0.mk ((by rw [hg]; exact Nat.ne_of_gt (blk_lt (g := gb204) (o := .cells #[.int .i64 t201, .int .i64 t202] 49 (0, 0)) (by (with_reducible repeat (first | refine blk_drewN ?_ _ | refine blk_drew ?_ | refine blk_alloc ?_ _)); exact BK204.out)) : gb223 ≠ gb204))
                                         have n19_ := Aside0.mk ((by rw [hg]; exact Nat.ne_of_lt (blk_lt (g := gb214) (o := .cells #[.int .i64 x215000_5, .int .i64 x215001_5] 49 (0, 0)) (by (with_reducible repeat (first | refine blk_drewN ?_ _ | refine blk_drew ?_ | refine blk_alloc ?_ _)); exact BK214.out)) : gb214 ≠ gb223))
                                         have n20_ := Aside0.mk ((by rw [hg]; exact Nat.ne_of_gt (blk_lt (g := gb214) (o := .cells #[.int .i64 x215000_5, .int .i64 x215001_5] 49 (0, 0)) (by (with_reducible repeat (first | refine blk_drewN ?_ _ | refine blk_drew ?_ | refine blk_alloc ?_ _)); exact BK214.out)) : gb223 ≠ gb214))
                                         have n21_ := Aside0.mk ((by rw [hg]; exact Nat.ne_of_lt (blk_lt (g := gb218) (o := .cells #[.int .i64 t215, .int .i64 t216] 49 (0, 0)) (by (with_reducible repeat (first | refine blk_drewN ?_ _ | refine blk_drew ?_ | refine blk_alloc ?_ _)); exact BK218.out)) : gb218 ≠ gb223))
                                         have n22_ := Aside0.mk ((by rw [hg]; exact Nat.ne_of_gt (blk_lt (g := gb218) (o := .cells #[.int .i64 t215, .int .i64 t216] 49 (0, 0)) (by (with_reducible repeat (first | refine blk_drewN ?_ _ | refine blk_drew ?_ | refine blk_alloc ?_ _)); exact BK218.out)) : gb223 ≠ gb218))
                                         clear HO_14
                                         clear BK188
                                         clear BK193
                                         clear BK196
                                         clear BK204
                                         clear BK214
                                         clear BK218
                                         clear HB
                                         have HO_14 := n0_
                                         have BK188 := n1_
                                         have BK193 := n2_
                                         have BK196 := n3_
                                         have BK204 := n4_
                                         have BK214 := n5_
                                         have BK218 := n6_
                                         have HB := n7_
                                         have BK223 := n8_
                                         have GW223 := n9_
                                         have GE223 := n10_
                                         have NB188_223 := n11_
                                         have NB223_188 := n12_
                                         have NB193_223 := n13_
                                         have NB223_193 := n14_
                                         have NB196_223 := n15_
                                         have NB223_196 := n16_
                                         have NB204_223 := n17_
                                         have NB223_204 := n18_
                                         have NB214_223 := n19_
                                         have NB223_214 := n20_
                                         have NB218_223 := n21_
                                         have NB223_218 := n22_
                                         clear n0_ n1_ n2_ n3_ n4_ n5_ n6_ n7_ n8_ n9_ n10_ n11_ n12_ n13_ n14_ n15_ n16_ n17_ n18_ n19_ n20_ n21_ n22_
                                         clear hb hbox hg
                                         refine hK.out _ _ ⟨(blk_cell BK218.out 0).trans rfl, (blk_cell BK218.out 1).trans rfl, HS2_⟩ (fun hHeld => ?_)
                                         clear hK K
                                         refine norm_ (a' := ?_) ?_ ?_
                                         rotate_left
                                         · show Act.put _ (some 22) _ = _
                                           simp only [Act.put, List.setIfInBounds_toArray, List.set_cons_zero, List.set_cons_succ, i64_w, i32_w]
                                           rfl
                                         exact norm_ (by simp only [putAll, Act.put, List.setIfInBounds_toArray, List.set_cons_zero, List.set_cons_succ]) (hCont (gb223) _ ⟨hHeld, (by (with_reducible repeat (first | apply Kd.R_alloc | apply Kd.R_drewN | apply Kd.R_drew)); exact HO_14.out), (by (with_reducible repeat (first | refine blk_drewN ?_ _ | refine blk_drew ?_ | refine blk_alloc ?_ _)); exact BK188.out), (by (with_reducible repeat (first | refine blk_drewN ?_ _ | refine blk_drew ?_ | refine blk_alloc ?_ _)); exact BK193.out), (by (with_reducible repeat (first | refine blk_drewN ?_ _ | refine blk_drew ?_ | refine blk_alloc ?_ _)); exact BK196.out), (by (with_reducible repeat (first | refine blk_drewN ?_ _ | refine blk_drew ?_ | refine blk_alloc ?_ _)); exact BK204.out), (by (with_reducible repeat (first | refine blk_drewN ?_ _ | refine blk_drew ?_ | refine blk_alloc ?_ _)); exact BK214.out), (by (with_reducible repeat (first | refine blk_drewN ?_ _ | refine blk_drew ?_ | refine blk_alloc ?_ _)); exact BK218.out), (by (with_reducible repeat (first | refine blk_drewN ?_ _ | refine blk_drew ?_ | refine blk_alloc ?_ _)); exact BK223.out), GW223.out, GE223.out, NB188_223.out, NB223_188.out, NB193_223.out, NB223_193.out, NB196_223.out, NB223_196.out, NB204_223.out, NB223_204.out, NB214_223.out, NB223_214.out, NB218_223.out, NB223_218.out, (by repeat (first | (with_reducible first | exact HB.out | apply below_alloc | apply pw_below_drewN | apply below_drew1 | refine below_set ?_ GE188.out | refine below_set ?_ GE193.out | refine below_set ?_ GE196.out | refine below_set ?_ GE204.out | refine below_set ?_ GE214.out | refine below_set ?_ GE218.out | refine below_set ?_ GE223.out) | exact HB.out))⟩)
                                       · skip
                                         refine box_step ?hg (N := 22) ?hd (cs := #[.int .i64 0, .int .i64 0]) (t := 49) ?hr ?_; (case hd => rfl); (case hg => rfl); (case hr => first | (go_simp; done) | (go_simp; rfl))
                                         intro gb223 hg w110 hbox hb
                                         have HS2_ := (hb.cell (World.block_lt_of_cell? _ _ (hHeld.2.2))).trans (hHeld.2.2)
                                         have n0_ := Aside0.mk (Kd.R_below (by (with_reducible repeat (first | apply Kd.R_alloc | apply Kd.R_drewN | apply Kd.R_drew)); exact HO_14.out) hb)
                                         have n1_ := Aside0.mk (blk_below (g := gb188) (o := .cells #[.int .i64 t186, .int .i64 t187] 49 (0, 0)) (by (with_reducible repeat (first | refine blk_drewN ?_ _ | refine blk_drew ?_ | refine blk_alloc ?_ _)); exact BK188.out) hb)
                                         have n2_ := Aside0.mk (blk_below (g := gb193) (o := .cells #[.int .i64 t190, .int .i64 t191] 49 (0, 0)) (by (with_reducible repeat (first | refine blk_drewN ?_ _ | refine blk_drew ?_ | refine blk_alloc ?_ _)); exact BK193.out) hb)
                                         have n3_ := Aside0.mk (blk_below (g := gb196) (o := .cells #[.int .i64 x197000_2, .int .i64 x197001_2] 49 (0, 0)) (by (with_reducible repeat (first | refine blk_drewN ?_ _ | refine blk_drew ?_ | refine blk_alloc ?_ _)); exact BK196.out) hb)
                                         have n4_ := Aside0.mk (blk_below (g := gb204) (o := .cells #[.int .i64 t201, .int .i64 t202] 49 (0, 0)) (by (with_reducible repeat (first | refine blk_drewN ?_ _ | refine blk_drew ?_ | refine blk_alloc ?_ _)); exact BK204.out) hb)
                                         have n5_ := Aside0.mk (blk_below (g := gb214) (o := .cells #[.int .i64 x215000_5, .int .i64 x215001_5] 49 (0, 0)) (by (with_reducible repeat (first | refine blk_drewN ?_ _ | refine blk_drew ?_ | refine blk_alloc ?_ _)); exact BK214.out) hb)
                                         have n6_ := Aside0.mk (blk_below (g := gb218) (o := .cells #[.int .i64 t215, .int .i64 t216] 49 (0, 0)) (by (with_reducible repeat (first | refine blk_drewN ?_ _ | refine blk_drew ?_ | refine blk_alloc ?_ _)); exact BK218.out) hb)
                                         have n7_ := Aside0.mk (below_step (by repeat (first | (with_reducible first | exact HB.out | apply below_alloc | apply pw_below_drewN | apply below_drew1 | refine below_set ?_ GE188.out | refine below_set ?_ GE193.out | refine below_set ?_ GE196.out | refine below_set ?_ GE204.out | refine below_set ?_ GE214.out | refine below_set ?_ GE218.out) | exact HB.out)) hb)
                                         have n8_ := Aside0.mk (hbox)
                                         have n9_ := Aside0.mk ((by rw [hg]; exact (below_size (by repeat (first | (with_reducible first | exact HB.out | apply below_alloc | apply pw_below_drewN | apply below_drew1 | refine below_set ?_ GE188.out | refine below_set ?_ GE193.out | refine below_set ?_ GE196.out | refine below_set ?_ GE204.out | refine below_set ?_ GE214.out | refine below_set ?_ GE218.out) | exact HB.out))) : w.heap.size ≤ gb223))
                                         have n10_ := Aside0.mk ((by rw [hg]; exact (below_size (by repeat (first | (with_reducible first | exact HB.out | apply below_alloc | apply pw_below_drewN | apply below_drew1 | refine below_set ?_ GE188.out | refine below_set ?_ GE193.out | refine below_set ?_ GE196.out | refine below_set ?_ GE204.out | refine below_set ?_ GE214.out | refine below_set ?_ GE218.out) | exact HB.out))) : w.heap.size ≤ gb223))
                                         have n11_ := Aside0.mk ((by rw [hg]; exact Nat.ne_of_lt (blk_lt (g := gb188) (o := .cells #[.int .i64 t186, .int .i64 t187] 49 (0, 0)) (by (with_reducible repeat (first | refine blk_drewN ?_ _ | refine blk_drew ?_ | refine blk_alloc ?_ _)); exact BK188.out)) : gb188 ≠ gb223))
                                         have n12_ := Aside0.mk ((by rw [hg]; exact Nat.ne_of_gt (blk_lt (g := gb188) (o := .cells #[.int .i64 t186, .int .i64 t187] 49 (0, 0)) (by (with_reducible repeat (first | refine blk_drewN ?_ _ | refine blk_drew ?_ | refine blk_alloc ?_ _)); exact BK188.out)) : gb223 ≠ gb188))
                                         have n13_ := Aside0.mk ((by rw [hg]; exact Nat.ne_of_lt (blk_lt (g := gb193) (o := .cells #[.int .i64 t190, .int .i64 t191] 49 (0, 0)) (by (with_reducible repeat (first | refine blk_drewN ?_ _ | refine blk_drew ?_ | refine blk_alloc ?_ _)); exact BK193.out)) : gb193 ≠ gb223))
                                         have n14_ := Aside0.mk ((by rw [hg]; exact Nat.ne_of_gt (blk_lt (g := gb193) (o := .cells #[.int .i64 t190, .int .i64 t191] 49 (0, 0)) (by (with_reducible repeat (first | refine blk_drewN ?_ _ | refine blk_drew ?_ | refine blk_alloc ?_ _)); exact BK193.out)) : gb223 ≠ gb193))
                                         have n15_ := Aside0.mk ((by rw [hg]; exact Nat.ne_of_lt (blk_lt (g := gb196) (o := .cells #[.int .i64 x197000_2, .int .i64 x197001_2] 49 (0, 0)) (by (with_reducible repeat (first | refine blk_drewN ?_ _ | refine blk_drew ?_ | refine blk_alloc ?_ _)); exact BK196.out)) : gb196 ≠ gb223))
                                         have n16_ := Aside0.mk ((by rw [hg]; exact Nat.ne_of_gt (blk_lt (g := gb196) (o := .cells #[.int .i64 x197000_2, .int .i64 x197001_2] 49 (0, 0)) (by (with_reducible repeat (first | refine blk_drewN ?_ _ | refine blk_drew ?_ | refine blk_alloc ?_ _)); exact BK196.out)) : gb223 ≠ gb196))
                                         have n17_ := Aside0.mk ((by rw [hg]; exact Nat.ne_of_lt (blk_lt (g := gb204) (o := .cells #[.int .i64 t201, .int .i64 t202] 49 (0, 0)) (by (with_reducible repeat (first | refine blk_drewN ?_ _ | refine blk_drew ?_ | refine blk_alloc ?_ _)); exact BK204.out)) : gb204 ≠ gb223))
                                         have n18_ := Aside0.mk ((by rw [hg]; exact Nat.ne_of_gt (blk_lt (g := gb204) (o := .cells #[.int .i64 t201, .int .i64 t202] 49 (0, 0)) (by (with_reducible repeat (first | refine blk_drewN ?_ _ | refine blk_drew ?_ | refine blk_alloc ?_ _)); exact BK204.out)) : gb223 ≠ gb204))
                                         have n19_ := Aside0.mk ((by rw [hg]; exact Nat.ne_of_lt (blk_lt (g := gb214) (o := .cells #[.int .i64 x215000_5, .int .i64 x215001_5] 49 (0, 0)) (by (with_reducible repeat (first | refine blk_drewN ?_ _ | refine blk_drew ?_ | refine blk_alloc ?_ _)); exact BK214.out)) : gb214 ≠ gb223))
                                         have n20_ := Aside0.mk ((by rw [hg]; exact Nat.ne_of_gt (blk_lt (g := gb214) (o := .cells #[.int .i64 x215000_5, .int .i64 x215001_5] 49 (0, 0)) (by (with_reducible repeat (first | refine blk_drewN ?_ _ | refine blk_drew ?_ | refine blk_alloc ?_ _)); exact BK214.out)) : gb223 ≠ gb214))
                                         have n21_ := Aside0.mk ((by rw [hg]; exact Nat.ne_of_lt (blk_lt (g := gb218) (o := .cells #[.int .i64 t215, .int .i64 t216] 49 (0, 0)) (by (with_reducible repeat (first | refine blk_drewN ?_ _ | refine blk_drew ?_ | refine blk_alloc ?_ _)); exact BK218.out)) : gb218 ≠ gb223))
                                         have n22_ := Aside0.mk ((by rw [hg]; exact Nat.ne_of_gt (blk_lt (g := gb218) (o := .cells #[.int .i64 t215, .int .i64 t216] 49 (0, 0)) (by (with_reducible repeat (first | refine blk_drewN ?_ _ | refine blk_drew ?_ | refine blk_alloc ?_ _)); exact BK218.out)) : gb223 ≠ gb218))
                                         clear HO_14
                                         clear BK188
                                         clear BK193
                                         clear BK196
                                         clear BK204
                                         clear BK214
                                         clear BK218
                                         clear HB
                                         have HO_14 := n0_
                                         have BK188 := n1_
                                         have BK193 := n2_
                                         have BK196 := n3_
                                         have BK204 := n4_
                                         have BK214 := n5_
                                         have BK218 := n6_
                                         have HB := n7_
                                         have BK223 := n8_
                                         have GW223 := n9_
                                         have GE223 := n10_
                                         have NB188_223 := n11_
                                         have NB223_188 := n12_
                                         have NB193_223 := n13_
                                         have NB223_193 := n14_
                                         have NB196_223 := n15_
                                         have NB223_196 := n16_
                                         have NB204_223 := n17_
                                         have NB223_204 := n18_
                                         have NB214_223 := n19_
                                         have NB223_214 := n20_
                                         have NB218_223 := n21_
                                         have NB223_218 := n22_
                                         clear n0_ n1_ n2_ n3_ n4_ n5_ n6_ n7_ n8_ n9_ n10_ n11_ n12_ n13_ n14_ n15_ n16_ n17_ n18_ n19_ n20_ n21_ n22_
                                         clear hb hbox hg
                                         refine hK.out _ _ ⟨(blk_cell BK218.out 0).trans rfl, (blk_cell BK218.out 1).trans rfl, HS2_⟩ (fun hHeld => ?_)
                                         clear hK K
                                         refine norm_ (a' := ?_) ?_ ?_
                                         rotate_left
                                         · show Act.put _ (some 22) _ = _
                                           simp only [Act.put, List.setIfInBounds_toArray, List.set_cons_zero, List.set_cons_succ, i64_w, i32_w]
                                           rfl
                                         refine one_ (i := 5) (N := some 160) #[true, true, true, true, true, true, false, false, false, true, false, false] rfl rfl (one_of HT_.out (by kernel_rfl)) (by decide) (fun K hK => ?_)
                                         refine goes_ Try.func40 (by kernel_rfl) rfl #[.agg #[.int .i64 t215, .int .i64 t216], .int .i64 (rd y208 x19_5), .int .i64 1] (by rfl) rfl rfl (by (try simp only [List.map_toArray, List.map_cons, List.map_nil]); first | done | rfl | (simp only [List.length_drop, List.length_take]; rfl)) ?_
                                         with_reducible refine (spec_TakeLeaven.calls t215 t216 (rd y208 x19_5) 1 t220 t221 t222 _ A93.out).mono ?_
                                         rintro e w111 ⟨rfl, hb⟩
                                         have HS2_ := (hb.cell (World.block_lt_of_cell? _ _ (hHeld.2.2))).trans (hHeld.2.2)
                                         refine ⟨_, rfl, ?_⟩
                                         have n0_ := Aside0.mk (Kd.R_below (by (with_reducible repeat (first | apply Kd.R_alloc | apply Kd.R_drewN | apply Kd.R_drew)); exact HO_14.out) hb)
                                         have n1_ := Aside0.mk (blk_below (g := gb188) (o := .cells #[.int .i64 t186, .int .i64 t187] 49 (0, 0)) (by (with_reducible repeat (first | refine blk_drewN ?_ _ | refine blk_drew ?_ | refine blk_alloc ?_ _)); exact BK188.out) hb)
                                         have n2_ := Aside0.mk (blk_below (g := gb193) (o := .cells #[.int .i64 t190, .int .i64 t191] 49 (0, 0)) (by (with_reducible repeat (first | refine blk_drewN ?_ _ | refine blk_drew ?_ | refine blk_alloc ?_ _)); exact BK193.out) hb)
                                         have n3_ := Aside0.mk (blk_below (g := gb196) (o := .cells #[.int .i64 x197000_2, .int .i64 x197001_2] 49 (0, 0)) (by (with_reducible repeat (first | refine blk_drewN ?_ _ | refine blk_drew ?_ | refine blk_alloc ?_ _)); exact BK196.out) hb)
                                         have n4_ := Aside0.mk (blk_below (g := gb204) (o := .cells #[.int .i64 t201, .int .i64 t202] 49 (0, 0)) (by (with_reducible repeat (first | refine blk_drewN ?_ _ | refine blk_drew ?_ | refine blk_alloc ?_ _)); exact BK204.out) hb)
                                         have n5_ := Aside0.mk (blk_below (g := gb214) (o := .cells #[.int .i64 x215000_5, .int .i64 x215001_5] 49 (0, 0)) (by (with_reducible repeat (first | refine blk_drewN ?_ _ | refine blk_drew ?_ | refine blk_alloc ?_ _)); exact BK214.out) hb)
                                         have n6_ := Aside0.mk (blk_below (g := gb218) (o := .cells #[.int .i64 t215, .int .i64 t216] 49 (0, 0)) (by (with_reducible repeat (first | refine blk_drewN ?_ _ | refine blk_drew ?_ | refine blk_alloc ?_ _)); exact BK218.out) hb)
                                         have n7_ := Aside0.mk (blk_below (g := gb223) (o := .cells #[.int .i64 0, .int .i64 0] 49 (0, 0)) (by (with_reducible repeat (first | refine blk_drewN ?_ _ | refine blk_drew ?_ | refine blk_alloc ?_ _)); exact BK223.out) hb)
                                         have n8_ := Aside0.mk (below_step (by repeat (first | (with_reducible first | exact HB.out | apply below_alloc | apply pw_below_drewN | apply below_drew1 | refine below_set ?_ GE188.out | refine below_set ?_ GE193.out | refine below_set ?_ GE196.out | refine below_set ?_ GE204.out | refine below_set ?_ GE214.out | refine below_set ?_ GE218.out | refine below_set ?_ GE223.out) | exact HB.out)) hb)
                                         clear HO_14
                                         clear BK188
                                         clear BK193
                                         clear BK196
                                         clear BK204
                                         clear BK214
                                         clear BK218
                                         clear BK223
                                         clear HB
                                         have HO_14 := n0_
                                         have BK188 := n1_
                                         have BK193 := n2_
                                         have BK196 := n3_
                                         have BK204 := n4_
                                         have BK214 := n5_
                                         have BK218 := n6_
                                         have BK223 := n7_
                                         have HB := n8_
                                         clear n0_ n1_ n2_ n3_ n4_ n5_ n6_ n7_ n8_
                                         (try clear hb)
                                         (try clear hb2)
                                         (try clear hk)
                                         (try clear hi)
                                         refine hK.out _ _ ⟨(blk_cell BK218.out 0).trans rfl, (blk_cell BK218.out 1).trans rfl, HS2_⟩ (fun hHeld => ?_)
                                         clear hK K
                                         refine norm_ (a' := ?_) ?_ ?_
                                         rotate_left
                                         · show Act.put _ (some 160) _ = _
                                           simp only [Act.put, List.setIfInBounds_toArray, List.set_cons_zero, List.set_cons_succ, i64_w, i32_w]
                                           rfl
                                         refine pure_ (i := 6) (N := some 154) (v := ?_) (a' := ?_) #[true, true, true, true, true, true, true, false, false, true, false, false] rfl rfl (any_of HT_.out (by kernel_rfl)) (fun _ _ _ h => h) (Or.inl ⟨by rfl, ?_⟩) ?_ ?_
                                         rotate_left
                                         · intro w'
                                           go_simp
                                           with_reducible rfl
                                         rotate_left
                                         · simp only [Act.put, List.setIfInBounds_toArray, List.set_cons_zero, List.set_cons_succ, i64_w, i32_w]
                                           rfl
                                         refine pure_ (i := 7) (N := some 161) (v := ?_) (a' := ?_) #[true, true, true, true, true, true, true, true, false, true, false, false] rfl rfl (any_of HT_.out (by kernel_rfl)) (fun _ _ _ h => h) (Or.inl ⟨by rfl, ?_⟩) ?_ ?_
                                         rotate_left
                                         · intro w'
                                           go_simp
                                           with_reducible rfl
                                         rotate_left
                                         · simp only [Act.put, List.setIfInBounds_toArray, List.set_cons_zero, List.set_cons_succ, i64_w, i32_w]
                                           rfl
                                         refine pure_ (i := 8) (N := some 162) (v := ?_) (a' := ?_) #[true, true, true, true, true, true, true, true, true, true, false, false] rfl rfl (any_of HT_.out (by kernel_rfl)) (fun _ _ _ h => h) (Or.inl ⟨by rfl, ?_⟩) ?_ ?_
                                         rotate_left
                                         · intro w'
                                           go_simp
                                           with_reducible rfl
                                         rotate_left
                                         · simp only [Act.put, List.setIfInBounds_toArray, List.set_cons_zero, List.set_cons_succ, i64_w, i32_w]
                                           rfl
                                         exact norm_ (by simp only [putAll, Act.put, List.setIfInBounds_toArray, List.set_cons_zero, List.set_cons_succ]) (hCont (gb223) _ ⟨hHeld, (by (with_reducible repeat (first | apply Kd.R_alloc | apply Kd.R_drewN | apply Kd.R_drew)); exact HO_14.out), (by (with_reducible repeat (first | refine blk_drewN ?_ _ | refine blk_drew ?_ | refine blk_alloc ?_ _)); exact BK188.out), (by (with_reducible repeat (first | refine blk_drewN ?_ _ | refine blk_drew ?_ | refine blk_alloc ?_ _)); exact BK193.out), (by (with_reducible repeat (first | refine blk_drewN ?_ _ | refine blk_drew ?_ | refine blk_alloc ?_ _)); exact BK196.out), (by (with_reducible repeat (first | refine blk_drewN ?_ _ | refine blk_drew ?_ | refine blk_alloc ?_ _)); exact BK204.out), (by (with_reducible repeat (first | refine blk_drewN ?_ _ | refine blk_drew ?_ | refine blk_alloc ?_ _)); exact BK214.out), (by (with_reducible repeat (first | refine blk_drewN ?_ _ | refine blk_drew ?_ | refine blk_alloc ?_ _)); exact BK218.out), (by (with_reducible repeat (first | refine blk_drewN ?_ _ | refine blk_drew ?_ | refine blk_alloc ?_ _)); exact BK223.out), GW223.out, GE223.out, NB188_223.out, NB223_188.out, NB193_223.out, NB223_193.out, NB196_223.out, NB223_196.out, NB204_223.out, NB223_204.out, NB214_223.out, NB223_214.out, NB218_223.out, NB223_218.out, (by repeat (first | (with_reducible first | exact HB.out | apply below_alloc | apply pw_below_drewN | apply below_drew1 | refine below_set ?_ GE188.out | refine below_set ?_ GE193.out | refine below_set ?_ GE196.out | refine below_set ?_ GE204.out | refine below_set ?_ GE214.out | refine below_set ?_ GE218.out | refine below_set ?_ GE223.out) | exact HB.out))⟩)
                                     rintro gb223 w112 ⟨hS_, h0_, h1_, h2_, h3_, h4_, h5_, h6_, h7_, h8_, h9_, h10_, h11_, h12_, h13_, h14_, h15_, h16_, h17_, h18_, h19_, h20_, h21_, h22_⟩
                                     have n0_ : Aside0 (Kd.R (Kd.int .i64) 3 w112 w.heap.size (fun _ => True) (.slice (some ad219) y208.length co78) y208) := ⟨h0_⟩
                                     have n1_ : Aside0 (w112.heap[gb188]? = some (.cells #[.int .i64 t186, .int .i64 t187] 49 (0, 0))) := ⟨h1_⟩
                                     have n2_ : Aside0 (w112.heap[gb193]? = some (.cells #[.int .i64 t190, .int .i64 t191] 49 (0, 0))) := ⟨h2_⟩
                                     have n3_ : Aside0 (w112.heap[gb196]? = some (.cells #[.int .i64 x197000_2, .int .i64 x197001_2] 49 (0, 0))) := ⟨h3_⟩
                                     have n4_ : Aside0 (w112.heap[gb204]? = some (.cells #[.int .i64 t201, .int .i64 t202] 49 (0, 0))) := ⟨h4_⟩
                                     have n5_ : Aside0 (w112.heap[gb214]? = some (.cells #[.int .i64 x215000_5, .int .i64 x215001_5] 49 (0, 0))) := ⟨h5_⟩
                                     have n6_ : Aside0 (w112.heap[gb218]? = some (.cells #[.int .i64 t215, .int .i64 t216] 49 (0, 0))) := ⟨h6_⟩
                                     have n7_ : Aside0 (w112.heap[gb223]? = some (.cells #[.int .i64 0, .int .i64 0] 49 (0, 0))) := ⟨h7_⟩
                                     have n8_ : Aside0 (w.heap.size ≤ gb223) := ⟨h8_⟩
                                     have n9_ : Aside0 (w.heap.size ≤ gb223) := ⟨h9_⟩
                                     have n10_ : Aside0 (gb188 ≠ gb223) := ⟨h10_⟩
                                     have n11_ : Aside0 (gb223 ≠ gb188) := ⟨h11_⟩
                                     have n12_ : Aside0 (gb193 ≠ gb223) := ⟨h12_⟩
                                     have n13_ : Aside0 (gb223 ≠ gb193) := ⟨h13_⟩
                                     have n14_ : Aside0 (gb196 ≠ gb223) := ⟨h14_⟩
                                     have n15_ : Aside0 (gb223 ≠ gb196) := ⟨h15_⟩
                                     have n16_ : Aside0 (gb204 ≠ gb223) := ⟨h16_⟩
                                     have n17_ : Aside0 (gb223 ≠ gb204) := ⟨h17_⟩
                                     have n18_ : Aside0 (gb214 ≠ gb223) := ⟨h18_⟩
                                     have n19_ : Aside0 (gb223 ≠ gb214) := ⟨h19_⟩
                                     have n20_ : Aside0 (gb218 ≠ gb223) := ⟨h20_⟩
                                     have n21_ : Aside0 (gb223 ≠ gb218) := ⟨h21_⟩
                                     have n22_ : Aside0 (Below w.heap.size w w112) := ⟨h22_⟩
                                     clear HO_14
                                     clear BK188
                                     clear BK193
                                     clear BK196
                                     clear BK204
                                     clear BK214
                                     clear BK218
                                     clear HB
                                     clear h0_ h1_ h2_ h3_ h4_ h5_ h6_ h7_ h8_ h9_ h10_ h11_ h12_ h13_ h14_ h15_ h16_ h17_ h18_ h19_ h20_ h21_ h22_
                                     have HO_14 := n0_
                                     have BK188 := n1_
                                     have BK193 := n2_
                                     have BK196 := n3_
                                     have BK204 := n4_
                                     have BK214 := n5_
                                     have BK218 := n6_
                                     have BK223 := n7_
                                     have GW223 := n8_
                                     have GE223 := n9_
                                     have NB188_223 := n10_
                                     have NB223_188 := n11_
                                     have NB193_223 := n12_
                                     have NB223_193 := n13_
                                     have NB196_223 := n14_
                                     have NB223_196 := n15_
                                     have NB204_223 := n16_
                                     have NB223_204 := n17_
                                     have NB214_223 := n18_
                                     have NB223_214 := n19_
                                     have NB218_223 := n20_
                                     have NB223_218 := n21_
                                     have HB := n22_
                                     clear n0_ n1_ n2_ n3_ n4_ n5_ n6_ n7_ n8_ n9_ n10_ n11_ n12_ n13_ n14_ n15_ n16_ n17_ n18_ n19_ n20_ n21_ n22_
                                     have hHeld : w112.cell? ⟨gb218, 0, none⟩ = some (.int .i64 t215) ∧ w112.cell? ⟨gb218, 1, none⟩ = some (.int .i64 t216) ∧ w112.cell? (ad219.add (x19_5).toNat) = some (.int .i64 (rd y208 x19_5)) := hS_
                                     refine norm_ (a' := ?_) ?_ ?_
                                     rotate_left
                                     · simp only [putAll, Act.put, List.setIfInBounds_toArray, List.set_cons_zero, List.set_cons_succ]
                                       rfl
                                     refine one_ (i := 10) (N := none) #[true, true, true, true, true, true, true, true, true, true, true, false] rfl rfl (one_of HT_.out (by kernel_rfl)) (by decide) (fun K hK => ?_)
                                     have hs113 : w112.cell? ⟨gb223, 0, none⟩ = some (.int .i64 0) := (blk_cell BK223.out 0).trans rfl
                                     have hfs113 := blk_frozen BK223.out 0
                                     have hns113_0 := NB188_223.out
                                     have hns113_1 := NB193_223.out
                                     have hns113_2 := NB196_223.out
                                     have hns113_3 := NB204_223.out
                                     have hns113_4 := NB214_223.out
                                     have hns113_5 := NB218_223.out
                                     have hms113_0 := NB223_188.out
                                     have hms113_1 := NB223_193.out
                                     have hms113_2 := NB223_196.out
                                     have hms113_3 := NB223_204.out
                                     have hms113_4 := NB223_214.out
                                     have hms113_5 := NB223_218.out
                                     have hs114 : w112.cell? ⟨gb223, 1, none⟩ = some (.int .i64 0) := (blk_cell BK223.out 1).trans rfl
                                     have hfs114 := blk_frozen BK223.out 1
                                     have hns114_0 := NB188_223.out
                                     have hns114_1 := NB193_223.out
                                     have hns114_2 := NB196_223.out
                                     have hns114_3 := NB204_223.out
                                     have hns114_4 := NB214_223.out
                                     have hns114_5 := NB218_223.out
                                     have hms114_0 := NB223_188.out
                                     have hms114_1 := NB223_193.out
                                     have hms114_2 := NB223_196.out
                                     have hms114_3 := NB223_204.out
                                     have hms114_4 := NB223_214.out
                                     have hms114_5 := NB223_218.out
                                     refine skip_ (w1 := ?_) (by rfl) rfl ?_ ?_
                                     rotate_left
                                     · go_simp
                                       rfl
                                     refine hK.out _ _ ⟨((cell_far (p := ⟨gb223, _, none⟩) NB218_223.out _).trans (((cell_far (p := ⟨gb223, _, none⟩) NB218_223.out _).trans (hHeld.1)))), ((cell_far (p := ⟨gb223, _, none⟩) NB218_223.out _).trans (((cell_far (p := ⟨gb223, _, none⟩) NB218_223.out _).trans (hHeld.2.1)))), ((cell_far (p := ⟨gb223, _, none⟩) (by first | exact Kd.own_blk (Kd.R_ne HO_14.out BK223.out (by decide)) | (rw [add_block]; exact Kd.own_blk (Kd.R_ne HO_14.out BK223.out (by decide))) | (show (Addr.add _ _).block ≠ _; rw [add_block]; exact Kd.own_blk (Kd.R_ne HO_14.out BK223.out (by decide))) | (dsimp only; exact Kd.own_blk (Kd.R_ne HO_14.out BK223.out (by decide)))) _).trans (((cell_far (p := ⟨gb223, _, none⟩) (by first | exact Kd.own_blk (Kd.R_ne HO_14.out BK223.out (by decide)) | (rw [add_block]; exact Kd.own_blk (Kd.R_ne HO_14.out BK223.out (by decide))) | (show (Addr.add _ _).block ≠ _; rw [add_block]; exact Kd.own_blk (Kd.R_ne HO_14.out BK223.out (by decide))) | (dsimp only; exact Kd.own_blk (Kd.R_ne HO_14.out BK223.out (by decide)))) _).trans (hHeld.2.2))))⟩ (fun hHeld => ?_)
                                     clear hK K
                                     refine pure_ (i := 11) (N := some 23) (v := ?_) (a' := ?_) #[true, true, true, true, true, true, true, true, true, true, true, true] rfl rfl (any_of HT_.out (by kernel_rfl)) (fun _ _ _ h => h) (Or.inl ⟨by rfl, ?_⟩) ?_ ?_
                                     rotate_left
                                     · intro w'
                                       go_simp
                                       with_reducible rfl
                                     rotate_left
                                     · simp only [Act.put, List.setIfInBounds_toArray, List.set_cons_zero, List.set_cons_succ, i64_w, i32_w]
                                       rfl
                                     refine done_ (done_of HT_.out (by kernel_rfl)) ?_
                                     have hnb115 := NB223_188.out
                                     have hnc115 := NB188_223.out
                                     have hnb116 := NB223_193.out
                                     have hnc116 := NB193_223.out
                                     have hnb117 := NB223_196.out
                                     have hnc117 := NB196_223.out
                                     have hnb118 := NB223_204.out
                                     have hnc118 := NB204_223.out
                                     have hnb119 := NB223_214.out
                                     have hnc119 := NB214_223.out
                                     have hnb120 := NB223_218.out
                                     have hnc120 := NB218_223.out
                                     have hcz121_0 : w112.cell? ⟨gb223, 0, none⟩ = some (.int .i64 0) := (blk_cell BK223.out 0).trans rfl
                                     have hcz121_1 : w112.cell? ⟨gb223, 1, none⟩ = some (.int .i64 0) := (blk_cell BK223.out 1).trans rfl
                                     have hfz121_0 := blk_frozen BK223.out 0
                                     have hfz121_1 := blk_frozen BK223.out 1
                                     have hcz122_0 : w112.cell? ⟨gb214, 0, none⟩ = some (.int .i64 x215000_5) := (blk_cell BK214.out 0).trans rfl
                                     have hcz122_1 : w112.cell? ⟨gb214, 1, none⟩ = some (.int .i64 x215001_5) := (blk_cell BK214.out 1).trans rfl
                                     have hfz122_0 := blk_frozen BK214.out 0
                                     have hfz122_1 := blk_frozen BK214.out 1
                                     try go_wp2
                                     go_roundg kj86
                                     case measure => have := HJ8.out; have := HK2.out; have := HJ43.out; have := HK4.out; have := HK5.out; have := HJ86.out; omega
                                     case rel => exact ⟨(t222), (wrap64 (x19_5 + 1)), (t220), (t221), (by first | rfl | (simp; done) | (simp [*]; done)), (by first | rfl | (simp; done) | (simp [*]; done)), H', ⟨by have := HJ8.out; have := HK2.out; have := HJ43.out; have := HK4.out; have := HK5.out; have := HJ86.out; omega⟩, ⟨by (with_reducible repeat (first | apply Kd.R_alloc | apply Kd.R_drewN | apply Kd.R_drew)); exact Kd.R_mono (Kd.R_far (p := ⟨gb214, 1, none⟩) (Kd.R_far (p := ⟨gb214, 0, none⟩) (Kd.R_far (p := ⟨gb223, 1, none⟩) (Kd.R_far (p := ⟨gb223, 0, none⟩) (Kd.R_types (Kd.R_types HO_14.out BK223.out (by decide)) BK214.out (by decide)) (fun _ hk => hk.1.2) (.int .i64 t220)) (fun _ hk => hk.1.2) (.int .i64 t221)) (fun _ hk => hk.2) (.int .i64 t220)) (fun _ hk => hk.2) (.int .i64 t221)) (fun _ hk => trivial)⟩, ⟨by (with_reducible repeat (first | refine blk_drewN ?_ _ | refine blk_drew ?_ | refine blk_alloc ?_ _)); refine blk_far ?_ NB188_214.out _; (with_reducible repeat (first | refine blk_drewN ?_ _ | refine blk_drew ?_ | refine blk_alloc ?_ _)); refine blk_far ?_ NB188_214.out _; (with_reducible repeat (first | refine blk_drewN ?_ _ | refine blk_drew ?_ | refine blk_alloc ?_ _)); refine blk_far ?_ NB188_223.out _; (with_reducible repeat (first | refine blk_drewN ?_ _ | refine blk_drew ?_ | refine blk_alloc ?_ _)); refine blk_far ?_ NB188_223.out _; (with_reducible repeat (first | refine blk_drewN ?_ _ | refine blk_drew ?_ | refine blk_alloc ?_ _)); exact BK188.out⟩, ⟨by (with_reducible repeat (first | refine blk_drewN ?_ _ | refine blk_drew ?_ | refine blk_alloc ?_ _)); refine blk_far ?_ NB193_214.out _; (with_reducible repeat (first | refine blk_drewN ?_ _ | refine blk_drew ?_ | refine blk_alloc ?_ _)); refine blk_far ?_ NB193_214.out _; (with_reducible repeat (first | refine blk_drewN ?_ _ | refine blk_drew ?_ | refine blk_alloc ?_ _)); refine blk_far ?_ NB193_223.out _; (with_reducible repeat (first | refine blk_drewN ?_ _ | refine blk_drew ?_ | refine blk_alloc ?_ _)); refine blk_far ?_ NB193_223.out _; (with_reducible repeat (first | refine blk_drewN ?_ _ | refine blk_drew ?_ | refine blk_alloc ?_ _)); exact BK193.out⟩, ⟨by (with_reducible repeat (first | refine blk_drewN ?_ _ | refine blk_drew ?_ | refine blk_alloc ?_ _)); refine blk_far ?_ NB196_214.out _; (with_reducible repeat (first | refine blk_drewN ?_ _ | refine blk_drew ?_ | refine blk_alloc ?_ _)); refine blk_far ?_ NB196_214.out _; (with_reducible repeat (first | refine blk_drewN ?_ _ | refine blk_drew ?_ | refine blk_alloc ?_ _)); refine blk_far ?_ NB196_223.out _; (with_reducible repeat (first | refine blk_drewN ?_ _ | refine blk_drew ?_ | refine blk_alloc ?_ _)); refine blk_far ?_ NB196_223.out _; (with_reducible repeat (first | refine blk_drewN ?_ _ | refine blk_drew ?_ | refine blk_alloc ?_ _)); exact BK196.out⟩, ⟨by (with_reducible repeat (first | refine blk_drewN ?_ _ | refine blk_drew ?_ | refine blk_alloc ?_ _)); refine blk_far ?_ NB204_214.out _; (with_reducible repeat (first | refine blk_drewN ?_ _ | refine blk_drew ?_ | refine blk_alloc ?_ _)); refine blk_far ?_ NB204_214.out _; (with_reducible repeat (first | refine blk_drewN ?_ _ | refine blk_drew ?_ | refine blk_alloc ?_ _)); refine blk_far ?_ NB204_223.out _; (with_reducible repeat (first | refine blk_drewN ?_ _ | refine blk_drew ?_ | refine blk_alloc ?_ _)); refine blk_far ?_ NB204_223.out _; (with_reducible repeat (first | refine blk_drewN ?_ _ | refine blk_drew ?_ | refine blk_alloc ?_ _)); exact BK204.out⟩, ⟨by (with_reducible repeat (first | refine blk_drewN ?_ _ | refine blk_drew ?_ | refine blk_alloc ?_ _)); refine blk_put (cs := #[.int .i64 t220, .int .i64 x215001_5]) ?_ 1 _ rfl; (with_reducible repeat (first | refine blk_drewN ?_ _ | refine blk_drew ?_ | refine blk_alloc ?_ _)); refine blk_put (cs := #[.int .i64 x215000_5, .int .i64 x215001_5]) ?_ 0 _ rfl; (with_reducible repeat (first | refine blk_drewN ?_ _ | refine blk_drew ?_ | refine blk_alloc ?_ _)); refine blk_far ?_ NB214_223.out _; (with_reducible repeat (first | refine blk_drewN ?_ _ | refine blk_drew ?_ | refine blk_alloc ?_ _)); refine blk_far ?_ NB214_223.out _; (with_reducible repeat (first | refine blk_drewN ?_ _ | refine blk_drew ?_ | refine blk_alloc ?_ _)); exact BK214.out⟩, ⟨by repeat (first | (with_reducible first | exact HB.out | apply below_alloc | apply pw_below_drewN | apply below_drew1 | refine below_set ?_ GE188.out | refine below_set ?_ GE193.out | refine below_set ?_ GE196.out | refine below_set ?_ GE204.out | refine below_set ?_ GE214.out | refine below_set ?_ GE218.out | refine below_set ?_ GE223.out) | exact HB.out)⟩⟩
                                   · replace c94 := Bool.eq_false_iff.mpr c94
                                     subst c94
                                     have H1 : (laws_FnLeavens.l2 kj86 (wrap64 (1 + (Int.tmod t189 4))) y208 t211 x16_4 false (wrap64 (x19_5 + 1)) t186 t187 t220 t221) = some true := by rw [if_neg (show ¬ (false = true) by decide)] at H; exact H
                                     clear H
                                     have H := H1
                                     clear H1
                                     have H' := Aside0.mk H
                                     clear H
                                     have hnb123 := NB214_188.out
                                     have hnc123 := NB188_214.out
                                     have hnb124 := NB214_193.out
                                     have hnc124 := NB193_214.out
                                     have hnb125 := NB214_196.out
                                     have hnc125 := NB196_214.out
                                     have hnb126 := NB214_204.out
                                     have hnc126 := NB204_214.out
                                     have hcz127_0 : wc.cell? ⟨gb214, 0, none⟩ = some (.int .i64 x215000_5) := (blk_cell BK214.out 0).trans rfl
                                     have hcz127_1 : wc.cell? ⟨gb214, 1, none⟩ = some (.int .i64 x215001_5) := (blk_cell BK214.out 1).trans rfl
                                     have hfz127_0 := blk_frozen BK214.out 0
                                     have hfz127_1 := blk_frozen BK214.out 1
                                     try go_wp2_with (first | ((with_reducible refine gate_callee (f := 39) rfl ?_); refine goesL_ (some 151) rfl rfl Try.func39 (by kernel_rfl) rfl #[.agg #[.int .i64 x215000_5, .int .i64 x215001_5], .int .i64 (wrap64 (1 + (Int.tmod t189 4)))] rfl (by (try simp only [List.map_toArray, List.map_cons, List.map_nil]); first | done | rfl | (simp only [List.length_drop, List.length_take]; rfl)) ?_; (with_reducible refine (spec_Feed.calls kj86 x215000_5 x215001_5 (wrap64 (1 + (Int.tmod t189 4))) t215 t216 false _ A90.out).mono ?_); rintro e w128 ⟨rfl, hb⟩; refine ⟨_, rfl, ?_⟩; have n0_ := Aside0.mk (Kd.R_below (by (with_reducible repeat (first | apply Kd.R_alloc | apply Kd.R_drewN | apply Kd.R_drew)); exact HO_14.out) hb); have n1_ := Aside0.mk (blk_below (g := gb188) (o := .cells #[.int .i64 t186, .int .i64 t187] 49 (0, 0)) (by (with_reducible repeat (first | refine blk_drewN ?_ _ | refine blk_drew ?_ | refine blk_alloc ?_ _)); exact BK188.out) hb); have n2_ := Aside0.mk (blk_below (g := gb193) (o := .cells #[.int .i64 t190, .int .i64 t191] 49 (0, 0)) (by (with_reducible repeat (first | refine blk_drewN ?_ _ | refine blk_drew ?_ | refine blk_alloc ?_ _)); exact BK193.out) hb); have n3_ := Aside0.mk (blk_below (g := gb196) (o := .cells #[.int .i64 x197000_2, .int .i64 x197001_2] 49 (0, 0)) (by (with_reducible repeat (first | refine blk_drewN ?_ _ | refine blk_drew ?_ | refine blk_alloc ?_ _)); exact BK196.out) hb); have n4_ := Aside0.mk (blk_below (g := gb204) (o := .cells #[.int .i64 t201, .int .i64 t202] 49 (0, 0)) (by (with_reducible repeat (first | refine blk_drewN ?_ _ | refine blk_drew ?_ | refine blk_alloc ?_ _)); exact BK204.out) hb); have n5_ := Aside0.mk (blk_below (g := gb214) (o := .cells #[.int .i64 x215000_5, .int .i64 x215001_5] 49 (0, 0)) (by (with_reducible repeat (first | refine blk_drewN ?_ _ | refine blk_drew ?_ | refine blk_alloc ?_ _)); exact BK214.out) hb); have n6_ := Aside0.mk (below_step (by repeat (first | (with_reducible first | exact HB.out | apply below_alloc | apply pw_below_drewN | apply below_drew1 | refine below_set ?_ GE188.out | refine below_set ?_ GE193.out | refine below_set ?_ GE196.out | refine below_set ?_ GE204.out | refine below_set ?_ GE214.out) | exact HB.out)) hb); clear HO_14; clear BK188; clear BK193; clear BK196; clear BK204; clear BK214; clear HB; have HO_14 := n0_; have BK188 := n1_; have BK193 := n2_; have BK196 := n3_; have BK204 := n4_; have BK214 := n5_; have HB := n6_; clear n0_ n1_ n2_ n3_ n4_ n5_ n6_; (try clear hb); (try clear hb2); (try clear hk); (try clear hi)) | ((with_reducible refine gate_dst (N := 20) rfl ?_); refine box_event ?hg (N := 20) ?hd (cs := #[.int .i64 0, .int .i64 0]) (t := 49) ?hr ?_; (case hd => rfl); (case hg => rfl); (case hr => first | (go_simp; done) | (go_simp; rfl)); intro gb218 hg w129 hbox hb; have n0_ := Aside0.mk (Kd.R_below (by (with_reducible repeat (first | apply Kd.R_alloc | apply Kd.R_drewN | apply Kd.R_drew)); exact HO_14.out) hb); have n1_ := Aside0.mk (blk_below (g := gb188) (o := .cells #[.int .i64 t186, .int .i64 t187] 49 (0, 0)) (by (with_reducible repeat (first | refine blk_drewN ?_ _ | refine blk_drew ?_ | refine blk_alloc ?_ _)); exact BK188.out) hb); have n2_ := Aside0.mk (blk_below (g := gb193) (o := .cells #[.int .i64 t190, .int .i64 t191] 49 (0, 0)) (by (with_reducible repeat (first | refine blk_drewN ?_ _ | refine blk_drew ?_ | refine blk_alloc ?_ _)); exact BK193.out) hb); have n3_ := Aside0.mk (blk_below (g := gb196) (o := .cells #[.int .i64 x197000_2, .int .i64 x197001_2] 49 (0, 0)) (by (with_reducible repeat (first | refine blk_drewN ?_ _ | refine blk_drew ?_ | refine blk_alloc ?_ _)); exact BK196.out) hb); have n4_ := Aside0.mk (blk_below (g := gb204) (o := .cells #[.int .i64 t201, .int .i64 t202] 49 (0, 0)) (by (with_reducible repeat (first | refine blk_drewN ?_ _ | refine blk_drew ?_ | refine blk_alloc ?_ _)); exact BK204.out) hb); have n5_ := Aside0.mk (blk_below (g := gb214) (o := .cells #[.int .i64 x215000_5, .int .i64 x215001_5] 49 (0, 0)) (by (with_reducible repeat (first | refine blk_drewN ?_ _ | refine blk_drew ?_ | refine blk_alloc ?_ _)); exact BK214.out) hb); have n6_ := Aside0.mk (below_step (by repeat (first | (with_reducible first | exact HB.out | apply below_alloc | apply pw_below_drewN | apply below_drew1 | refine below_set ?_ GE188.out | refine below_set ?_ GE193.out | refine below_set ?_ GE196.out | refine below_set ?_ GE204.out | refine below_set ?_ GE214.out) | exact HB.out)) hb); have n7_ := Aside0.mk (hbox); have n8_ := Aside0.mk ((by rw [hg]; exact (below_size (by repeat (first | (with_reducible first | exact HB.out | apply below_alloc | apply pw_below_drewN | apply below_drew1 | refine below_set ?_ GE188.out | refine below_set ?_ GE193.out | refine below_set ?_ GE196.out | refine below_set ?_ GE204.out | refine below_set ?_ GE214.out) | exact HB.out))) : w.heap.size ≤ gb218)); have n9_ := Aside0.mk ((by rw [hg]; exact (below_size (by repeat (first | (with_reducible first | exact HB.out | apply below_alloc | apply pw_below_drewN | apply below_drew1 | refine below_set ?_ GE188.out | refine below_set ?_ GE193.out | refine below_set ?_ GE196.out | refine below_set ?_ GE204.out | refine below_set ?_ GE214.out) | exact HB.out))) : w.heap.size ≤ gb218)); have n10_ := Aside0.mk ((by rw [hg]; exact Nat.ne_of_lt (blk_lt (g := gb188) (o := .cells #[.int .i64 t186, .int .i64 t187] 49 (0, 0)) (by (with_reducible repeat (first | refine blk_drewN ?_ _ | refine blk_drew ?_ | refine blk_alloc ?_ _)); exact BK188.out)) : gb188 ≠ gb218)); have n11_ := Aside0.mk ((by rw [hg]; exact Nat.ne_of_gt (blk_lt (g := gb188) (o := .cells #[.int .i64 t186, .int .i64 t187] 49 (0, 0)) (by (with_reducible repeat (first | refine blk_drewN ?_ _ | refine blk_drew ?_ | refine blk_alloc ?_ _)); exact BK188.out)) : gb218 ≠ gb188)); have n12_ := Aside0.mk ((by rw [hg]; exact Nat.ne_of_lt (blk_lt (g := gb193) (o := .cells #[.int .i64 t190, .int .i64 t191] 49 (0, 0)) (by (with_reducible repeat (first | refine blk_drewN ?_ _ | refine blk_drew ?_ | refine blk_alloc ?_ _)); exact BK193.out)) : gb193 ≠ gb218)); have n13_ := Aside0.mk ((by rw [hg]; exact Nat.ne_of_gt (blk_lt (g := gb193) (o := .cells #[.int .i64 t190, .int .i64 t191] 49 (0, 0)) (by (with_reducible repeat (first | refine blk_drewN ?_ _ | refine blk_drew ?_ | refine blk_alloc ?_ _)); exact BK193.out)) : gb218 ≠ gb193)); have n14_ := Aside0.mk ((by rw [hg]; exact Nat.ne_of_lt (blk_lt (g := gb196) (o := .cells #[.int .i64 x197000_2, .int .i64 x197001_2] 49 (0, 0)) (by (with_reducible repeat (first | refine blk_drewN ?_ _ | refine blk_drew ?_ | refine blk_alloc ?_ _)); exact BK196.out)) : gb196 ≠ gb218)); have n15_ := Aside0.mk ((by rw [hg]; exact Nat.ne_of_gt (blk_lt (g := gb196) (o := .cells #[.int .i64 x197000_2, .int .i64 x197001_2] 49 (0, 0)) (by (with_reducible repeat (first | refine blk_drewN ?_ _ | refine blk_drew ?_ | refine blk_alloc ?_ _)); exact BK196.out)) : gb218 ≠ gb196)); have n16_ := Aside0.mk ((by rw [hg]; exact Nat.ne_of_lt (blk_lt (g := gb204) (o := .cells #[.int .i64 t201, .int .i64 t202] 49 (0, 0)) (by (with_reducible repeat (first | refine blk_drewN ?_ _ | refine blk_drew ?_ | refine blk_alloc ?_ _)); exact BK204.out)) : gb204 ≠ gb218)); have n17_ := Aside0.mk ((by rw [hg]; exact Nat.ne_of_gt (blk_lt (g := gb204) (o := .cells #[.int .i64 t201, .int .i64 t202] 49 (0, 0)) (by (with_reducible repeat (first | refine blk_drewN ?_ _ | refine blk_drew ?_ | refine blk_alloc ?_ _)); exact BK204.out)) : gb218 ≠ gb204)); have n18_ := Aside0.mk ((by rw [hg]; exact Nat.ne_of_lt (blk_lt (g := gb214) (o := .cells #[.int .i64 x215000_5, .int .i64 x215001_5] 49 (0, 0)) (by (with_reducible repeat (first | refine blk_drewN ?_ _ | refine blk_drew ?_ | refine blk_alloc ?_ _)); exact BK214.out)) : gb214 ≠ gb218)); have n19_ := Aside0.mk ((by rw [hg]; exact Nat.ne_of_gt (blk_lt (g := gb214) (o := .cells #[.int .i64 x215000_5, .int .i64 x215001_5] 49 (0, 0)) (by (with_reducible repeat (first | refine blk_drewN ?_ _ | refine blk_drew ?_ | refine blk_alloc ?_ _)); exact BK214.out)) : gb218 ≠ gb214)); clear HO_14; clear BK188; clear BK193; clear BK196; clear BK204; clear BK214; clear HB; have HO_14 := n0_; have BK188 := n1_; have BK193 := n2_; have BK196 := n3_; have BK204 := n4_; have BK214 := n5_; have HB := n6_; have BK218 := n7_; have GW218 := n8_; have GE218 := n9_; have NB188_218 := n10_; have NB218_188 := n11_; have NB193_218 := n12_; have NB218_193 := n13_; have NB196_218 := n14_; have NB218_196 := n15_; have NB204_218 := n16_; have NB218_204 := n17_; have NB214_218 := n18_; have NB218_214 := n19_; clear n0_ n1_ n2_ n3_ n4_ n5_ n6_ n7_ n8_ n9_ n10_ n11_ n12_ n13_ n14_ n15_ n16_ n17_ n18_ n19_; clear hb hbox hg; have hnb130 := NB218_188.out; have hnc130 := NB188_218.out; have hnb131 := NB218_193.out; have hnc131 := NB193_218.out; have hnb132 := NB218_196.out; have hnc132 := NB196_218.out; have hnb133 := NB218_204.out; have hnc133 := NB204_218.out; have hnb134 := NB218_214.out; have hnc134 := NB214_218.out; have hcz135_0 : w129.cell? ⟨gb218, 0, none⟩ = some (.int .i64 0) := (blk_cell BK218.out 0).trans rfl; have hcz135_1 : w129.cell? ⟨gb218, 1, none⟩ = some (.int .i64 0) := (blk_cell BK218.out 1).trans rfl; have hfz135_0 := blk_frozen BK218.out 0; have hfz135_1 := blk_frozen BK218.out 1))
                                     have n0_ : Aside0 (Kd.R (Kd.int .i64) 3 ((w129.setCell ⟨gb218, 0, none⟩ (.int .i64 t215)).setCell ⟨gb218, 1, none⟩ (.int .i64 t216)) w.heap.size (fun _ => True) (.slice Ao78 y208.length co78) y208) := ⟨by (with_reducible repeat (first | apply Kd.R_alloc | apply Kd.R_drewN | apply Kd.R_drew)); exact Kd.R_mono (Kd.R_far (p := ⟨gb218, 1, none⟩) (Kd.R_far (p := ⟨gb218, 0, none⟩) (Kd.R_types HO_14.out BK218.out (by decide)) (fun _ hk => hk.2) (.int .i64 t215)) (fun _ hk => hk.2) (.int .i64 t216)) (fun _ hk => trivial)⟩
                                     have n1_ : Aside0 (((w129.setCell ⟨gb218, 0, none⟩ (.int .i64 t215)).setCell ⟨gb218, 1, none⟩ (.int .i64 t216)).heap[gb188]? = some (.cells #[.int .i64 t186, .int .i64 t187] 49 (0, 0))) := ⟨by (with_reducible repeat (first | refine blk_drewN ?_ _ | refine blk_drew ?_ | refine blk_alloc ?_ _)); refine blk_far ?_ NB188_218.out _; (with_reducible repeat (first | refine blk_drewN ?_ _ | refine blk_drew ?_ | refine blk_alloc ?_ _)); refine blk_far ?_ NB188_218.out _; (with_reducible repeat (first | refine blk_drewN ?_ _ | refine blk_drew ?_ | refine blk_alloc ?_ _)); exact BK188.out⟩
                                     have n2_ : Aside0 (((w129.setCell ⟨gb218, 0, none⟩ (.int .i64 t215)).setCell ⟨gb218, 1, none⟩ (.int .i64 t216)).heap[gb193]? = some (.cells #[.int .i64 t190, .int .i64 t191] 49 (0, 0))) := ⟨by (with_reducible repeat (first | refine blk_drewN ?_ _ | refine blk_drew ?_ | refine blk_alloc ?_ _)); refine blk_far ?_ NB193_218.out _; (with_reducible repeat (first | refine blk_drewN ?_ _ | refine blk_drew ?_ | refine blk_alloc ?_ _)); refine blk_far ?_ NB193_218.out _; (with_reducible repeat (first | refine blk_drewN ?_ _ | refine blk_drew ?_ | refine blk_alloc ?_ _)); exact BK193.out⟩
                                     have n3_ : Aside0 (((w129.setCell ⟨gb218, 0, none⟩ (.int .i64 t215)).setCell ⟨gb218, 1, none⟩ (.int .i64 t216)).heap[gb196]? = some (.cells #[.int .i64 x197000_2, .int .i64 x197001_2] 49 (0, 0))) := ⟨by (with_reducible repeat (first | refine blk_drewN ?_ _ | refine blk_drew ?_ | refine blk_alloc ?_ _)); refine blk_far ?_ NB196_218.out _; (with_reducible repeat (first | refine blk_drewN ?_ _ | refine blk_drew ?_ | refine blk_alloc ?_ _)); refine blk_far ?_ NB196_218.out _; (with_reducible repeat (first | refine blk_drewN ?_ _ | refine blk_drew ?_ | refine blk_alloc ?_ _)); exact BK196.out⟩
                                     have n4_ : Aside0 (((w129.setCell ⟨gb218, 0, none⟩ (.int .i64 t215)).setCell ⟨gb218, 1, none⟩ (.int .i64 t216)).heap[gb204]? = some (.cells #[.int .i64 t201, .int .i64 t202] 49 (0, 0))) := ⟨by (with_reducible repeat (first | refine blk_drewN ?_ _ | refine blk_drew ?_ | refine blk_alloc ?_ _)); refine blk_far ?_ NB204_218.out _; (with_reducible repeat (first | refine blk_drewN ?_ _ | refine blk_drew ?_ | refine blk_alloc ?_ _)); refine blk_far ?_ NB204_218.out _; (with_reducible repeat (first | refine blk_drewN ?_ _ | refine blk_drew ?_ | refine blk_alloc ?_ _)); exact BK204.out⟩
                                     have n5_ : Aside0 (((w129.setCell ⟨gb218, 0, none⟩ (.int .i64 t215)).setCell ⟨gb218, 1, none⟩ (.int .i64 t216)).heap[gb214]? = some (.cells #[.int .i64 x215000_5, .int .i64 x215001_5] 49 (0, 0))) := ⟨by (with_reducible repeat (first | refine blk_drewN ?_ _ | refine blk_drew ?_ | refine blk_alloc ?_ _)); refine blk_far ?_ NB214_218.out _; (with_reducible repeat (first | refine blk_drewN ?_ _ | refine blk_drew ?_ | refine blk_alloc ?_ _)); refine blk_far ?_ NB214_218.out _; (with_reducible repeat (first | refine blk_drewN ?_ _ | refine blk_drew ?_ | refine blk_alloc ?_ _)); exact BK214.out⟩
                                     have n6_ : Aside0 (((w129.setCell ⟨gb218, 0, none⟩ (.int .i64 t215)).setCell ⟨gb218, 1, none⟩ (.int .i64 t216)).heap[gb218]? = some (.cells #[.int .i64 t215, .int .i64 t216] 49 (0, 0))) := ⟨by (with_reducible repeat (first | refine blk_drewN ?_ _ | refine blk_drew ?_ | refine blk_alloc ?_ _)); refine blk_put (cs := #[.int .i64 t215, .int .i64 0]) ?_ 1 _ rfl; (with_reducible repeat (first | refine blk_drewN ?_ _ | refine blk_drew ?_ | refine blk_alloc ?_ _)); refine blk_put (cs := #[.int .i64 0, .int .i64 0]) ?_ 0 _ rfl; (with_reducible repeat (first | refine blk_drewN ?_ _ | refine blk_drew ?_ | refine blk_alloc ?_ _)); exact BK218.out⟩
                                     have n7_ : Aside0 (Below w.heap.size w ((w129.setCell ⟨gb218, 0, none⟩ (.int .i64 t215)).setCell ⟨gb218, 1, none⟩ (.int .i64 t216))) := ⟨by repeat (first | (with_reducible first | exact HB.out | apply below_alloc | apply pw_below_drewN | apply below_drew1 | refine below_set ?_ GE188.out | refine below_set ?_ GE193.out | refine below_set ?_ GE196.out | refine below_set ?_ GE204.out | refine below_set ?_ GE214.out | refine below_set ?_ GE218.out) | exact HB.out)⟩
                                     (try clear HO_14)
                                     (try clear BK188)
                                     (try clear BK193)
                                     (try clear BK196)
                                     (try clear BK204)
                                     (try clear BK214)
                                     (try clear BK218)
                                     (try clear HB)
                                     generalize ((w129.setCell ⟨gb218, 0, none⟩ (.int .i64 t215)).setCell ⟨gb218, 1, none⟩ (.int .i64 t216)) = w136 at n0_ n1_ n2_ n3_ n4_ n5_ n6_ n7_ ⊢
                                     have HO_14 := n0_
                                     have BK188 := n1_
                                     have BK193 := n2_
                                     have BK196 := n3_
                                     have BK204 := n4_
                                     have BK214 := n5_
                                     have BK218 := n6_
                                     have HB := n7_
                                     clear n0_ n1_ n2_ n3_ n4_ n5_ n6_ n7_
                                     have n0_ := Aside0.mk (Kd.R_drew HO_14.out)
                                     have n1_ := Aside0.mk (blk_drew BK188.out)
                                     have n2_ := Aside0.mk (blk_drew BK193.out)
                                     have n3_ := Aside0.mk (blk_drew BK196.out)
                                     have n4_ := Aside0.mk (blk_drew BK204.out)
                                     have n5_ := Aside0.mk (blk_drew BK214.out)
                                     have n6_ := Aside0.mk (blk_drew BK218.out)
                                     have n7_ := Aside0.mk (below_drew1 HB.out)
                                     clear HO_14
                                     clear BK188
                                     clear BK193
                                     clear BK196
                                     clear BK204
                                     clear BK214
                                     clear BK218
                                     clear HB
                                     have HO_14 := n0_
                                     have BK188 := n1_
                                     have BK193 := n2_
                                     have BK196 := n3_
                                     have BK204 := n4_
                                     have BK214 := n5_
                                     have BK218 := n6_
                                     have HB := n7_
                                     clear n0_ n1_ n2_ n3_ n4_ n5_ n6_ n7_
                                     have p219 : 0 ≤ (x19_5 : Int) := of_decide_eq_true (by first | (with_reducible assumption) | assumption)
                                     have q219 : x19_5 < (y208.length : Int) := of_decide_eq_true (by first | (with_reducible assumption) | assumption)
                                     obtain ⟨ad219, e219, hx219_0⟩ := Kd.at_int (Kd.R_reads' HO_14.out).2.2 x19_5 p219 q219
                                     cases e219
                                     replace p219 := eq_true p219
                                     replace q219 := eq_true q219
                                     refine start_ (n := 12) (S := fun w' => w'.cell? ⟨gb218, 0, none⟩ = some (.int .i64 t215) ∧ w'.cell? ⟨gb218, 1, none⟩ = some (.int .i64 t216) ∧ w'.cell? (ad219.add (x19_5).toNat) = some (.int .i64 (rd y208 x19_5))) (ds := []) #[false, false, false, false, false, false, false, false, false, false, false, false] (by kernel_rfl) rfl rfl ⟨(blk_cell BK218.out 0).trans rfl, (blk_cell BK218.out 1).trans rfl, hx219_0⟩ (fun hHeld => ?_); refine with_tabW laws_FnLeavens.tab36 laws_FnLeavens.bits36 (fun HT_ HW_ => ?_)
                                     generalize w136.drew = w137 at HO_14 BK188 BK193 BK196 BK204 BK214 BK218 HB hx219_0 hHeld ⊢
                                     refine pure_ (i := 1) (N := some 156) (v := ?_) (a' := ?_) #[false, true, false, false, false, false, false, false, false, false, false, false] rfl rfl (any_of HT_.out (by kernel_rfl)) (fun _ _ _ h => h) (Or.inl ⟨by rfl, ?_⟩) ?_ ?_
                                     rotate_left
                                     · intro w'
                                       go_simp
                                       with_reducible rfl
                                     rotate_left
                                     · simp only [Act.put, List.setIfInBounds_toArray, List.set_cons_zero, List.set_cons_succ, i64_w, i32_w]
                                       rfl
                                     refine pure_ (i := 2) (N := some 157) (v := ?_) (a' := ?_) #[false, true, true, false, false, false, false, false, false, false, false, false] rfl rfl (any_of HT_.out (by kernel_rfl)) (fun _ _ _ h => h) (Or.inl ⟨by rfl, ?_⟩) ?_ ?_
                                     rotate_left
                                     · intro w'
                                       go_simp
                                       with_reducible rfl
                                     rotate_left
                                     · simp only [Act.put, List.setIfInBounds_toArray, List.set_cons_zero, List.set_cons_succ, i64_w, i32_w]
                                       rfl
                                     refine pure_ (i := 3) (N := some 158) (v := ?_) (a' := ?_) #[false, true, true, true, false, false, false, false, false, false, false, false] rfl rfl (any_of HT_.out (by kernel_rfl)) (fun _ _ _ h => h) (Or.inl ⟨by rfl, ?_⟩) ?_ ?_
                                     rotate_left
                                     · intro w'
                                       go_simp
                                       with_reducible rfl
                                     rotate_left
                                     · simp only [Act.put, List.setIfInBounds_toArray, List.set_cons_zero, List.set_cons_succ, i64_w, i32_w]
                                       rfl
                                     refine take_ (i := 0) (N := some 155) (v := ?_) (a' := ?_) #[true, true, true, true, false, false, false, false, false, false, false, false] rfl rfl (take_ofW HT_.out HW_.out (by kernel_rfl)) (fun _ _ _ h => h) (Or.inl ⟨by rfl, ?_⟩) hHeld ?_ ?_
                                     rotate_left
                                     · rintro w' ⟨s0, s1, s2⟩
                                       go_simp
                                       with_reducible rfl
                                     rotate_left
                                     · simp only [Act.put, List.setIfInBounds_toArray, List.set_cons_zero, List.set_cons_succ, i64_w, i32_w]
                                       rfl
                                     refine take_ (i := 4) (N := some 159) (v := ?_) (a' := ?_) #[true, true, true, true, true, false, false, false, false, false, false, false] rfl rfl (take_ofW HT_.out HW_.out (by kernel_rfl)) (fun _ _ _ h => h) (Or.inl ⟨by rfl, ?_⟩) hHeld ?_ ?_
                                     rotate_left
                                     · rintro w' ⟨s0, s1, s2⟩
                                       go_simp
                                       with_reducible rfl
                                     rotate_left
                                     · simp only [Act.put, List.setIfInBounds_toArray, List.set_cons_zero, List.set_cons_succ, i64_w, i32_w]
                                       rfl
                                     refine join_ (σ := Nat) 2 #[true, true, true, true, true, true, true, true, true, true, false, false] (fun s_ => [(160, .tuple #[.agg #[.int .i64 t220, .int .i64 t221], .bool t222]), (22, .pointer (some ⟨s_, 0, none⟩)), (154, .tuple #[.agg #[.int .i64 t220, .int .i64 t221], .bool t222]), (161, .agg #[.int .i64 t220, .int .i64 t221]), (162, .bool t222)]) (fun s_ w' => (w'.cell? ⟨gb218, 0, none⟩ = some (.int .i64 t215) ∧ w'.cell? ⟨gb218, 1, none⟩ = some (.int .i64 t216) ∧ w'.cell? (ad219.add (x19_5).toNat) = some (.int .i64 (rd y208 x19_5))) ∧ (Kd.R (Kd.int .i64) 3 w' w.heap.size (fun _ => True) (.slice (some ad219) y208.length co78) y208) ∧ (w'.heap[gb188]? = some (.cells #[.int .i64 t186, .int .i64 t187] 49 (0, 0))) ∧ (w'.heap[gb193]? = some (.cells #[.int .i64 t190, .int .i64 t191] 49 (0, 0))) ∧ (w'.heap[gb196]? = some (.cells #[.int .i64 x197000_2, .int .i64 x197001_2] 49 (0, 0))) ∧ (w'.heap[gb204]? = some (.cells #[.int .i64 t201, .int .i64 t202] 49 (0, 0))) ∧ (w'.heap[gb214]? = some (.cells #[.int .i64 x215000_5, .int .i64 x215001_5] 49 (0, 0))) ∧ (w'.heap[gb218]? = some (.cells #[.int .i64 t215, .int .i64 t216] 49 (0, 0))) ∧ (w'.heap[s_]? = some (.cells #[.int .i64 0, .int .i64 0] 49 (0, 0))) ∧ (w.heap.size ≤ s_) ∧ (w.heap.size ≤ s_) ∧ (gb188 ≠ s_) ∧ (s_ ≠ gb188) ∧ (gb193 ≠ s_) ∧ (s_ ≠ gb193) ∧ (gb196 ≠ s_) ∧ (s_ ≠ gb196) ∧ (gb204 ≠ s_) ∧ (s_ ≠ gb204) ∧ (gb214 ≠ s_) ∧ (s_ ≠ gb214) ∧ (gb218 ≠ s_) ∧ (s_ ≠ gb218) ∧ (Below w.heap.size w w')) ?_ ?_
                                     rotate_left
                                     · intro hCont
                                       refine two_ (i := 5) (j := 9) (Ni := some 160) (Nj := some 22) #[true, true, true, true, true, true, false, false, false, false, false, false] #[true, true, true, true, true, false, false, false, false, true, false, false] rfl rfl rfl rfl (two_of HT_.out (by kernel_rfl)) (by decide) (by decide) (fun K hK => ?_) (fun K hK => ?_)
                                       · skip
                                         refine goes_ Try.func40 (by kernel_rfl) rfl #[.agg #[.int .i64 t215, .int .i64 t216], .int .i64 (rd y208 x19_5), .int .i64 1] (by rfl) rfl rfl (by (try simp only [List.map_toArray, List.map_cons, List.map_nil]); first | done | rfl | (simp only [List.length_drop, List.length_take]; rfl)) ?_
                                         with_reducible refine (spec_TakeLeaven.calls t215 t216 (rd y208 x19_5) 1 t220 t221 t222 _ A93.out).mono ?_
                                         rintro e w138 ⟨rfl, hb⟩
                                         have HS2_ := (hb.cell (World.block_lt_of_cell? _ _ (hHeld.2.2))).trans (hHeld.2.2)
                                         refine ⟨_, rfl, ?_⟩
                                         have n0_ := Aside0.mk (Kd.R_below (by (with_reducible repeat (first | apply Kd.R_alloc | apply Kd.R_drewN | apply Kd.R_drew)); exact HO_14.out) hb)
                                         have n1_ := Aside0.mk (blk_below (g := gb188) (o := .cells #[.int .i64 t186, .int .i64 t187] 49 (0, 0)) (by (with_reducible repeat (first | refine blk_drewN ?_ _ | refine blk_drew ?_ | refine blk_alloc ?_ _)); exact BK188.out) hb)
                                         have n2_ := Aside0.mk (blk_below (g := gb193) (o := .cells #[.int .i64 t190, .int .i64 t191] 49 (0, 0)) (by (with_reducible repeat (first | refine blk_drewN ?_ _ | refine blk_drew ?_ | refine blk_alloc ?_ _)); exact BK193.out) hb)
                                         have n3_ := Aside0.mk (blk_below (g := gb196) (o := .cells #[.int .i64 x197000_2, .int .i64 x197001_2] 49 (0, 0)) (by (with_reducible repeat (first | refine blk_drewN ?_ _ | refine blk_drew ?_ | refine blk_alloc ?_ _)); exact BK196.out) hb)
                                         have n4_ := Aside0.mk (blk_below (g := gb204) (o := .cells #[.int .i64 t201, .int .i64 t202] 49 (0, 0)) (by (with_reducible repeat (first | refine blk_drewN ?_ _ | refine blk_drew ?_ | refine blk_alloc ?_ _)); exact BK204.out) hb)
                                         have n5_ := Aside0.mk (blk_below (g := gb214) (o := .cells #[.int .i64 x215000_5, .int .i64 x215001_5] 49 (0, 0)) (by (with_reducible repeat (first | refine blk_drewN ?_ _ | refine blk_drew ?_ | refine blk_alloc ?_ _)); exact BK214.out) hb)
                                         have n6_ := Aside0.mk (blk_below (g := gb218) (o := .cells #[.int .i64 t215, .int .i64 t216] 49 (0, 0)) (by (with_reducible repeat (first | refine blk_drewN ?_ _ | refine blk_drew ?_ | refine blk_alloc ?_ _)); exact BK218.out) hb)
                                         have n7_ := Aside0.mk (below_step (by repeat (first | (with_reducible first | exact HB.out | apply below_alloc | apply pw_below_drewN | apply below_drew1 | refine below_set ?_ GE188.out | refine below_set ?_ GE193.out | refine below_set ?_ GE196.out | refine below_set ?_ GE204.out | refine below_set ?_ GE214.out | refine below_set ?_ GE218.out) | exact HB.out)) hb)
                                         clear HO_14
                                         clear BK188
                                         clear BK193
                                         clear BK196
                                         clear BK204
                                         clear BK214
                                         clear BK218
                                         clear HB
                                         have HO_14 := n0_
                                         have BK188 := n1_
                                         have BK193 := n2_
                                         have BK196 := n3_
                                         have BK204 := n4_
                                         have BK214 := n5_
                                         have BK218 := n6_
                                         have HB := n7_
                                         clear n0_ n1_ n2_ n3_ n4_ n5_ n6_ n7_
                                         (try clear hb)
                                         (try clear hb2)
                                         (try clear hk)
                                         (try clear hi)
                                         refine hK.out _ _ ⟨(blk_cell BK218.out 0).trans rfl, (blk_cell BK218.out 1).trans rfl, HS2_⟩ (fun hHeld => ?_)
                                         clear hK K
                                         refine norm_ (a' := ?_) ?_ ?_
                                         rotate_left
                                         · show Act.put _ (some 160) _ = _
                                           simp only [Act.put, List.setIfInBounds_toArray, List.set_cons_zero, List.set_cons_succ, i64_w, i32_w]
                                           rfl
                                         refine pure_ (i := 6) (N := some 154) (v := ?_) (a' := ?_) #[true, true, true, true, true, true, true, false, false, false, false, false] rfl rfl (any_of HT_.out (by kernel_rfl)) (fun _ _ _ h => h) (Or.inl ⟨by rfl, ?_⟩) ?_ ?_
                                         rotate_left
                                         · intro w'
                                           go_simp
                                           with_reducible rfl
                                         rotate_left
                                         · simp only [Act.put, List.setIfInBounds_toArray, List.set_cons_zero, List.set_cons_succ, i64_w, i32_w]
                                           rfl
                                         refine pure_ (i := 7) (N := some 161) (v := ?_) (a' := ?_) #[true, true, true, true, true, true, true, true, false, false, false, false] rfl rfl (any_of HT_.out (by kernel_rfl)) (fun _ _ _ h => h) (Or.inl ⟨by rfl, ?_⟩) ?_ ?_
                                         rotate_left
                                         · intro w'
                                           go_simp
                                           with_reducible rfl
                                         rotate_left
                                         · simp only [Act.put, List.setIfInBounds_toArray, List.set_cons_zero, List.set_cons_succ, i64_w, i32_w]
                                           rfl
                                         refine pure_ (i := 8) (N := some 162) (v := ?_) (a' := ?_) #[true, true, true, true, true, true, true, true, true, false, false, false] rfl rfl (any_of HT_.out (by kernel_rfl)) (fun _ _ _ h => h) (Or.inl ⟨by rfl, ?_⟩) ?_ ?_
                                         rotate_left
                                         · intro w'
                                           go_simp
                                           with_reducible rfl
                                         rotate_left
                                         · simp only [Act.put, List.setIfInBounds_toArray, List.set_cons_zero, List.set_cons_succ, i64_w, i32_w]
                                           rfl
                                         refine one_ (i := 9) (N := some 22) #[true, true, true, true, true, true, true, true, true, true, false, false] rfl rfl (one_of HT_.out (by kernel_rfl)) (by decide) (fun K hK => ?_)
                                         refine box_step ?hg (N := 22) ?hd (cs := #[.int .i64 0, .int .i64 0]) (t := 49) ?hr ?_; (case hd => rfl); (case hg => rfl); (case hr => first | (go_simp; done) | (go_simp; rfl))
                                         intro gb223 hg w139 hbox hb
                                         have HS2_ := (hb.cell (World.block_lt_of_cell? _ _ (hHeld.2.2))).trans (hHeld.2.2)
                                         have n0_ := Aside0.mk (Kd.R_below (by (with_reducible repeat (first | apply Kd.R_alloc | apply Kd.R_drewN | apply Kd.R_drew)); exact HO_14.out) hb)
                                         have n1_ := Aside0.mk (blk_below (g := gb188) (o := .cells #[.int .i64 t186, .int .i64 t187] 49 (0, 0)) (by (with_reducible repeat (first | refine blk_drewN ?_ _ | refine blk_drew ?_ | refine blk_alloc ?_ _)); exact BK188.out) hb)
                                         have n2_ := Aside0.mk (blk_below (g := gb193) (o := .cells #[.int .i64 t190, .int .i64 t191] 49 (0, 0)) (by (with_reducible repeat (first | refine blk_drewN ?_ _ | refine blk_drew ?_ | refine blk_alloc ?_ _)); exact BK193.out) hb)
                                         have n3_ := Aside0.mk (blk_below (g := gb196) (o := .cells #[.int .i64 x197000_2, .int .i64 x197001_2] 49 (0, 0)) (by (with_reducible repeat (first | refine blk_drewN ?_ _ | refine blk_drew ?_ | refine blk_alloc ?_ _)); exact BK196.out) hb)
                                         have n4_ := Aside0.mk (blk_below (g := gb204) (o := .cells #[.int .i64 t201, .int .i64 t202] 49 (0, 0)) (by (with_reducible repeat (first | refine blk_drewN ?_ _ | refine blk_drew ?_ | refine blk_alloc ?_ _)); exact BK204.out) hb)
                                         have n5_ := Aside0.mk (blk_below (g := gb214) (o := .cells #[.int .i64 x215000_5, .int .i64 x215001_5] 49 (0, 0)) (by (with_reducible repeat (first | refine blk_drewN ?_ _ | refine blk_drew ?_ | refine blk_alloc ?_ _)); exact BK214.out) hb)
                                         have n6_ := Aside0.mk (blk_below (g := gb218) (o := .cells #[.int .i64 t215, .int .i64 t216] 49 (0, 0)) (by (with_reducible repeat (first | refine blk_drewN ?_ _ | refine blk_drew ?_ | refine blk_alloc ?_ _)); exact BK218.out) hb)
                                         have n7_ := Aside0.mk (below_step (by repeat (first | (with_reducible first | exact HB.out | apply below_alloc | apply pw_below_drewN | apply below_drew1 | refine below_set ?_ GE188.out | refine below_set ?_ GE193.out | refine below_set ?_ GE196.out | refine below_set ?_ GE204.out | refine below_set ?_ GE214.out | refine below_set ?_ GE218.out) | exact HB.out)) hb)
                                         have n8_ := Aside0.mk (hbox)
                                         have n9_ := Aside0.mk ((by rw [hg]; exact (below_size (by repeat (first | (with_reducible first | exact HB.out | apply below_alloc | apply pw_below_drewN | apply below_drew1 | refine below_set ?_ GE188.out | refine below_set ?_ GE193.out | refine below_set ?_ GE196.out | refine below_set ?_ GE204.out | refine below_set ?_ GE214.out | refine below_set ?_ GE218.out) | exact HB.out))) : w.heap.size ≤ gb223))
                                         have n10_ := Aside0.mk ((by rw [hg]; exact (below_size (by repeat (first | (with_reducible first | exact HB.out | apply below_alloc | apply pw_below_drewN | apply below_drew1 | refine below_set ?_ GE188.out | refine below_set ?_ GE193.out | refine below_set ?_ GE196.out | refine below_set ?_ GE204.out | refine below_set ?_ GE214.out | refine below_set ?_ GE218.out) | exact HB.out))) : w.heap.size ≤ gb223))
                                         have n11_ := Aside0.mk ((by rw [hg]; exact Nat.ne_of_lt (blk_lt (g := gb188) (o := .cells #[.int .i64 t186, .int .i64 t187] 49 (0, 0)) (by (with_reducible repeat (first | refine blk_drewN ?_ _ | refine blk_drew ?_ | refine blk_alloc ?_ _)); exact BK188.out)) : gb188 ≠ gb223))
                                         have n12_ := Aside0.mk ((by rw [hg]; exact Nat.ne_of_gt (blk_lt (g := gb188) (o := .cells #[.int .i64 t186, .int .i64 t187] 49 (0, 0)) (by (with_reducible repeat (first | refine blk_drewN ?_ _ | refine blk_drew ?_ | refine blk_alloc ?_ _)); exact BK188.out)) : gb223 ≠ gb188))
                                         have n13_ := Aside0.mk ((by rw [hg]; exact Nat.ne_of_lt (blk_lt (g := gb193) (o := .cells #[.int .i64 t190, .int .i64 t191] 49 (0, 0)) (by (with_reducible repeat (first | refine blk_drewN ?_ _ | refine blk_drew ?_ | refine blk_alloc ?_ _)); exact BK193.out)) : gb193 ≠ gb223))
                                         have n14_ := Aside0.mk ((by rw [hg]; exact Nat.ne_of_gt (blk_lt (g := gb193) (o := .cells #[.int .i64 t190, .int .i64 t191] 49 (0, 0)) (by (with_reducible repeat (first | refine blk_drewN ?_ _ | refine blk_drew ?_ | refine blk_alloc ?_ _)); exact BK193.out)) : gb223 ≠ gb193))
                                         have n15_ := Aside0.mk ((by rw [hg]; exact Nat.ne_of_lt (blk_lt (g := gb196) (o := .cells #[.int .i64 x197000_2, .int .i64 x197001_2] 49 (0, 0)) (by (with_reducible repeat (first | refine blk_drewN ?_ _ | refine blk_drew ?_ | refine blk_alloc ?_ _)); exact BK196.out)) : gb196 ≠ gb223))
                                         have n16_ := Aside0.mk ((by rw [hg]; exact Nat.ne_of_gt (blk_lt (g := gb196) (o := .cells #[.int .i64 x197000_2, .int .i64 x197001_2] 49 (0, 0)) (by (with_reducible repeat (first | refine blk_drewN ?_ _ | refine blk_drew ?_ | refine blk_alloc ?_ _)); exact BK196.out)) : gb223 ≠ gb196))
                                         have n17_ := Aside0.mk ((by rw [hg]; exact Nat.ne_of_lt (blk_lt (g := gb204) (o := .cells #[.int .i64 t201, .int .i64 t202] 49 (0, 0)) (by (with_reducible repeat (first | refine blk_drewN ?_ _ | refine blk_drew ?_ | refine blk_alloc ?_ _)); exact BK204.out)) : gb204 ≠ gb223))
                                         have n18_ := Aside0.mk ((by rw [hg]; exact Nat.ne_of_gt (blk_lt (g := gb204) (o := .cells #[.int .i64 t201, .int .i64 t202] 49 (0, 0)) (by (with_reducible repeat (first | refine blk_drewN ?_ _ | refine blk_drew ?_ | refine blk_alloc ?_ _)); exact BK204.out)) : gb223 ≠ gb204))
                                         have n19_ := Aside0.mk ((by rw [hg]; exact Nat.ne_of_lt (blk_lt (g := gb214) (o := .cells #[.int .i64 x215000_5, .int .i64 x215001_5] 49 (0, 0)) (by (with_reducible repeat (first | refine blk_drewN ?_ _ | refine blk_drew ?_ | refine blk_alloc ?_ _)); exact BK214.out)) : gb214 ≠ gb223))
                                         have n20_ := Aside0.mk ((by rw [hg]; exact Nat.ne_of_gt (blk_lt (g := gb214) (o := .cells #[.int .i64 x215000_5, .int .i64 x215001_5] 49 (0, 0)) (by (with_reducible repeat (first | refine blk_drewN ?_ _ | refine blk_drew ?_ | refine blk_alloc ?_ _)); exact BK214.out)) : gb223 ≠ gb214))
                                         have n21_ := Aside0.mk ((by rw [hg]; exact Nat.ne_of_lt (blk_lt (g := gb218) (o := .cells #[.int .i64 t215, .int .i64 t216] 49 (0, 0)) (by (with_reducible repeat (first | refine blk_drewN ?_ _ | refine blk_drew ?_ | refine blk_alloc ?_ _)); exact BK218.out)) : gb218 ≠ gb223))
                                         have n22_ := Aside0.mk ((by rw [hg]; exact Nat.ne_of_gt (blk_lt (g := gb218) (o := .cells #[.int .i64 t215, .int .i64 t216] 49 (0, 0)) (by (with_reducible repeat (first | refine blk_drewN ?_ _ | refine blk_drew ?_ | refine blk_alloc ?_ _)); exact BK218.out)) : gb223 ≠ gb218))
                                         clear HO_14
                                         clear BK188
                                         clear BK193
                                         clear BK196
                                         clear BK204
                                         clear BK214
                                         clear BK218
                                         clear HB
                                         have HO_14 := n0_
                                         have BK188 := n1_
                                         have BK193 := n2_
                                         have BK196 := n3_
                                         have BK204 := n4_
                                         have BK214 := n5_
                                         have BK218 := n6_
                                         have HB := n7_
                                         have BK223 := n8_
                                         have GW223 := n9_
                                         have GE223 := n10_
                                         have NB188_223 := n11_
                                         have NB223_188 := n12_
                                         have NB193_223 := n13_
                                         have NB223_193 := n14_
                                         have NB196_223 := n15_
                                         have NB223_196 := n16_
                                         have NB204_223 := n17_
                                         have NB223_204 := n18_
                                         have NB214_223 := n19_
                                         have NB223_214 := n20_
                                         have NB218_223 := n21_
                                         have NB223_218 := n22_
                                         clear n0_ n1_ n2_ n3_ n4_ n5_ n6_ n7_ n8_ n9_ n10_ n11_ n12_ n13_ n14_ n15_ n16_ n17_ n18_ n19_ n20_ n21_ n22_
                                         clear hb hbox hg
                                         refine hK.out _ _ ⟨(blk_cell BK218.out 0).trans rfl, (blk_cell BK218.out 1).trans rfl, HS2_⟩ (fun hHeld => ?_)
                                         clear hK K
                                         refine norm_ (a' := ?_) ?_ ?_
                                         rotate_left
                                         · show Act.put _ (some 22) _ = _
                                           simp only [Act.put, List.setIfInBounds_toArray, List.set_cons_zero, List.set_cons_succ, i64_w, i32_w]
                                           rfl
                                         exact norm_ (by simp only [putAll, Act.put, List.setIfInBounds_toArray, List.set_cons_zero, List.set_cons_succ]) (hCont (gb223) _ ⟨hHeld, (by (with_reducible repeat (first | apply Kd.R_alloc | apply Kd.R_drewN | apply Kd.R_drew)); exact HO_14.out), (by (with_reducible repeat (first | refine blk_drewN ?_ _ | refine blk_drew ?_ | refine blk_alloc ?_ _)); exact BK188.out), (by (with_reducible repeat (first | refine blk_drewN ?_ _ | refine blk_drew ?_ | refine blk_alloc ?_ _)); exact BK193.out), (by (with_reducible repeat (first | refine blk_drewN ?_ _ | refine blk_drew ?_ | refine blk_alloc ?_ _)); exact BK196.out), (by (with_reducible repeat (first | refine blk_drewN ?_ _ | refine blk_drew ?_ | refine blk_alloc ?_ _)); exact BK204.out), (by (with_reducible repeat (first | refine blk_drewN ?_ _ | refine blk_drew ?_ | refine blk_alloc ?_ _)); exact BK214.out), (by (with_reducible repeat (first | refine blk_drewN ?_ _ | refine blk_drew ?_ | refine blk_alloc ?_ _)); exact BK218.out), (by (with_reducible repeat (first | refine blk_drewN ?_ _ | refine blk_drew ?_ | refine blk_alloc ?_ _)); exact BK223.out), GW223.out, GE223.out, NB188_223.out, NB223_188.out, NB193_223.out, NB223_193.out, NB196_223.out, NB223_196.out, NB204_223.out, NB223_204.out, NB214_223.out, NB223_214.out, NB218_223.out, NB223_218.out, (by repeat (first | (with_reducible first | exact HB.out | apply below_alloc | apply pw_below_drewN | apply below_drew1 | refine below_set ?_ GE188.out | refine below_set ?_ GE193.out | refine below_set ?_ GE196.out | refine below_set ?_ GE204.out | refine below_set ?_ GE214.out | refine below_set ?_ GE218.out | refine below_set ?_ GE223.out) | exact HB.out))⟩)
                                       · skip
                                         refine box_step ?hg (N := 22) ?hd (cs := #[.int .i64 0, .int .i64 0]) (t := 49) ?hr ?_; (case hd => rfl); (case hg => rfl); (case hr => first | (go_simp; done) | (go_simp; rfl))
                                         intro gb223 hg w138 hbox hb
                                         have HS2_ := (hb.cell (World.block_lt_of_cell? _ _ (hHeld.2.2))).trans (hHeld.2.2)
                                         have n0_ := Aside0.mk (Kd.R_below (by (with_reducible repeat (first | apply Kd.R_alloc | apply Kd.R_drewN | apply Kd.R_drew)); exact HO_14.out) hb)
                                         have n1_ := Aside0.mk (blk_below (g := gb188) (o := .cells #[.int .i64 t186, .int .i64 t187] 49 (0, 0)) (by (with_reducible repeat (first | refine blk_drewN ?_ _ | refine blk_drew ?_ | refine blk_alloc ?_ _)); exact BK188.out) hb)
                                         have n2_ := Aside0.mk (blk_below (g := gb193) (o := .cells #[.int .i64 t190, .int .i64 t191] 49 (0, 0)) (by (with_reducible repeat (first | refine blk_drewN ?_ _ | refine blk_drew ?_ | refine blk_alloc ?_ _)); exact BK193.out) hb)
                                         have n3_ := Aside0.mk (blk_below (g := gb196) (o := .cells #[.int .i64 x197000_2, .int .i64 x197001_2] 49 (0, 0)) (by (with_reducible repeat (first | refine blk_drewN ?_ _ | refine blk_drew ?_ | refine blk_alloc ?_ _)); exact BK196.out) hb)
                                         have n4_ := Aside0.mk (blk_below (g := gb204) (o := .cells #[.int .i64 t201, .int .i64 t202] 49 (0, 0)) (by (with_reducible repeat (first | refine blk_drewN ?_ _ | refine blk_drew ?_ | refine blk_alloc ?_ _)); exact BK204.out) hb)
                                         have n5_ := Aside0.mk (blk_below (g := gb214) (o := .cells #[.int .i64 x215000_5, .int .i64 x215001_5] 49 (0, 0)) (by (with_reducible repeat (first | refine blk_drewN ?_ _ | refine blk_drew ?_ | refine blk_alloc ?_ _)); exact BK214.out) hb)
                                         have n6_ := Aside0.mk (blk_below (g := gb218) (o := .cells #[.int .i64 t215, .int .i64 t216] 49 (0, 0)) (by (with_reducible repeat (first | refine blk_drewN ?_ _ | refine blk_drew ?_ | refine blk_alloc ?_ _)); exact BK218.out) hb)
                                         have n7_ := Aside0.mk (below_step (by repeat (first | (with_reducible first | exact HB.out | apply below_alloc | apply pw_below_drewN | apply below_drew1 | refine below_set ?_ GE188.out | refine below_set ?_ GE193.out | refine below_set ?_ GE196.out | refine below_set ?_ GE204.out | refine below_set ?_ GE214.out | refine below_set ?_ GE218.out) | exact HB.out)) hb)
                                         have n8_ := Aside0.mk (hbox)
                                         have n9_ := Aside0.mk ((by rw [hg]; exact (below_size (by repeat (first | (with_reducible first | exact HB.out | apply below_alloc | apply pw_below_drewN | apply below_drew1 | refine below_set ?_ GE188.out | refine below_set ?_ GE193.out | refine below_set ?_ GE196.out | refine below_set ?_ GE204.out | refine below_set ?_ GE214.out | refine below_set ?_ GE218.out) | exact HB.out))) : w.heap.size ≤ gb223))
                                         have n10_ := Aside0.mk ((by rw [hg]; exact (below_size (by repeat (first | (with_reducible first | exact HB.out | apply below_alloc | apply pw_below_drewN | apply below_drew1 | refine below_set ?_ GE188.out | refine below_set ?_ GE193.out | refine below_set ?_ GE196.out | refine below_set ?_ GE204.out | refine below_set ?_ GE214.out | refine below_set ?_ GE218.out) | exact HB.out))) : w.heap.size ≤ gb223))
                                         have n11_ := Aside0.mk ((by rw [hg]; exact Nat.ne_of_lt (blk_lt (g := gb188) (o := .cells #[.int .i64 t186, .int .i64 t187] 49 (0, 0)) (by (with_reducible repeat (first | refine blk_drewN ?_ _ | refine blk_drew ?_ | refine blk_alloc ?_ _)); exact BK188.out)) : gb188 ≠ gb223))
                                         have n12_ := Aside0.mk ((by rw [hg]; exact Nat.ne_of_gt (blk_lt (g := gb188) (o := .cells #[.int .i64 t186, .int .i64 t187] 49 (0, 0)) (by (with_reducible repeat (first | refine blk_drewN ?_ _ | refine blk_drew ?_ | refine blk_alloc ?_ _)); exact BK188.out)) : gb223 ≠ gb188))
                                         have n13_ := Aside0.mk ((by rw [hg]; exact Nat.ne_of_lt (blk_lt (g := gb193) (o := .cells #[.int .i64 t190, .int .i64 t191] 49 (0, 0)) (by (with_reducible repeat (first | refine blk_drewN ?_ _ | refine blk_drew ?_ | refine blk_alloc ?_ _)); exact BK193.out)) : gb193 ≠ gb223))
                                         have n14_ := Aside0.mk ((by rw [hg]; exact Nat.ne_of_gt (blk_lt (g := gb193) (o := .cells #[.int .i64 t190, .int .i64 t191] 49 (0, 0)) (by (with_reducible repeat (first | refine blk_drewN ?_ _ | refine blk_drew ?_ | refine blk_alloc ?_ _)); exact BK193.out)) : gb223 ≠ gb193))
                                         have n15_ := Aside0.mk ((by rw [hg]; exact Nat.ne_of_lt (blk_lt (g := gb196) (o := .cells #[.int .i64 x197000_2, .int .i64 x197001_2] 49 (0, 0)) (by (with_reducible repeat (first | refine blk_drewN ?_ _ | refine blk_drew ?_ | refine blk_alloc ?_ _)); exact BK196.out)) : gb196 ≠ gb223))
                                         have n16_ := Aside0.mk ((by rw [hg]; exact Nat.ne_of_gt (blk_lt (g := gb196) (o := .cells #[.int .i64 x197000_2, .int .i64 x197001_2] 49 (0, 0)) (by (with_reducible repeat (first | refine blk_drewN ?_ _ | refine blk_drew ?_ | refine blk_alloc ?_ _)); exact BK196.out)) : gb223 ≠ gb196))
                                         have n17_ := Aside0.mk ((by rw [hg]; exact Nat.ne_of_lt (blk_lt (g := gb204) (o := .cells #[.int .i64 t201, .int .i64 t202] 49 (0, 0)) (by (with_reducible repeat (first | refine blk_drewN ?_ _ | refine blk_drew ?_ | refine blk_alloc ?_ _)); exact BK204.out)) : gb204 ≠ gb223))
                                         have n18_ := Aside0.mk ((by rw [hg]; exact Nat.ne_of_gt (blk_lt (g := gb204) (o := .cells #[.int .i64 t201, .int .i64 t202] 49 (0, 0)) (by (with_reducible repeat (first | refine blk_drewN ?_ _ | refine blk_drew ?_ | refine blk_alloc ?_ _)); exact BK204.out)) : gb223 ≠ gb204))
                                         have n19_ := Aside0.mk ((by rw [hg]; exact Nat.ne_of_lt (blk_lt (g := gb214) (o := .cells #[.int .i64 x215000_5, .int .i64 x215001_5] 49 (0, 0)) (by (with_reducible repeat (first | refine blk_drewN ?_ _ | refine blk_drew ?_ | refine blk_alloc ?_ _)); exact BK214.out)) : gb214 ≠ gb223))
                                         have n20_ := Aside0.mk ((by rw [hg]; exact Nat.ne_of_gt (blk_lt (g := gb214) (o := .cells #[.int .i64 x215000_5, .int .i64 x215001_5] 49 (0, 0)) (by (with_reducible repeat (first | refine blk_drewN ?_ _ | refine blk_drew ?_ | refine blk_alloc ?_ _)); exact BK214.out)) : gb223 ≠ gb214))
                                         have n21_ := Aside0.mk ((by rw [hg]; exact Nat.ne_of_lt (blk_lt (g := gb218) (o := .cells #[.int .i64 t215, .int .i64 t216] 49 (0, 0)) (by (with_reducible repeat (first | refine blk_drewN ?_ _ | refine blk_drew ?_ | refine blk_alloc ?_ _)); exact BK218.out)) : gb218 ≠ gb223))
                                         have n22_ := Aside0.mk ((by rw [hg]; exact Nat.ne_of_gt (blk_lt (g := gb218) (o := .cells #[.int .i64 t215, .int .i64 t216] 49 (0, 0)) (by (with_reducible repeat (first | refine blk_drewN ?_ _ | refine blk_drew ?_ | refine blk_alloc ?_ _)); exact BK218.out)) : gb223 ≠ gb218))
                                         clear HO_14
                                         clear BK188
                                         clear BK193
                                         clear BK196
                                         clear BK204
                                         clear BK214
                                         clear BK218
                                         clear HB
                                         have HO_14 := n0_
                                         have BK188 := n1_
                                         have BK193 := n2_
                                         have BK196 := n3_
                                         have BK204 := n4_
                                         have BK214 := n5_
                                         have BK218 := n6_
                                         have HB := n7_
                                         have BK223 := n8_
                                         have GW223 := n9_
                                         have GE223 := n10_
                                         have NB188_223 := n11_
                                         have NB223_188 := n12_
                                         have NB193_223 := n13_
                                         have NB223_193 := n14_
                                         have NB196_223 := n15_
                                         have NB223_196 := n16_
                                         have NB204_223 := n17_
                                         have NB223_204 := n18_
                                         have NB214_223 := n19_
                                         have NB223_214 := n20_
                                         have NB218_223 := n21_
                                         have NB223_218 := n22_
                                         clear n0_ n1_ n2_ n3_ n4_ n5_ n6_ n7_ n8_ n9_ n10_ n11_ n12_ n13_ n14_ n15_ n16_ n17_ n18_ n19_ n20_ n21_ n22_
                                         clear hb hbox hg
                                         refine hK.out _ _ ⟨(blk_cell BK218.out 0).trans rfl, (blk_cell BK218.out 1).trans rfl, HS2_⟩ (fun hHeld => ?_)
                                         clear hK K
                                         refine norm_ (a' := ?_) ?_ ?_
                                         rotate_left
                                         · show Act.put _ (some 22) _ = _
                                           simp only [Act.put, List.setIfInBounds_toArray, List.set_cons_zero, List.set_cons_succ, i64_w, i32_w]
                                           rfl
                                         refine one_ (i := 5) (N := some 160) #[true, true, true, true, true, true, false, false, false, true, false, false] rfl rfl (one_of HT_.out (by kernel_rfl)) (by decide) (fun K hK => ?_)
                                         refine goes_ Try.func40 (by kernel_rfl) rfl #[.agg #[.int .i64 t215, .int .i64 t216], .int .i64 (rd y208 x19_5), .int .i64 1] (by rfl) rfl rfl (by (try simp only [List.map_toArray, List.map_cons, List.map_nil]); first | done | rfl | (simp only [List.length_drop, List.length_take]; rfl)) ?_
                                         with_reducible refine (spec_TakeLeaven.calls t215 t216 (rd y208 x19_5) 1 t220 t221 t222 _ A93.out).mono ?_
                                         rintro e w139 ⟨rfl, hb⟩
                                         have HS2_ := (hb.cell (World.block_lt_of_cell? _ _ (hHeld.2.2))).trans (hHeld.2.2)
                                         refine ⟨_, rfl, ?_⟩
                                         have n0_ := Aside0.mk (Kd.R_below (by (with_reducible repeat (first | apply Kd.R_alloc | apply Kd.R_drewN | apply Kd.R_drew)); exact HO_14.out) hb)
                                         have n1_ := Aside0.mk (blk_below (g := gb188) (o := .cells #[.int .i64 t186, .int .i64 t187] 49 (0, 0)) (by (with_reducible repeat (first | refine blk_drewN ?_ _ | refine blk_drew ?_ | refine blk_alloc ?_ _)); exact BK188.out) hb)
                                         have n2_ := Aside0.mk (blk_below (g := gb193) (o := .cells #[.int .i64 t190, .int .i64 t191] 49 (0, 0)) (by (with_reducible repeat (first | refine blk_drewN ?_ _ | refine blk_drew ?_ | refine blk_alloc ?_ _)); exact BK193.out) hb)
                                         have n3_ := Aside0.mk (blk_below (g := gb196) (o := .cells #[.int .i64 x197000_2, .int .i64 x197001_2] 49 (0, 0)) (by (with_reducible repeat (first | refine blk_drewN ?_ _ | refine blk_drew ?_ | refine blk_alloc ?_ _)); exact BK196.out) hb)
                                         have n4_ := Aside0.mk (blk_below (g := gb204) (o := .cells #[.int .i64 t201, .int .i64 t202] 49 (0, 0)) (by (with_reducible repeat (first | refine blk_drewN ?_ _ | refine blk_drew ?_ | refine blk_alloc ?_ _)); exact BK204.out) hb)
                                         have n5_ := Aside0.mk (blk_below (g := gb214) (o := .cells #[.int .i64 x215000_5, .int .i64 x215001_5] 49 (0, 0)) (by (with_reducible repeat (first | refine blk_drewN ?_ _ | refine blk_drew ?_ | refine blk_alloc ?_ _)); exact BK214.out) hb)
                                         have n6_ := Aside0.mk (blk_below (g := gb218) (o := .cells #[.int .i64 t215, .int .i64 t216] 49 (0, 0)) (by (with_reducible repeat (first | refine blk_drewN ?_ _ | refine blk_drew ?_ | refine blk_alloc ?_ _)); exact BK218.out) hb)
                                         have n7_ := Aside0.mk (blk_below (g := gb223) (o := .cells #[.int .i64 0, .int .i64 0] 49 (0, 0)) (by (with_reducible repeat (first | refine blk_drewN ?_ _ | refine blk_drew ?_ | refine blk_alloc ?_ _)); exact BK223.out) hb)
                                         have n8_ := Aside0.mk (below_step (by repeat (first | (with_reducible first | exact HB.out | apply below_alloc | apply pw_below_drewN | apply below_drew1 | refine below_set ?_ GE188.out | refine below_set ?_ GE193.out | refine below_set ?_ GE196.out | refine below_set ?_ GE204.out | refine below_set ?_ GE214.out | refine below_set ?_ GE218.out | refine below_set ?_ GE223.out) | exact HB.out)) hb)
                                         clear HO_14
                                         clear BK188
                                         clear BK193
                                         clear BK196
                                         clear BK204
                                         clear BK214
                                         clear BK218
                                         clear BK223
                                         clear HB
                                         have HO_14 := n0_
                                         have BK188 := n1_
                                         have BK193 := n2_
                                         have BK196 := n3_
                                         have BK204 := n4_
                                         have BK214 := n5_
                                         have BK218 := n6_
                                         have BK223 := n7_
                                         have HB := n8_
                                         clear n0_ n1_ n2_ n3_ n4_ n5_ n6_ n7_ n8_
                                         (try clear hb)
                                         (try clear hb2)
                                         (try clear hk)
                                         (try clear hi)
                                         refine hK.out _ _ ⟨(blk_cell BK218.out 0).trans rfl, (blk_cell BK218.out 1).trans rfl, HS2_⟩ (fun hHeld => ?_)
                                         clear hK K
                                         refine norm_ (a' := ?_) ?_ ?_
                                         rotate_left
                                         · show Act.put _ (some 160) _ = _
                                           simp only [Act.put, List.setIfInBounds_toArray, List.set_cons_zero, List.set_cons_succ, i64_w, i32_w]
                                           rfl
                                         refine pure_ (i := 6) (N := some 154) (v := ?_) (a' := ?_) #[true, true, true, true, true, true, true, false, false, true, false, false] rfl rfl (any_of HT_.out (by kernel_rfl)) (fun _ _ _ h => h) (Or.inl ⟨by rfl, ?_⟩) ?_ ?_
                                         rotate_left
                                         · intro w'
                                           go_simp
                                           with_reducible rfl
                                         rotate_left
                                         · simp only [Act.put, List.setIfInBounds_toArray, List.set_cons_zero, List.set_cons_succ, i64_w, i32_w]
                                           rfl
                                         refine pure_ (i := 7) (N := some 161) (v := ?_) (a' := ?_) #[true, true, true, true, true, true, true, true, false, true, false, false] rfl rfl (any_of HT_.out (by kernel_rfl)) (fun _ _ _ h => h) (Or.inl ⟨by rfl, ?_⟩) ?_ ?_
                                         rotate_left
                                         · intro w'
                                           go_simp
                                           with_reducible rfl
                                         rotate_left
                                         · simp only [Act.put, List.setIfInBounds_toArray, List.set_cons_zero, List.set_cons_succ, i64_w, i32_w]
                                           rfl
                                         refine pure_ (i := 8) (N := some 162) (v := ?_) (a' := ?_) #[true, true, true, true, true, true, true, true, true, true, false, false] rfl rfl (any_of HT_.out (by kernel_rfl)) (fun _ _ _ h => h) (Or.inl ⟨by rfl, ?_⟩) ?_ ?_
                                         rotate_left
                                         · intro w'
                                           go_simp
                                           with_reducible rfl
                                         rotate_left
                                         · simp only [Act.put, List.setIfInBounds_toArray, List.set_cons_zero, List.set_cons_succ, i64_w, i32_w]
                                           rfl
                                         exact norm_ (by simp only [putAll, Act.put, List.setIfInBounds_toArray, List.set_cons_zero, List.set_cons_succ]) (hCont (gb223) _ ⟨hHeld, (by (with_reducible repeat (first | apply Kd.R_alloc | apply Kd.R_drewN | apply Kd.R_drew)); exact HO_14.out), (by (with_reducible repeat (first | refine blk_drewN ?_ _ | refine blk_drew ?_ | refine blk_alloc ?_ _)); exact BK188.out), (by (with_reducible repeat (first | refine blk_drewN ?_ _ | refine blk_drew ?_ | refine blk_alloc ?_ _)); exact BK193.out), (by (with_reducible repeat (first | refine blk_drewN ?_ _ | refine blk_drew ?_ | refine blk_alloc ?_ _)); exact BK196.out), (by (with_reducible repeat (first | refine blk_drewN ?_ _ | refine blk_drew ?_ | refine blk_alloc ?_ _)); exact BK204.out), (by (with_reducible repeat (first | refine blk_drewN ?_ _ | refine blk_drew ?_ | refine blk_alloc ?_ _)); exact BK214.out), (by (with_reducible repeat (first | refine blk_drewN ?_ _ | refine blk_drew ?_ | refine blk_alloc ?_ _)); exact BK218.out), (by (with_reducible repeat (first | refine blk_drewN ?_ _ | refine blk_drew ?_ | refine blk_alloc ?_ _)); exact BK223.out), GW223.out, GE223.out, NB188_223.out, NB223_188.out, NB193_223.out, NB223_193.out, NB196_223.out, NB223_196.out, NB204_223.out, NB223_204.out, NB214_223.out, NB223_214.out, NB218_223.out, NB223_218.out, (by repeat (first | (with_reducible first | exact HB.out | apply below_alloc | apply pw_below_drewN | apply below_drew1 | refine below_set ?_ GE188.out | refine below_set ?_ GE193.out | refine below_set ?_ GE196.out | refine below_set ?_ GE204.out | refine below_set ?_ GE214.out | refine below_set ?_ GE218.out | refine below_set ?_ GE223.out) | exact HB.out))⟩)
                                     rintro gb223 w140 ⟨hS_, h0_, h1_, h2_, h3_, h4_, h5_, h6_, h7_, h8_, h9_, h10_, h11_, h12_, h13_, h14_, h15_, h16_, h17_, h18_, h19_, h20_, h21_, h22_⟩
                                     have n0_ : Aside0 (Kd.R (Kd.int .i64) 3 w140 w.heap.size (fun _ => True) (.slice (some ad219) y208.length co78) y208) := ⟨h0_⟩
                                     have n1_ : Aside0 (w140.heap[gb188]? = some (.cells #[.int .i64 t186, .int .i64 t187] 49 (0, 0))) := ⟨h1_⟩
                                     have n2_ : Aside0 (w140.heap[gb193]? = some (.cells #[.int .i64 t190, .int .i64 t191] 49 (0, 0))) := ⟨h2_⟩
                                     have n3_ : Aside0 (w140.heap[gb196]? = some (.cells #[.int .i64 x197000_2, .int .i64 x197001_2] 49 (0, 0))) := ⟨h3_⟩
                                     have n4_ : Aside0 (w140.heap[gb204]? = some (.cells #[.int .i64 t201, .int .i64 t202] 49 (0, 0))) := ⟨h4_⟩
                                     have n5_ : Aside0 (w140.heap[gb214]? = some (.cells #[.int .i64 x215000_5, .int .i64 x215001_5] 49 (0, 0))) := ⟨h5_⟩
                                     have n6_ : Aside0 (w140.heap[gb218]? = some (.cells #[.int .i64 t215, .int .i64 t216] 49 (0, 0))) := ⟨h6_⟩
                                     have n7_ : Aside0 (w140.heap[gb223]? = some (.cells #[.int .i64 0, .int .i64 0] 49 (0, 0))) := ⟨h7_⟩
                                     have n8_ : Aside0 (w.heap.size ≤ gb223) := ⟨h8_⟩
                                     have n9_ : Aside0 (w.heap.size ≤ gb223) := ⟨h9_⟩
                                     have n10_ : Aside0 (gb188 ≠ gb223) := ⟨h10_⟩
                                     have n11_ : Aside0 (gb223 ≠ gb188) := ⟨h11_⟩
                                     have n12_ : Aside0 (gb193 ≠ gb223) := ⟨h12_⟩
                                     have n13_ : Aside0 (gb223 ≠ gb193) := ⟨h13_⟩
                                     have n14_ : Aside0 (gb196 ≠ gb223) := ⟨h14_⟩
                                     have n15_ : Aside0 (gb223 ≠ gb196) := ⟨h15_⟩
                                     have n16_ : Aside0 (gb204 ≠ gb223) := ⟨h16_⟩
                                     have n17_ : Aside0 (gb223 ≠ gb204) := ⟨h17_⟩
                                     have n18_ : Aside0 (gb214 ≠ gb223) := ⟨h18_⟩
                                     have n19_ : Aside0 (gb223 ≠ gb214) := ⟨h19_⟩
                                     have n20_ : Aside0 (gb218 ≠ gb223) := ⟨h20_⟩
                                     have n21_ : Aside0 (gb223 ≠ gb218) := ⟨h21_⟩
                                     have n22_ : Aside0 (Below w.heap.size w w140) := ⟨h22_⟩
                                     clear HO_14
                                     clear BK188
                                     clear BK193
                                     clear BK196
                                     clear BK204
                                     clear BK214
                                     clear BK218
                                     clear HB
                                     clear h0_ h1_ h2_ h3_ h4_ h5_ h6_ h7_ h8_ h9_ h10_ h11_ h12_ h13_ h14_ h15_ h16_ h17_ h18_ h19_ h20_ h21_ h22_
                                     have HO_14 := n0_
                                     have BK188 := n1_
                                     have BK193 := n2_
                                     have BK196 := n3_
                                     have BK204 := n4_
                                     have BK214 := n5_
                                     have BK218 := n6_
                                     have BK223 := n7_
                                     have GW223 := n8_
                                     have GE223 := n9_
                                     have NB188_223 := n10_
                                     have NB223_188 := n11_
                                     have NB193_223 := n12_
                                     have NB223_193 := n13_
                                     have NB196_223 := n14_
                                     have NB223_196 := n15_
                                     have NB204_223 := n16_
                                     have NB223_204 := n17_
                                     have NB214_223 := n18_
                                     have NB223_214 := n19_
                                     have NB218_223 := n20_
                                     have NB223_218 := n21_
                                     have HB := n22_
                                     clear n0_ n1_ n2_ n3_ n4_ n5_ n6_ n7_ n8_ n9_ n10_ n11_ n12_ n13_ n14_ n15_ n16_ n17_ n18_ n19_ n20_ n21_ n22_
                                     have hHeld : w140.cell? ⟨gb218, 0, none⟩ = some (.int .i64 t215) ∧ w140.cell? ⟨gb218, 1, none⟩ = some (.int .i64 t216) ∧ w140.cell? (ad219.add (x19_5).toNat) = some (.int .i64 (rd y208 x19_5)) := hS_
                                     refine norm_ (a' := ?_) ?_ ?_
                                     rotate_left
                                     · simp only [putAll, Act.put, List.setIfInBounds_toArray, List.set_cons_zero, List.set_cons_succ]
                                       rfl
                                     refine one_ (i := 10) (N := none) #[true, true, true, true, true, true, true, true, true, true, true, false] rfl rfl (one_of HT_.out (by kernel_rfl)) (by decide) (fun K hK => ?_)
                                     have hs141 : w140.cell? ⟨gb223, 0, none⟩ = some (.int .i64 0) := (blk_cell BK223.out 0).trans rfl
                                     have hfs141 := blk_frozen BK223.out 0
                                     have hns141_0 := NB188_223.out
                                     have hns141_1 := NB193_223.out
                                     have hns141_2 := NB196_223.out
                                     have hns141_3 := NB204_223.out
                                     have hns141_4 := NB214_223.out
                                     have hns141_5 := NB218_223.out
                                     have hms141_0 := NB223_188.out
                                     have hms141_1 := NB223_193.out
                                     have hms141_2 := NB223_196.out
                                     have hms141_3 := NB223_204.out
                                     have hms141_4 := NB223_214.out
                                     have hms141_5 := NB223_218.out
                                     have hs142 : w140.cell? ⟨gb223, 1, none⟩ = some (.int .i64 0) := (blk_cell BK223.out 1).trans rfl
                                     have hfs142 := blk_frozen BK223.out 1
                                     have hns142_0 := NB188_223.out
                                     have hns142_1 := NB193_223.out
                                     have hns142_2 := NB196_223.out
                                     have hns142_3 := NB204_223.out
                                     have hns142_4 := NB214_223.out
                                     have hns142_5 := NB218_223.out
                                     have hms142_0 := NB223_188.out
                                     have hms142_1 := NB223_193.out
                                     have hms142_2 := NB223_196.out
                                     have hms142_3 := NB223_204.out
                                     have hms142_4 := NB223_214.out
                                     have hms142_5 := NB223_218.out
                                     refine skip_ (w1 := ?_) (by rfl) rfl ?_ ?_
                                     rotate_left
                                     · go_simp
                                       rfl
                                     refine hK.out _ _ ⟨((cell_far (p := ⟨gb223, _, none⟩) NB218_223.out _).trans (((cell_far (p := ⟨gb223, _, none⟩) NB218_223.out _).trans (hHeld.1)))), ((cell_far (p := ⟨gb223, _, none⟩) NB218_223.out _).trans (((cell_far (p := ⟨gb223, _, none⟩) NB218_223.out _).trans (hHeld.2.1)))), ((cell_far (p := ⟨gb223, _, none⟩) (by first | exact Kd.own_blk (Kd.R_ne HO_14.out BK223.out (by decide)) | (rw [add_block]; exact Kd.own_blk (Kd.R_ne HO_14.out BK223.out (by decide))) | (show (Addr.add _ _).block ≠ _; rw [add_block]; exact Kd.own_blk (Kd.R_ne HO_14.out BK223.out (by decide))) | (dsimp only; exact Kd.own_blk (Kd.R_ne HO_14.out BK223.out (by decide)))) _).trans (((cell_far (p := ⟨gb223, _, none⟩) (by first | exact Kd.own_blk (Kd.R_ne HO_14.out BK223.out (by decide)) | (rw [add_block]; exact Kd.own_blk (Kd.R_ne HO_14.out BK223.out (by decide))) | (show (Addr.add _ _).block ≠ _; rw [add_block]; exact Kd.own_blk (Kd.R_ne HO_14.out BK223.out (by decide))) | (dsimp only; exact Kd.own_blk (Kd.R_ne HO_14.out BK223.out (by decide)))) _).trans (hHeld.2.2))))⟩ (fun hHeld => ?_)
                                     clear hK K
                                     refine pure_ (i := 11) (N := some 23) (v := ?_) (a' := ?_) #[true, true, true, true, true, true, true, true, true, true, true, true] rfl rfl (any_of HT_.out (by kernel_rfl)) (fun _ _ _ h => h) (Or.inl ⟨by rfl, ?_⟩) ?_ ?_
                                     rotate_left
                                     · intro w'
                                       go_simp
                                       with_reducible rfl
                                     rotate_left
                                     · simp only [Act.put, List.setIfInBounds_toArray, List.set_cons_zero, List.set_cons_succ, i64_w, i32_w]
                                       rfl
                                     refine done_ (done_of HT_.out (by kernel_rfl)) ?_
                                     have hnb143 := NB223_188.out
                                     have hnc143 := NB188_223.out
                                     have hnb144 := NB223_193.out
                                     have hnc144 := NB193_223.out
                                     have hnb145 := NB223_196.out
                                     have hnc145 := NB196_223.out
                                     have hnb146 := NB223_204.out
                                     have hnc146 := NB204_223.out
                                     have hnb147 := NB223_214.out
                                     have hnc147 := NB214_223.out
                                     have hnb148 := NB223_218.out
                                     have hnc148 := NB218_223.out
                                     have hcz149_0 : w140.cell? ⟨gb223, 0, none⟩ = some (.int .i64 0) := (blk_cell BK223.out 0).trans rfl
                                     have hcz149_1 : w140.cell? ⟨gb223, 1, none⟩ = some (.int .i64 0) := (blk_cell BK223.out 1).trans rfl
                                     have hfz149_0 := blk_frozen BK223.out 0
                                     have hfz149_1 := blk_frozen BK223.out 1
                                     have hcz150_0 : w140.cell? ⟨gb214, 0, none⟩ = some (.int .i64 x215000_5) := (blk_cell BK214.out 0).trans rfl
                                     have hcz150_1 : w140.cell? ⟨gb214, 1, none⟩ = some (.int .i64 x215001_5) := (blk_cell BK214.out 1).trans rfl
                                     have hfz150_0 := blk_frozen BK214.out 0
                                     have hfz150_1 := blk_frozen BK214.out 1
                                     try go_wp2
                                     go_roundg kj86
                                     case measure => have := HJ8.out; have := HK2.out; have := HJ43.out; have := HK4.out; have := HK5.out; have := HJ86.out; omega
                                     case rel => exact ⟨(false), (wrap64 (x19_5 + 1)), (t220), (t221), (by first | rfl | (simp; done) | (simp [*]; done)), (by first | rfl | (simp; done) | (simp [*]; done)), H', ⟨by have := HJ8.out; have := HK2.out; have := HJ43.out; have := HK4.out; have := HK5.out; have := HJ86.out; omega⟩, ⟨by (with_reducible repeat (first | apply Kd.R_alloc | apply Kd.R_drewN | apply Kd.R_drew)); exact Kd.R_mono (Kd.R_far (p := ⟨gb214, 1, none⟩) (Kd.R_far (p := ⟨gb214, 0, none⟩) (Kd.R_far (p := ⟨gb223, 1, none⟩) (Kd.R_far (p := ⟨gb223, 0, none⟩) (Kd.R_types (Kd.R_types HO_14.out BK223.out (by decide)) BK214.out (by decide)) (fun _ hk => hk.1.2) (.int .i64 t220)) (fun _ hk => hk.1.2) (.int .i64 t221)) (fun _ hk => hk.2) (.int .i64 t220)) (fun _ hk => hk.2) (.int .i64 t221)) (fun _ hk => trivial)⟩, ⟨by (with_reducible repeat (first | refine blk_drewN ?_ _ | refine blk_drew ?_ | refine blk_alloc ?_ _)); refine blk_far ?_ NB188_214.out _; (with_reducible repeat (first | refine blk_drewN ?_ _ | refine blk_drew ?_ | refine blk_alloc ?_ _)); refine blk_far ?_ NB188_214.out _; (with_reducible repeat (first | refine blk_drewN ?_ _ | refine blk_drew ?_ | refine blk_alloc ?_ _)); refine blk_far ?_ NB188_223.out _; (with_reducible repeat (first | refine blk_drewN ?_ _ | refine blk_drew ?_ | refine blk_alloc ?_ _)); refine blk_far ?_ NB188_223.out _; (with_reducible repeat (first | refine blk_drewN ?_ _ | refine blk_drew ?_ | refine blk_alloc ?_ _)); exact BK188.out⟩, ⟨by (with_reducible repeat (first | refine blk_drewN ?_ _ | refine blk_drew ?_ | refine blk_alloc ?_ _)); refine blk_far ?_ NB193_214.out _; (with_reducible repeat (first | refine blk_drewN ?_ _ | refine blk_drew ?_ | refine blk_alloc ?_ _)); refine blk_far ?_ NB193_214.out _; (with_reducible repeat (first | refine blk_drewN ?_ _ | refine blk_drew ?_ | refine blk_alloc ?_ _)); refine blk_far ?_ NB193_223.out _; (with_reducible repeat (first | refine blk_drewN ?_ _ | refine blk_drew ?_ | refine blk_alloc ?_ _)); refine blk_far ?_ NB193_223.out _; (with_reducible repeat (first | refine blk_drewN ?_ _ | refine blk_drew ?_ | refine blk_alloc ?_ _)); exact BK193.out⟩, ⟨by (with_reducible repeat (first | refine blk_drewN ?_ _ | refine blk_drew ?_ | refine blk_alloc ?_ _)); refine blk_far ?_ NB196_214.out _; (with_reducible repeat (first | refine blk_drewN ?_ _ | refine blk_drew ?_ | refine blk_alloc ?_ _)); refine blk_far ?_ NB196_214.out _; (with_reducible repeat (first | refine blk_drewN ?_ _ | refine blk_drew ?_ | refine blk_alloc ?_ _)); refine blk_far ?_ NB196_223.out _; (with_reducible repeat (first | refine blk_drewN ?_ _ | refine blk_drew ?_ | refine blk_alloc ?_ _)); refine blk_far ?_ NB196_223.out _; (with_reducible repeat (first | refine blk_drewN ?_ _ | refine blk_drew ?_ | refine blk_alloc ?_ _)); exact BK196.out⟩, ⟨by (with_reducible repeat (first | refine blk_drewN ?_ _ | refine blk_drew ?_ | refine blk_alloc ?_ _)); refine blk_far ?_ NB204_214.out _; (with_reducible repeat (first | refine blk_drewN ?_ _ | refine blk_drew ?_ | refine blk_alloc ?_ _)); refine blk_far ?_ NB204_214.out _; (with_reducible repeat (first | refine blk_drewN ?_ _ | refine blk_drew ?_ | refine blk_alloc ?_ _)); refine blk_far ?_ NB204_223.out _; (with_reducible repeat (first | refine blk_drewN ?_ _ | refine blk_drew ?_ | refine blk_alloc ?_ _)); refine blk_far ?_ NB204_223.out _; (with_reducible repeat (first | refine blk_drewN ?_ _ | refine blk_drew ?_ | refine blk_alloc ?_ _)); exact BK204.out⟩, ⟨by (with_reducible repeat (first | refine blk_drewN ?_ _ | refine blk_drew ?_ | refine blk_alloc ?_ _)); refine blk_put (cs := #[.int .i64 t220, .int .i64 x215001_5]) ?_ 1 _ rfl; (with_reducible repeat (first | refine blk_drewN ?_ _ | refine blk_drew ?_ | refine blk_alloc ?_ _)); refine blk_put (cs := #[.int .i64 x215000_5, .int .i64 x215001_5]) ?_ 0 _ rfl; (with_reducible repeat (first | refine blk_drewN ?_ _ | refine blk_drew ?_ | refine blk_alloc ?_ _)); refine blk_far ?_ NB214_223.out _; (with_reducible repeat (first | refine blk_drewN ?_ _ | refine blk_drew ?_ | refine blk_alloc ?_ _)); refine blk_far ?_ NB214_223.out _; (with_reducible repeat (first | refine blk_drewN ?_ _ | refine blk_drew ?_ | refine blk_alloc ?_ _)); exact BK214.out⟩, ⟨by repeat (first | (with_reducible first | exact HB.out | apply below_alloc | apply pw_below_drewN | apply below_drew1 | refine below_set ?_ GE188.out | refine below_set ?_ GE193.out | refine below_set ?_ GE196.out | refine below_set ?_ GE204.out | refine below_set ?_ GE214.out | refine below_set ?_ GE218.out | refine below_set ?_ GE223.out) | exact HB.out)⟩⟩
                                 · rw [if_neg c92] at H
                                   exact absurd H (by simp)
                               · rw [if_neg c91] at H
                                 exact absurd H (by simp)
                             · replace c89 := Bool.eq_false_iff.mpr c89
                               subst c89
                               have H1 : (if (x18_5 != (x16_4 == 0)) = true then (some false) else (laws_FnLeavens.l1 kj86 (wrap64 (1 + (Int.tmod t189 4))) y208 t211 (wrap64 (x16_4 + 1)) t186 t187)) = some true := by rw [if_neg (show ¬ (false = true) by decide)] at H; exact H
                               clear H
                               have H := H1
                               clear H1
                               by_cases c151 : (x18_5 != (x16_4 == 0)) = true
                               · rw [if_pos c151] at H
                                 have c151b0 : (x18_5 != (x16_4 == 0)) = true := c151
                                 (try (have c151b1 : decide (x18_5 = (x16_4 == 0)) = false := by simpa using c151))
                                 (try (have c151b2 : (x18_5 == (x16_4 == 0)) = false := by simpa using c151))
                                 (try (have c151b3 : ¬ (x18_5 = (x16_4 == 0)) := by simpa using c151))
                                 clear c151
                                 exact absurd H (by simp)
                               · rw [if_neg c151] at H
                                 have c151b0 : (x18_5 != (x16_4 == 0)) = false := by simpa using c151
                                 (try (have c151b1 : decide (x18_5 = (x16_4 == 0)) = true := by simpa using c151))
                                 (try (have c151b2 : (x18_5 == (x16_4 == 0)) = true := by simpa using c151))
                                 clear c151
                                 have H' := Aside0.mk H
                                 clear H
                                 go_wp2
                                 go_roundg kj86
                                 case measure => have := HJ8.out; have := HK2.out; have := HJ43.out; have := HK4.out; have := HK5.out; have := HJ86.out; omega
                                 case rel => exact ⟨(wrap64 (x16_4 + 1)), (by first | rfl | (simp; done) | (simp [*]; done)), H', ⟨by have := HJ8.out; have := HK2.out; have := HJ43.out; have := HK4.out; have := HK5.out; have := HJ86.out; omega⟩, ⟨by (with_reducible repeat (first | apply Kd.R_alloc | apply Kd.R_drewN | apply Kd.R_drew)); exact HO_14.out⟩, ⟨by (with_reducible repeat (first | refine blk_drewN ?_ _ | refine blk_drew ?_ | refine blk_alloc ?_ _)); exact BK188.out⟩, ⟨by (with_reducible repeat (first | refine blk_drewN ?_ _ | refine blk_drew ?_ | refine blk_alloc ?_ _)); exact BK193.out⟩, ⟨by (with_reducible repeat (first | refine blk_drewN ?_ _ | refine blk_drew ?_ | refine blk_alloc ?_ _)); exact BK196.out⟩, ⟨by (with_reducible repeat (first | refine blk_drewN ?_ _ | refine blk_drew ?_ | refine blk_alloc ?_ _)); exact BK204.out⟩, ⟨by repeat (first | (with_reducible first | exact HB.out | apply below_alloc | apply pw_below_drewN | apply below_drew1 | refine below_set ?_ GE188.out | refine below_set ?_ GE193.out | refine below_set ?_ GE196.out | refine below_set ?_ GE204.out | refine below_set ?_ GE214.out) | exact HB.out)⟩⟩
                       · rw [if_neg c80] at H
                         have c80b0 : decide (x16_4 ≤ 1) = false := decide_eq_false c80
                         clear c80
                         replace H := Option.bind_eq_some_iff.mp H
                         obtain ⟨t212, A1520, H⟩ := H
                         replace H : (if t212 = true then ((impl_KeepForDays.f k4 ([] : List Int) 2).bind fun t213 => (some (t213 == 0))) else (some false)) = some true := H
                         have A152 := Aside0.mk A1520
                         clear A1520
                         by_cases c153 : t212 = true
                         · subst c153
                           have H1 : ((impl_KeepForDays.f k4 ([] : List Int) 2).bind fun t213 => (some (t213 == 0))) = some true := by rw [if_pos rfl] at H; exact H
                           clear H
                           have H := H1
                           clear H1
                           replace H := Option.bind_eq_some_iff.mp H
                           obtain ⟨t213, A1540, H⟩ := H
                           replace H : (some (t213 == 0)) = some true := H
                           have A154 := Aside0.mk A1540
                           clear A1540
                           have hT_ := Option.some.inj H
                           have hnb155 := NB188_193.out
                           have hnc155 := NB193_188.out
                           have hnb156 := NB188_196.out
                           have hnc156 := NB196_188.out
                           have hnb157 := NB188_204.out
                           have hnc157 := NB204_188.out
                           have hcz158_0 : wr.cell? ⟨gb188, 0, none⟩ = some (.int .i64 t186) := (blk_cell BK188.out 0).trans rfl
                           have hcz158_1 : wr.cell? ⟨gb188, 1, none⟩ = some (.int .i64 t187) := (blk_cell BK188.out 1).trans rfl
                           have hfz158_0 := blk_frozen BK188.out 0
                           have hfz158_1 := blk_frozen BK188.out 1
                           go_wp2_with (first | ((with_reducible refine gate_callee (f := 41) rfl ?_); refine goesL_ (some 173) rfl rfl Try.func41 (by kernel_rfl) rfl #[.agg #[.int .i64 t186, .int .i64 t187]] rfl (by (try simp only [List.map_toArray, List.map_cons, List.map_nil]); first | done | rfl | (simp only [List.length_drop, List.length_take]; rfl)) ?_; (with_reducible refine (impl_LeavenOk.calls t186 t187 true _ A152.out).mono ?_); rintro e w159 ⟨rfl, hb⟩; refine ⟨_, rfl, ?_⟩; have n0_ := Aside0.mk (Kd.R_below (by (with_reducible repeat (first | apply Kd.R_alloc | apply Kd.R_drewN | apply Kd.R_drew)); exact HO_14.out) hb); have n1_ := Aside0.mk (blk_below (g := gb188) (o := .cells #[.int .i64 t186, .int .i64 t187] 49 (0, 0)) (by (with_reducible repeat (first | refine blk_drewN ?_ _ | refine blk_drew ?_ | refine blk_alloc ?_ _)); exact BK188.out) hb); have n2_ := Aside0.mk (blk_below (g := gb193) (o := .cells #[.int .i64 t190, .int .i64 t191] 49 (0, 0)) (by (with_reducible repeat (first | refine blk_drewN ?_ _ | refine blk_drew ?_ | refine blk_alloc ?_ _)); exact BK193.out) hb); have n3_ := Aside0.mk (blk_below (g := gb196) (o := .cells #[.int .i64 x197000_2, .int .i64 x197001_2] 49 (0, 0)) (by (with_reducible repeat (first | refine blk_drewN ?_ _ | refine blk_drew ?_ | refine blk_alloc ?_ _)); exact BK196.out) hb); have n4_ := Aside0.mk (blk_below (g := gb204) (o := .cells #[.int .i64 t201, .int .i64 t202] 49 (0, 0)) (by (with_reducible repeat (first | refine blk_drewN ?_ _ | refine blk_drew ?_ | refine blk_alloc ?_ _)); exact BK204.out) hb); have n5_ := Aside0.mk (below_step (by repeat (first | (with_reducible first | exact HB.out | apply below_alloc | apply pw_below_drewN | apply below_drew1 | refine below_set ?_ GE188.out | refine below_set ?_ GE193.out | refine below_set ?_ GE196.out | refine below_set ?_ GE204.out) | exact HB.out)) hb); clear HO_14; clear BK188; clear BK193; clear BK196; clear BK204; clear HB; have HO_14 := n0_; have BK188 := n1_; have BK193 := n2_; have BK196 := n3_; have BK204 := n4_; have HB := n5_; clear n0_ n1_ n2_ n3_ n4_ n5_; (try clear hb); (try clear hb2); (try clear hk); (try clear hi)) | (go_at_call 38; (refine (impl_KeepForDays.calls k4 _ _ ([] : List Int) 2 t213 _ ?side1 ?side2 A154.out).mono ?_); (case side1 => exact Kd.C_nil _ _); (case side2 => exact Nat.le_refl _); rintro e w160 ⟨rfl, hb⟩; have n0_ := Aside0.mk (Kd.R_below (by (with_reducible repeat (first | apply Kd.R_alloc | apply Kd.R_drewN | apply Kd.R_drew)); exact HO_14.out) hb); have n1_ := Aside0.mk (blk_below (g := gb188) (o := .cells #[.int .i64 t186, .int .i64 t187] 49 (0, 0)) (by (with_reducible repeat (first | refine blk_drewN ?_ _ | refine blk_drew ?_ | refine blk_alloc ?_ _)); exact BK188.out) hb); have n2_ := Aside0.mk (blk_below (g := gb193) (o := .cells #[.int .i64 t190, .int .i64 t191] 49 (0, 0)) (by (with_reducible repeat (first | refine blk_drewN ?_ _ | refine blk_drew ?_ | refine blk_alloc ?_ _)); exact BK193.out) hb); have n3_ := Aside0.mk (blk_below (g := gb196) (o := .cells #[.int .i64 x197000_2, .int .i64 x197001_2] 49 (0, 0)) (by (with_reducible repeat (first | refine blk_drewN ?_ _ | refine blk_drew ?_ | refine blk_alloc ?_ _)); exact BK196.out) hb); have n4_ := Aside0.mk (blk_below (g := gb204) (o := .cells #[.int .i64 t201, .int .i64 t202] 49 (0, 0)) (by (with_reducible repeat (first | refine blk_drewN ?_ _ | refine blk_drew ?_ | refine blk_alloc ?_ _)); exact BK204.out) hb); have n5_ := Aside0.mk (below_step (by repeat (first | (with_reducible first | exact HB.out | apply below_alloc | apply pw_below_drewN | apply below_drew1 | refine below_set ?_ GE188.out | refine below_set ?_ GE193.out | refine below_set ?_ GE196.out | refine below_set ?_ GE204.out) | exact HB.out)) hb); clear HO_14; clear BK188; clear BK193; clear BK196; clear BK204; clear HB; have HO_14 := n0_; have BK188 := n1_; have BK193 := n2_; have BK196 := n3_; have BK204 := n4_; have HB := n5_; clear n0_ n1_ n2_ n3_ n4_ n5_; (try clear hb); (try clear hb2); (try clear hk); (try clear hi)))
                           go_ret
                           exact ⟨by first | rfl | (simp [errW_none, errW_some] <;> rfl) | (simp [*, errW_none, errW_some] <;> rfl), by repeat (first | (with_reducible first | exact HB.out | apply below_alloc | apply pw_below_drewN | apply below_drew1 | refine below_set ?_ GE188.out | refine below_set ?_ GE193.out | refine below_set ?_ GE196.out | refine below_set ?_ GE204.out) | exact HB.out)⟩
                         · replace c153 := Bool.eq_false_iff.mpr c153
                           subst c153
                           have H1 : (some false) = some true := by rw [if_neg (show ¬ (false = true) by decide)] at H; exact H
                           clear H
                           have H := H1
                           clear H1
                           exact absurd H (by simp)

/-- THE ONE PURE STATEMENT of laws_FnLeavens: yours. -/
def laws_FnLeavens.Pure : Prop := ∀ (l0 : List Int), l0.length ≤ maxLen → l0.length * 1 ≤ 140737488351232 → (∀ x ∈ l0, (Lit.int .u8 x).wf = true) → ∃ k, laws_FnLeavens.f k l0 = some true
theorem laws_FnLeavens.walk (P : laws_FnLeavens.Pure) (a0 : Option Addr) (len0 cap0 : Nat) (z0 : List Int) (w : World) (w0 : (a0 = none ∧ len0 = 0 ∧ cap0 = 0 ∧ z0 = []) ∨ ∃ x, a0 = some x ∧ len0 ≤ cap0 ∧ cap0 ≤ maxLen ∧ z0.length = cap0 ∧ (∀ i, i < z0.length → w.cell? (x.add i) = some (.int .u8 (z0.getD i 0))) ∧ ∀ n ∈ z0, (Lit.int .u8 n).wf = true) (y0 : len0 * 1 ≤ 140737488351232) :
  Calls Try.prog 8 #[.slice a0 len0 cap0] w fun e w' => e = .returned (.bool true) ∧ Below w.heap.size w w' := by
 obtain ⟨l0, rfl, hr0, hm0, hw0, hc0⟩ := ReadsInt.ofRowC w0
 obtain ⟨k, h⟩ := P l0 hm0 y0 hw0
 refine (laws_FnLeavens.calls k _ _ l0 w (Kd.C_of_reads (d := (0 : Int)) (h1 := fun _ => rfl) hr0) hc0 h).mono ?_
 rintro e w' ⟨rfl, hd⟩
 exact ⟨rfl, hd⟩

end Go.Proofs.Ytamdbkilpllfoaa.PFnLeavens

/- What is proved here: each Go function that the law FnDoughs reaches comes to what the plain Lean function beside it says; some by hand, the others as printed over them. No condition is added. -/
-- shrunk
import Derived.Test.YthonmildlahjdaaPFnDoughsx0
import Derived.Test.YthonmildlahjdaaPFnDoughsx1
import Derived.Test.YthonmildlahjdaaPFnDoughsx2
namespace Go.Proofs.Ythonmildlahjdaa.PFnDoughs
open Go.RowKit Go.Proofs.YthonmildlahjdaaW.PrintWords Go.Proofs.YthonmildlahjdaaW.PrintLast Go.Proofs.YthonmildlahjdaaW.PrintMore
attribute [local go_sem] max2_int min2_int max_two min_two max_three min_three max_four min_four   -- for this text's walks alone
set_option linter.unusedVariables false
set_option linter.unusedSimpArgs false

/-! ### laws_FnDoughs: function 6 -/
def laws_FnDoughs.j0 : Nat → Int → Int → List Int → Bool → Int → Int → Int → Option (Bool)
 | 0, _, _, _, _, _, _, _ => none
 | k + 1, x4, x5, x7, x103, x176000, x176001, x176002 => if x103 = true then (some false) else ((impl_DoughWeight.f k x176000 x176001 x176002 x5).bind fun t196 => ((impl_PartOf.f x5 20).bind fun t197 => (if 0 < (x7.length : Int) then (if 1 < (x7.length : Int) then (if 2 < (x7.length : Int) then (if 3 < (x7.length : Int) then (if t196 = (wrap64 ((wrap64 ((wrap64 ((rd x7 0) + (rd x7 1))) + (rd x7 2))) + (rd x7 3))) then (if t196 ≥ (wrap64 (x4 - 2)) then (if (wrap64 (1000 * t197)) ≤ (wrap64 ((wrap64 (20 * x5)) + 500)) then (if (wrap64 (1000 * t197)) > (wrap64 ((wrap64 (20 * x5)) - 501)) then ((impl_Firmer.f (wrap64 (x176000 - 1)) x176001 x176002 x176000 x176001 x176002).bind fun t203 => (if t203 = (-1) then ((impl_Firmer.f x176000 x176001 x176002 (wrap64 (x176000 - 1)) x176001 x176002).bind fun t204 => (if t204 = 1 then ((impl_Firmer.f x176000 x176001 x176002 x176000 x176001 x176002).bind fun t205 => (if t205 = 0 then ((impl_DoughOk.f x176000 x176001 x176002).bind fun t206 => (if t206 = true then ((impl_PartOf.f 1000 655).bind fun t207 => (some (t207 == 655))) else (some false))) else (some false))) else (some false))) else (some false))) else (some false)) else (some false)) else (some false)) else (some false)) else (none)) else (none)) else (none)) else (none))))
def laws_FnDoughs.f (k : Nat) (l0 : List Int) : Option (Bool) := (laws_big.f l0).bind fun t171 => (if t171 = true then (some true) else ((spec_DrawDough.f k l0).bind fun bt172 => ((laws_at.f l0 0).bind fun t176 => ((impl_FlourFor.f k bt172.1 bt172.2.1 bt172.2.2 (wrap64 (t176 * 9))).bind fun t177 => ((impl_WholeParts.f bt172.1 bt172.2.1 bt172.2.2).bind fun t178 => ((impl_Amounts.f k bt172.1 bt172.2.1 bt172.2.2 t177).bind fun t179 => (if t178 = (wrap64 ((wrap64 ((wrap64 (1000 + bt172.1)) + bt172.2.1)) + bt172.2.2)) then (if t177 < 0 then (laws_FnDoughs.j0 k (wrap64 (t176 * 9)) t177 t179 true bt172.1 bt172.2.1 bt172.2.2) else (if (wrap64 (Int.tdiv (wrap64 (t177 * t178)) 1000)) < (wrap64 (t176 * 9)) then (laws_FnDoughs.j0 k (wrap64 (t176 * 9)) t177 t179 true bt172.1 bt172.2.1 bt172.2.2) else (if t177 > 0 then (if (wrap64 (Int.tdiv (wrap64 ((wrap64 (t177 - 1)) * t178)) 1000)) ≥ (wrap64 (t176 * 9)) then (laws_FnDoughs.j0 k (wrap64 (t176 * 9)) t177 t179 true bt172.1 bt172.2.1 bt172.2.2) else (if (t179.length : Int) = 4 then (if 0 < (t179.length : Int) then (if (rd t179 0) = t177 then (if 1 < (t179.length : Int) then ((impl_PartOf.f t177 bt172.1).bind fun t184 => (if (rd t179 1) = t184 then (if 2 < (t179.length : Int) then ((impl_PartOf.f t177 bt172.2.1).bind fun t186 => (if (rd t179 2) = t186 then (if 3 < (t179.length : Int) then ((impl_PartOf.f t177 bt172.2.2).bind fun t188 => (laws_FnDoughs.j0 k (wrap64 (t176 * 9)) t177 t179 ((rd t179 3) != t188) bt172.1 bt172.2.1 bt172.2.2)) else (none)) else (laws_FnDoughs.j0 k (wrap64 (t176 * 9)) t177 t179 true bt172.1 bt172.2.1 bt172.2.2))) else (none)) else (laws_FnDoughs.j0 k (wrap64 (t176 * 9)) t177 t179 true bt172.1 bt172.2.1 bt172.2.2))) else (none)) else (laws_FnDoughs.j0 k (wrap64 (t176 * 9)) t177 t179 true bt172.1 bt172.2.1 bt172.2.2)) else (none)) else (laws_FnDoughs.j0 k (wrap64 (t176 * 9)) t177 t179 true bt172.1 bt172.2.1 bt172.2.2))) else (if (t179.length : Int) = 4 then (if 0 < (t179.length : Int) then (if (rd t179 0) = t177 then (if 1 < (t179.length : Int) then ((impl_PartOf.f t177 bt172.1).bind fun t191 => (if (rd t179 1) = t191 then (if 2 < (t179.length : Int) then ((impl_PartOf.f t177 bt172.2.1).bind fun t193 => (if (rd t179 2) = t193 then (if 3 < (t179.length : Int) then ((impl_PartOf.f t177 bt172.2.2).bind fun t195 => (laws_FnDoughs.j0 k (wrap64 (t176 * 9)) t177 t179 ((rd t179 3) != t195) bt172.1 bt172.2.1 bt172.2.2)) else (none)) else (laws_FnDoughs.j0 k (wrap64 (t176 * 9)) t177 t179 true bt172.1 bt172.2.1 bt172.2.2))) else (none)) else (laws_FnDoughs.j0 k (wrap64 (t176 * 9)) t177 t179 true bt172.1 bt172.2.1 bt172.2.2))) else (none)) else (laws_FnDoughs.j0 k (wrap64 (t176 * 9)) t177 t179 true bt172.1 bt172.2.1 bt172.2.2)) else (none)) else (laws_FnDoughs.j0 k (wrap64 (t176 * 9)) t177 t179 true bt172.1 bt172.2.1 bt172.2.2))))) else (laws_FnDoughs.j0 k (wrap64 (t176 * 9)) t177 t179 true bt172.1 bt172.2.1 bt172.2.2))))))))
theorem laws_FnDoughs.mono_l : ∀ k, (∀ y0 y1 y2 y3 y4 y5 y6, LeO (laws_FnDoughs.j0 k y0 y1 y2 y3 y4 y5 y6) (laws_FnDoughs.j0 (k + 1) y0 y1 y2 y3 y4 y5 y6))
 | 0 => fun _ _ _ _ _ _ _ r h => by simp [laws_FnDoughs.j0] at h
 | k + 1 => by
  have ih0 := laws_FnDoughs.mono_l k
  · intro y0 y1 y2 y3 y4 y5 y6
    unfold laws_FnDoughs.j0
    repeat' first
    | (with_reducible exact ih0 _ _ _ _ _ _ _)
    | (with_reducible exact impl_Amounts.mono _ _ _ _ _)
    | (with_reducible exact impl_DoughWeight.mono _ _ _ _ _)
    | (with_reducible exact impl_FlourFor.mono _ _ _ _ _)
    | (with_reducible exact spec_DrawDough.mono _ _)
    | (with_reducible exact LeO.refl _)
    | (with_reducible exact LeO.none _)
    | (with_reducible refine LeO.ite ?_ ?_)
    | (with_reducible refine LeO.bind ?_ (fun _ => ?_))
    | exact ih0 _ _ _ _ _ _ _
    | exact impl_Amounts.mono _ _ _ _ _
    | exact impl_DoughWeight.mono _ _ _ _ _
    | exact impl_FlourFor.mono _ _ _ _ _
    | exact spec_DrawDough.mono _ _
    | exact LeO.none _
    | refine LeO.ite ?_ ?_
    | refine LeO.bind ?_ (fun _ => ?_)
theorem laws_FnDoughs.mono : ∀ a0 k, LeO (laws_FnDoughs.f k a0) (laws_FnDoughs.f (k + 1) a0) := by
 intro a0 k
 have ih0 := laws_FnDoughs.mono_l k
 unfold laws_FnDoughs.f
 repeat' first
   | (with_reducible exact ih0 _ _ _ _ _ _ _)
   | (with_reducible exact impl_Amounts.mono _ _ _ _ _)
   | (with_reducible exact impl_DoughWeight.mono _ _ _ _ _)
   | (with_reducible exact impl_FlourFor.mono _ _ _ _ _)
   | (with_reducible exact spec_DrawDough.mono _ _)
   | (with_reducible exact LeO.refl _)
   | (with_reducible exact LeO.none _)
   | (with_reducible refine LeO.ite ?_ ?_)
   | (with_reducible refine LeO.bind ?_ (fun _ => ?_))
   | exact ih0 _ _ _ _ _ _ _
   | exact impl_Amounts.mono _ _ _ _ _
   | exact impl_DoughWeight.mono _ _ _ _ _
   | exact impl_FlourFor.mono _ _ _ _ _
   | exact spec_DrawDough.mono _ _
   | exact LeO.none _
   | refine LeO.ite ?_ ?_
   | refine LeO.bind ?_ (fun _ => ?_)
def laws_FnDoughs.T8 : Bool × List (List Nat × List Nat) := (true, [([], []), ([], []), ([1], [1]), ([2], [2]), ([], []), ([4], [4]), ([3, 5], [3, 5]), ([], []), ([7], [7]), ([6, 8], [6, 8]), ([0, 9], [0, 9]), ([10], [10]), ([11], [11]), ([12, 11], [11, 12]), ([11, 13], [11, 13]), ([14, 11], [14]), ([15], [15]), ([15], [15]), ([16, 17, 15], [15, 16, 17]), ([18, 15], [15, 18]), ([15], [15]), ([19, 20, 15], [15, 19, 20]), ([15, 21], [15, 21]), ([22, 15], [22]), ([23], [23]), ([24, 23], [23, 24]), ([25, 23, 23], [23, 25]), ([26], [26]), ([27, 26], [26, 27]), ([26], [26]), ([28, 29, 26], [26, 28, 29]), ([30, 26], [26, 30]), ([26], [26]), ([31, 32, 26], [26, 31, 32]), ([26, 33, 23], [23, 26, 33]), ([23, 34], [23, 34]), ([35, 26], [35]), ([36], [36]), ([37, 36], [36, 37]), ([38, 36], [36, 38]), ([36, 39], [36, 39]), ([40, 36], [40]), ([41], [41]), ([42, 41], [41, 42]), ([43, 41], [41, 43]), ([41], [41]), ([44, 45, 41], [41, 44, 45]), ([41, 46], [41, 46]), ([47, 41], [47]), ([48], [48]), ([49, 48], [48, 49]), ([50, 48], [48, 50]), ([48], [48]), ([48], [48]), ([53, 48], [48, 53]), ([52, 54, 48, 48], [48, 52, 54]), ([51, 55, 48], [48, 51, 55]), ([48, 56], [48, 56]), ([57, 55], [57]), ([58], [58]), ([59, 58], [58, 59]), ([60, 58], [58, 60]), ([58], [58]), ([58], [58]), ([63, 58], [58, 63]), ([62, 64, 58, 58], [58, 62, 64]), ([61, 65, 58], [58, 61, 65]), ([58, 66], [58, 66]), ([67, 65], [67]), ([68], [68]), ([69, 68], [68, 69]), ([70, 68], [68, 70]), ([68], [68]), ([68], [68]), ([73, 68], [68, 73]), ([72, 74, 68, 68], [68, 72, 74]), ([71, 75, 68], [68, 71, 75]), ([68, 76], [68, 76])])
def laws_FnDoughs.B8 : List Nat := [0, 0, 2, 6, 0, 16, 62, 0, 128, 510, 1023, 2047, 4095, 8191, 16383, 32767, 65535, 65535, 262143, 524287, 65535, 2097151, 4194303, 8388607, 16777215, 33554431, 67108863, 134217727, 268435455, 134217727, 1073741823, 2147483647, 134217727, 8589934591, 17179869183, 34359738367, 68719476735, 137438953471, 274877906943, 549755813887, 1099511627775, 2199023255551, 4398046511103, 8796093022207, 17592186044415, 4398046511103, 70368744177663, 140737488355327, 281474976710655, 562949953421311, 1125899906842623, 2251799813685247, 562949953421311, 562949953421311, 9570149208162303, 32088147345014783, 72057594037927935, 144115188075855871, 288230376151711743, 576460752303423487, 1152921504606846975, 2305843009213693951, 576460752303423487, 576460752303423487, 9799832789158199295, 32858262881295138815, 73786976294838206463, 147573952589676412927, 295147905179352825855, 590295810358705651711, 1180591620717411303423, 2361183241434822606847, 590295810358705651711, 590295810358705651711, 10035028776097996079103, 33646861190446222147583, 75557863725914323419135, 151115727451828646838271]
theorem laws_FnDoughs.tab8 : rtab .any (opsOf Try.f6 8) = laws_FnDoughs.T8 := by kernel_rfl
theorem laws_FnDoughs.bits8 : waitsOk laws_FnDoughs.T8.2 laws_FnDoughs.B8 = true := by kernel_rfl
def laws_FnDoughs.T14 : Bool × List (List Nat × List Nat) := (true, [([], []), ([], []), ([1], [1]), ([2], [2]), ([], []), ([4], [4]), ([5], [5]), ([3, 6], [3, 6]), ([], []), ([8], [8]), ([9], [9]), ([7, 10], [7, 10]), ([], []), ([12], [12]), ([13], [13]), ([11, 14], [11, 14]), ([0, 15], [0, 15]), ([16], [16]), ([17], [17]), ([17], [17]), ([19, 17], [17, 19]), ([18, 20, 17], [17, 18, 20]), ([17, 21], [17, 21]), ([22, 17], [22]), ([23], [23]), ([24, 23], [23, 24]), ([23], [23]), ([26, 23], [23, 26]), ([27, 23], [23, 27]), ([25, 28, 23], [23, 25, 28]), ([23, 29], [23, 29]), ([30, 23], [30]), ([31], [31]), ([32, 31], [31, 32]), ([31], [31]), ([34, 31], [31, 34]), ([35, 31], [31, 35]), ([33, 36, 31], [31, 33, 36]), ([31, 37], [31, 37]), ([38, 31], [38]), ([39], [39]), ([39], [39]), ([40, 41, 39, 39], [39, 40, 41]), ([42, 39], [39, 42]), ([39, 43], [39, 43]), ([44, 42], [44]), ([45], [45]), ([45], [45]), ([46, 47, 45, 45], [45, 46, 47]), ([48, 45], [45, 48]), ([45, 49], [45, 49]), ([50, 48], [50]), ([51], [51]), ([51], [51]), ([52, 53, 51, 51], [51, 52, 53]), ([54, 51], [51, 54]), ([51, 55], [51, 55]), ([56, 54], [56]), ([57], [57]), ([58, 57, 57], [57, 58]), ([57, 59], [57, 59]), ([60, 59], [60]), ([61, 61], [61]), ([62, 61], [61, 62]), ([61, 63], [61, 63]), ([64, 62, 0, 1, 2, 3, 4, 5, 6, 7, 8, 9, 10, 11, 12, 13, 14, 15, 16, 17, 18, 19, 20, 21, 22, 23, 24, 25, 26, 27, 28, 29, 30, 31, 32, 33, 34, 35, 36, 37, 38, 39, 40, 41, 42, 43, 44, 45, 46, 47, 48, 49, 50, 51, 52, 53, 54, 55, 56, 57, 58, 59, 60, 61, 62, 63, 64], [64])])
def laws_FnDoughs.B14 : List Nat := [0, 0, 2, 6, 0, 16, 48, 126, 0, 256, 768, 2046, 0, 4096, 12288, 32766, 65535, 131071, 262143, 262143, 786431, 2097151, 4194303, 8388607, 16777215, 33554431, 16777215, 83886079, 218103807, 536870911, 1073741823, 2147483647, 4294967295, 8589934591, 4294967295, 21474836479, 55834574847, 137438953471, 274877906943, 549755813887, 1099511627775, 1099511627775, 4398046511103, 8796093022207, 17592186044415, 35184372088831, 70368744177663, 70368744177663, 281474976710655, 562949953421311, 1125899906842623, 2251799813685247, 4503599627370495, 4503599627370495, 18014398509481983, 36028797018963967, 72057594037927935, 144115188075855871, 288230376151711743, 576460752303423487, 1152921504606846975, 2305843009213693951, 4611686018427387903, 9223372036854775807, 18446744073709551615, 36893488147419103231]
theorem laws_FnDoughs.tab14 : rtab .any (opsOf Try.f6 14) = laws_FnDoughs.T14 := by kernel_rfl
theorem laws_FnDoughs.bits14 : waitsOk laws_FnDoughs.T14.2 laws_FnDoughs.B14 = true := by kernel_rfl
theorem laws_FnDoughs.j0_no {k : Nat} v0 v1 v2 v4 v5 v6 : ¬ laws_FnDoughs.j0 k v0 v1 v2 true v4 v5 v6 = some true := by
 cases k with
 | zero => intro h; simp [laws_FnDoughs.j0] at h
 | succ k => intro h; simp [laws_FnDoughs.j0] at h
set_option maxHeartbeats 8000000 in
set_option maxRecDepth 100000 in
theorem laws_FnDoughs.calls (k : Nat) (A0 : Option Addr) (c0 : Nat) (l0 : List Int) (w : World) (hr0 : Kd.C (Kd.int .u8) w A0 l0.length l0) (hc0 : l0.length ≤ c0) (h : laws_FnDoughs.f k l0 = some true) :
  Calls Try.prog 6 #[.slice A0 l0.length c0] w fun e w' => e = .returned (.bool true) ∧ Below w.heap.size w w' := by
 have hu44 := Try.underlying44
 have HR0 := Aside0.mk hr0
 have HC0 := Aside0.mk hc0
 clear hr0 hc0
 have HB := Aside0.mk (Below.refl w.heap.size w)
 have H : ((laws_big.f l0).bind fun t171 => (if t171 = true then (some true) else ((spec_DrawDough.f k l0).bind fun bt172 => ((laws_at.f l0 0).bind fun t176 => ((impl_FlourFor.f k bt172.1 bt172.2.1 bt172.2.2 (wrap64 (t176 * 9))).bind fun t177 => ((impl_WholeParts.f bt172.1 bt172.2.1 bt172.2.2).bind fun t178 => ((impl_Amounts.f k bt172.1 bt172.2.1 bt172.2.2 t177).bind fun t179 => (if t178 = (wrap64 ((wrap64 ((wrap64 (1000 + bt172.1)) + bt172.2.1)) + bt172.2.2)) then (if t177 < 0 then (laws_FnDoughs.j0 k (wrap64 (t176 * 9)) t177 t179 true bt172.1 bt172.2.1 bt172.2.2) else (if (wrap64 (Int.tdiv (wrap64 (t177 * t178)) 1000)) < (wrap64 (t176 * 9)) then (laws_FnDoughs.j0 k (wrap64 (t176 * 9)) t177 t179 true bt172.1 bt172.2.1 bt172.2.2) else (if t177 > 0 then (if (wrap64 (Int.tdiv (wrap64 ((wrap64 (t177 - 1)) * t178)) 1000)) ≥ (wrap64 (t176 * 9)) then (laws_FnDoughs.j0 k (wrap64 (t176 * 9)) t177 t179 true bt172.1 bt172.2.1 bt172.2.2) else (if (t179.length : Int) = 4 then (if 0 < (t179.length : Int) then (if (rd t179 0) = t177 then (if 1 < (t179.length : Int) then ((impl_PartOf.f t177 bt172.1).bind fun t184 => (if (rd t179 1) = t184 then (if 2 < (t179.length : Int) then ((impl_PartOf.f t177 bt172.2.1).bind fun t186 => (if (rd t179 2) = t186 then (if 3 < (t179.length : Int) then ((impl_PartOf.f t177 bt172.2.2).bind fun t188 => (laws_FnDoughs.j0 k (wrap64 (t176 * 9)) t177 t179 ((rd t179 3) != t188) bt172.1 bt172.2.1 bt172.2.2)) else (none)) else (laws_FnDoughs.j0 k (wrap64 (t176 * 9)) t177 t179 true bt172.1 bt172.2.1 bt172.2.2))) else (none)) else (laws_FnDoughs.j0 k (wrap64 (t176 * 9)) t177 t179 true bt172.1 bt172.2.1 bt172.2.2))) else (none)) else (laws_FnDoughs.j0 k (wrap64 (t176 * 9)) t177 t179 true bt172.1 bt172.2.1 bt172.2.2)) else (none)) else (laws_FnDoughs.j0 k (wrap64 (t176 * 9)) t177 t179 true bt172.1 bt172.2.1 bt172.2.2))) else (if (t179.length : Int) = 4 then (if 0 < (t179.length : Int) then (if (rd t179 0) = t177 then (if 1 < (t179.length : Int) then ((impl_PartOf.f t177 bt172.1).bind fun t191 => (if (rd t179 1) = t191 then (if 2 < (t179.length : Int) then ((impl_PartOf.f t177 bt172.2.1).bind fun t193 => (if (rd t179 2) = t193 then (if 3 < (t179.length : Int) then ((impl_PartOf.f t177 bt172.2.2).bind fun t195 => (laws_FnDoughs.j0 k (wrap64 (t176 * 9)) t177 t179 ((rd t179 3) != t195) bt172.1 bt172.2.1 bt172.2.2)) else (none)) else (laws_FnDoughs.j0 k (wrap64 (t176 * 9)) t177 t179 true bt172.1 bt172.2.1 bt172.2.2))) else (none)) else (laws_FnDoughs.j0 k (wrap64 (t176 * 9)) t177 t179 true bt172.1 bt172.2.1 bt172.2.2))) else (none)) else (laws_FnDoughs.j0 k (wrap64 (t176 * 9)) t177 t179 true bt172.1 bt172.2.1 bt172.2.2)) else (none)) else (laws_FnDoughs.j0 k (wrap64 (t176 * 9)) t177 t179 true bt172.1 bt172.2.1 bt172.2.2))))) else (laws_FnDoughs.j0 k (wrap64 (t176 * 9)) t177 t179 true bt172.1 bt172.2.1 bt172.2.2))))))))) = some true := h
 clear h
 replace H := Option.bind_eq_some_iff.mp H
 obtain ⟨t171, A20, H⟩ := H
 replace H : (if t171 = true then (some true) else ((spec_DrawDough.f k l0).bind fun bt172 => ((laws_at.f l0 0).bind fun t176 => ((impl_FlourFor.f k bt172.1 bt172.2.1 bt172.2.2 (wrap64 (t176 * 9))).bind fun t177 => ((impl_WholeParts.f bt172.1 bt172.2.1 bt172.2.2).bind fun t178 => ((impl_Amounts.f k bt172.1 bt172.2.1 bt172.2.2 t177).bind fun t179 => (if t178 = (wrap64 ((wrap64 ((wrap64 (1000 + bt172.1)) + bt172.2.1)) + bt172.2.2)) then (if t177 < 0 then (laws_FnDoughs.j0 k (wrap64 (t176 * 9)) t177 t179 true bt172.1 bt172.2.1 bt172.2.2) else (if (wrap64 (Int.tdiv (wrap64 (t177 * t178)) 1000)) < (wrap64 (t176 * 9)) then (laws_FnDoughs.j0 k (wrap64 (t176 * 9)) t177 t179 true bt172.1 bt172.2.1 bt172.2.2) else (if t177 > 0 then (if (wrap64 (Int.tdiv (wrap64 ((wrap64 (t177 - 1)) * t178)) 1000)) ≥ (wrap64 (t176 * 9)) then (laws_FnDoughs.j0 k (wrap64 (t176 * 9)) t177 t179 true bt172.1 bt172.2.1 bt172.2.2) else (if (t179.length : Int) = 4 then (if 0 < (t179.length : Int) then (if (rd t179 0) = t177 then (if 1 < (t179.length : Int) then ((impl_PartOf.f t177 bt172.1).bind fun t184 => (if (rd t179 1) = t184 then (if 2 < (t179.length : Int) then ((impl_PartOf.f t177 bt172.2.1).bind fun t186 => (if (rd t179 2) = t186 then (if 3 < (t179.length : Int) then ((impl_PartOf.f t177 bt172.2.2).bind fun t188 => (laws_FnDoughs.j0 k (wrap64 (t176 * 9)) t177 t179 ((rd t179 3) != t188) bt172.1 bt172.2.1 bt172.2.2)) else (none)) else (laws_FnDoughs.j0 k (wrap64 (t176 * 9)) t177 t179 true bt172.1 bt172.2.1 bt172.2.2))) else (none)) else (laws_FnDoughs.j0 k (wrap64 (t176 * 9)) t177 t179 true bt172.1 bt172.2.1 bt172.2.2))) else (none)) else (laws_FnDoughs.j0 k (wrap64 (t176 * 9)) t177 t179 true bt172.1 bt172.2.1 bt172.2.2)) else (none)) else (laws_FnDoughs.j0 k (wrap64 (t176 * 9)) t177 t179 true bt172.1 bt172.2.1 bt172.2.2))) else (if (t179.length : Int) = 4 then (if 0 < (t179.length : Int) then (if (rd t179 0) = t177 then (if 1 < (t179.length : Int) then ((impl_PartOf.f t177 bt172.1).bind fun t191 => (if (rd t179 1) = t191 then (if 2 < (t179.length : Int) then ((impl_PartOf.f t177 bt172.2.1).bind fun t193 => (if (rd t179 2) = t193 then (if 3 < (t179.length : Int) then ((impl_PartOf.f t177 bt172.2.2).bind fun t195 => (laws_FnDoughs.j0 k (wrap64 (t176 * 9)) t177 t179 ((rd t179 3) != t195) bt172.1 bt172.2.1 bt172.2.2)) else (none)) else (laws_FnDoughs.j0 k (wrap64 (t176 * 9)) t177 t179 true bt172.1 bt172.2.1 bt172.2.2))) else (none)) else (laws_FnDoughs.j0 k (wrap64 (t176 * 9)) t177 t179 true bt172.1 bt172.2.1 bt172.2.2))) else (none)) else (laws_FnDoughs.j0 k (wrap64 (t176 * 9)) t177 t179 true bt172.1 bt172.2.1 bt172.2.2)) else (none)) else (laws_FnDoughs.j0 k (wrap64 (t176 * 9)) t177 t179 true bt172.1 bt172.2.1 bt172.2.2))))) else (laws_FnDoughs.j0 k (wrap64 (t176 * 9)) t177 t179 true bt172.1 bt172.2.1 bt172.2.2)))))))) = some true := H
 have A2 := Aside0.mk A20
 clear A20
 by_cases c3 : t171 = true
 · subst c3
   have H1 : (some true) = some true := rfl
   clear H
   have H := H1
   clear H1
   have hT_ := Option.some.inj H
   go_enter Try.func6, Try.ntmps6
   go_wp2_with (first | ((with_reducible refine gate_callee (f := 17) rfl ?_); refine goesL_ (some 12) rfl rfl Try.func17 (by kernel_rfl) rfl #[.slice A0 l0.length c0] rfl (by (try simp only [List.map_toArray, List.map_cons, List.map_nil]); first | done | rfl | (simp only [List.length_drop, List.length_take]; rfl)) ?_; (with_reducible refine (laws_big.calls _ _ l0 true _ ?side1 ?side2 A2.out).mono ?_); (case side1 => repeat (first | exact HR0.out | (with_reducible refine Kd.C_alloc ?_ _) | (with_reducible refine Kd.C_drewN ?_ _) | (with_reducible refine Kd.C_drew ?_))); (case side2 => exact HC0.out); rintro e w' ⟨rfl, ⟨nd, rfl⟩⟩; refine ⟨_, rfl, ?_⟩))
   go_ret
   exact ⟨by first | rfl | (simp [errW_none, errW_some] <;> rfl) | (simp [*, errW_none, errW_some] <;> rfl), by repeat (first | (with_reducible first | exact HB.out | apply below_alloc | apply pw_below_drewN | apply below_drew1) | exact HB.out)⟩
 · replace c3 := Bool.eq_false_iff.mpr c3
   subst c3
   have H1 : ((spec_DrawDough.f k l0).bind fun bt172 => ((laws_at.f l0 0).bind fun t176 => ((impl_FlourFor.f k bt172.1 bt172.2.1 bt172.2.2 (wrap64 (t176 * 9))).bind fun t177 => ((impl_WholeParts.f bt172.1 bt172.2.1 bt172.2.2).bind fun t178 => ((impl_Amounts.f k bt172.1 bt172.2.1 bt172.2.2 t177).bind fun t179 => (if t178 = (wrap64 ((wrap64 ((wrap64 (1000 + bt172.1)) + bt172.2.1)) + bt172.2.2)) then (if t177 < 0 then (laws_FnDoughs.j0 k (wrap64 (t176 * 9)) t177 t179 true bt172.1 bt172.2.1 bt172.2.2) else (if (wrap64 (Int.tdiv (wrap64 (t177 * t178)) 1000)) < (wrap64 (t176 * 9)) then (laws_FnDoughs.j0 k (wrap64 (t176 * 9)) t177 t179 true bt172.1 bt172.2.1 bt172.2.2) else (if t177 > 0 then (if (wrap64 (Int.tdiv (wrap64 ((wrap64 (t177 - 1)) * t178)) 1000)) ≥ (wrap64 (t176 * 9)) then (laws_FnDoughs.j0 k (wrap64 (t176 * 9)) t177 t179 true bt172.1 bt172.2.1 bt172.2.2) else (if (t179.length : Int) = 4 then (if 0 < (t179.length : Int) then (if (rd t179 0) = t177 then (if 1 < (t179.length : Int) then ((impl_PartOf.f t177 bt172.1).bind fun t184 => (if (rd t179 1) = t184 then (if 2 < (t179.length : Int) then ((impl_PartOf.f t177 bt172.2.1).bind fun t186 => (if (rd t179 2) = t186 then (if 3 < (t179.length : Int) then ((impl_PartOf.f t177 bt172.2.2).bind fun t188 => (laws_FnDoughs.j0 k (wrap64 (t176 * 9)) t177 t179 ((rd t179 3) != t188) bt172.1 bt172.2.1 bt172.2.2)) else (none)) else (laws_FnDoughs.j0 k (wrap64 (t176 * 9)) t177 t179 true bt172.1 bt172.2.1 bt172.2.2))) else (none)) else (laws_FnDoughs.j0 k (wrap64 (t176 * 9)) t177 t179 true bt172.1 bt172.2.1 bt172.2.2))) else (none)) else (laws_FnDoughs.j0 k (wrap64 (t176 * 9)) t177 t179 true bt172.1 bt172.2.1 bt172.2.2)) else (none)) else (laws_FnDoughs.j0 k (wrap64 (t176 * 9)) t177 t179 true bt172.1 bt172.2.1 bt172.2.2))) else (if (t179.length : Int) = 4 then (if 0 < (t179.length : Int) then (if (rd t179 0) = t177 then (if 1 < (t179.length : Int) then ((impl_PartOf.f t177 bt172.1).bind fun t191 => (if (rd t179 1) = t191 then (if 2 < (t179.length : Int) then ((impl_PartOf.f t177 bt172.2.1).bind fun t193 => (if (rd t179 2) = t193 then (if 3 < (t179.length : Int) then ((impl_PartOf.f t177 bt172.2.2).bind fun t195 => (laws_FnDoughs.j0 k (wrap64 (t176 * 9)) t177 t179 ((rd t179 3) != t195) bt172.1 bt172.2.1 bt172.2.2)) else (none)) else (laws_FnDoughs.j0 k (wrap64 (t176 * 9)) t177 t179 true bt172.1 bt172.2.1 bt172.2.2))) else (none)) else (laws_FnDoughs.j0 k (wrap64 (t176 * 9)) t177 t179 true bt172.1 bt172.2.1 bt172.2.2))) else (none)) else (laws_FnDoughs.j0 k (wrap64 (t176 * 9)) t177 t179 true bt172.1 bt172.2.1 bt172.2.2)) else (none)) else (laws_FnDoughs.j0 k (wrap64 (t176 * 9)) t177 t179 true bt172.1 bt172.2.1 bt172.2.2))))) else (laws_FnDoughs.j0 k (wrap64 (t176 * 9)) t177 t179 true bt172.1 bt172.2.1 bt172.2.2))))))) = some true := by rw [if_neg (show ¬ (false = true) by decide)] at H; exact H
   clear H
   have H := H1
   clear H1
   replace H := Option.bind_eq_some_iff.mp H
   obtain ⟨⟨t172, t173, t174⟩, A40, H⟩ := H
   replace H : ((laws_at.f l0 0).bind fun t176 => ((impl_FlourFor.f k t172 t173 t174 (wrap64 (t176 * 9))).bind fun t177 => ((impl_WholeParts.f t172 t173 t174).bind fun t178 => ((impl_Amounts.f k t172 t173 t174 t177).bind fun t179 => (if t178 = (wrap64 ((wrap64 ((wrap64 (1000 + t172)) + t173)) + t174)) then (if t177 < 0 then (laws_FnDoughs.j0 k (wrap64 (t176 * 9)) t177 t179 true t172 t173 t174) else (if (wrap64 (Int.tdiv (wrap64 (t177 * t178)) 1000)) < (wrap64 (t176 * 9)) then (laws_FnDoughs.j0 k (wrap64 (t176 * 9)) t177 t179 true t172 t173 t174) else (if t177 > 0 then (if (wrap64 (Int.tdiv (wrap64 ((wrap64 (t177 - 1)) * t178)) 1000)) ≥ (wrap64 (t176 * 9)) then (laws_FnDoughs.j0 k (wrap64 (t176 * 9)) t177 t179 true t172 t173 t174) else (if (t179.length : Int) = 4 then (if 0 < (t179.length : Int) then (if (rd t179 0) = t177 then (if 1 < (t179.length : Int) then ((impl_PartOf.f t177 t172).bind fun t184 => (if (rd t179 1) = t184 then (if 2 < (t179.length : Int) then ((impl_PartOf.f t177 t173).bind fun t186 => (if (rd t179 2) = t186 then (if 3 < (t179.length : Int) then ((impl_PartOf.f t177 t174).bind fun t188 => (laws_FnDoughs.j0 k (wrap64 (t176 * 9)) t177 t179 ((rd t179 3) != t188) t172 t173 t174)) else (none)) else (laws_FnDoughs.j0 k (wrap64 (t176 * 9)) t177 t179 true t172 t173 t174))) else (none)) else (laws_FnDoughs.j0 k (wrap64 (t176 * 9)) t177 t179 true t172 t173 t174))) else (none)) else (laws_FnDoughs.j0 k (wrap64 (t176 * 9)) t177 t179 true t172 t173 t174)) else (none)) else (laws_FnDoughs.j0 k (wrap64 (t176 * 9)) t177 t179 true t172 t173 t174))) else (if (t179.length : Int) = 4 then (if 0 < (t179.length : Int) then (if (rd t179 0) = t177 then (if 1 < (t179.length : Int) then ((impl_PartOf.f t177 t172).bind fun t191 => (if (rd t179 1) = t191 then (if 2 < (t179.length : Int) then ((impl_PartOf.f t177 t173).bind fun t193 => (if (rd t179 2) = t193 then (if 3 < (t179.length : Int) then ((impl_PartOf.f t177 t174).bind fun t195 => (laws_FnDoughs.j0 k (wrap64 (t176 * 9)) t177 t179 ((rd t179 3) != t195) t172 t173 t174)) else (none)) else (laws_FnDoughs.j0 k (wrap64 (t176 * 9)) t177 t179 true t172 t173 t174))) else (none)) else (laws_FnDoughs.j0 k (wrap64 (t176 * 9)) t177 t179 true t172 t173 t174))) else (none)) else (laws_FnDoughs.j0 k (wrap64 (t176 * 9)) t177 t179 true t172 t173 t174)) else (none)) else (laws_FnDoughs.j0 k (wrap64 (t176 * 9)) t177 t179 true t172 t173 t174))))) else (laws_FnDoughs.j0 k (wrap64 (t176 * 9)) t177 t179 true t172 t173 t174)))))) = some true := H
   have A4 := Aside0.mk A40
   clear A40
   replace H := Option.bind_eq_some_iff.mp H
   obtain ⟨t176, A50, H⟩ := H
   replace H : ((impl_FlourFor.f k t172 t173 t174 (wrap64 (t176 * 9))).bind fun t177 => ((impl_WholeParts.f t172 t173 t174).bind fun t178 => ((impl_Amounts.f k t172 t173 t174 t177).bind fun t179 => (if t178 = (wrap64 ((wrap64 ((wrap64 (1000 + t172)) + t173)) + t174)) then (if t177 < 0 then (laws_FnDoughs.j0 k (wrap64 (t176 * 9)) t177 t179 true t172 t173 t174) else (if (wrap64 (Int.tdiv (wrap64 (t177 * t178)) 1000)) < (wrap64 (t176 * 9)) then (laws_FnDoughs.j0 k (wrap64 (t176 * 9)) t177 t179 true t172 t173 t174) else (if t177 > 0 then (if (wrap64 (Int.tdiv (wrap64 ((wrap64 (t177 - 1)) * t178)) 1000)) ≥ (wrap64 (t176 * 9)) then (laws_FnDoughs.j0 k (wrap64 (t176 * 9)) t177 t179 true t172 t173 t174) else (if (t179.length : Int) = 4 then (if 0 < (t179.length : Int) then (if (rd t179 0) = t177 then (if 1 < (t179.length : Int) then ((impl_PartOf.f t177 t172).bind fun t184 => (if (rd t179 1) = t184 then (if 2 < (t179.length : Int) then ((impl_PartOf.f t177 t173).bind fun t186 => (if (rd t179 2) = t186 then (if 3 < (t179.length : Int) then ((impl_PartOf.f t177 t174).bind fun t188 => (laws_FnDoughs.j0 k (wrap64 (t176 * 9)) t177 t179 ((rd t179 3) != t188) t172 t173 t174)) else (none)) else (laws_FnDoughs.j0 k (wrap64 (t176 * 9)) t177 t179 true t172 t173 t174))) else (none)) else (laws_FnDoughs.j0 k (wrap64 (t176 * 9)) t177 t179 true t172 t173 t174))) else (none)) else (laws_FnDoughs.j0 k (wrap64 (t176 * 9)) t177 t179 true t172 t173 t174)) else (none)) else (laws_FnDoughs.j0 k (wrap64 (t176 * 9)) t177 t179 true t172 t173 t174))) else (if (t179.length : Int) = 4 then (if 0 < (t179.length : Int) then (if (rd t179 0) = t177 then (if 1 < (t179.length : Int) then ((impl_PartOf.f t177 t172).bind fun t191 => (if (rd t179 1) = t191 then (if 2 < (t179.length : Int) then ((impl_PartOf.f t177 t173).bind fun t193 => (if (rd t179 2) = t193 then (if 3 < (t179.length : Int) then ((impl_PartOf.f t177 t174).bind fun t195 => (laws_FnDoughs.j0 k (wrap64 (t176 * 9)) t177 t179 ((rd t179 3) != t195) t172 t173 t174)) else (none)) else (laws_FnDoughs.j0 k (wrap64 (t176 * 9)) t177 t179 true t172 t173 t174))) else (none)) else (laws_FnDoughs.j0 k (wrap64 (t176 * 9)) t177 t179 true t172 t173 t174))) else (none)) else (laws_FnDoughs.j0 k (wrap64 (t176 * 9)) t177 t179 true t172 t173 t174)) else (none)) else (laws_FnDoughs.j0 k (wrap64 (t176 * 9)) t177 t179 true t172 t173 t174))))) else (laws_FnDoughs.j0 k (wrap64 (t176 * 9)) t177 t179 true t172 t173 t174))))) = some true := H
   have A5 := Aside0.mk A50
   clear A50
   replace H := Option.bind_eq_some_iff.mp H
   obtain ⟨t177, A60, H⟩ := H
   replace H : ((impl_WholeParts.f t172 t173 t174).bind fun t178 => ((impl_Amounts.f k t172 t173 t174 t177).bind fun t179 => (if t178 = (wrap64 ((wrap64 ((wrap64 (1000 + t172)) + t173)) + t174)) then (if t177 < 0 then (laws_FnDoughs.j0 k (wrap64 (t176 * 9)) t177 t179 true t172 t173 t174) else (if (wrap64 (Int.tdiv (wrap64 (t177 * t178)) 1000)) < (wrap64 (t176 * 9)) then (laws_FnDoughs.j0 k (wrap64 (t176 * 9)) t177 t179 true t172 t173 t174) else (if t177 > 0 then (if (wrap64 (Int.tdiv (wrap64 ((wrap64 (t177 - 1)) * t178)) 1000)) ≥ (wrap64 (t176 * 9)) then (laws_FnDoughs.j0 k (wrap64 (t176 * 9)) t177 t179 true t172 t173 t174) else (if (t179.length : Int) = 4 then (if 0 < (t179.length : Int) then (if (rd t179 0) = t177 then (if 1 < (t179.length : Int) then ((impl_PartOf.f t177 t172).bind fun t184 => (if (rd t179 1) = t184 then (if 2 < (t179.length : Int) then ((impl_PartOf.f t177 t173).bind fun t186 => (if (rd t179 2) = t186 then (if 3 < (t179.length : Int) then ((impl_PartOf.f t177 t174).bind fun t188 => (laws_FnDoughs.j0 k (wrap64 (t176 * 9)) t177 t179 ((rd t179 3) != t188) t172 t173 t174)) else (none)) else (laws_FnDoughs.j0 k (wrap64 (t176 * 9)) t177 t179 true t172 t173 t174))) else (none)) else (laws_FnDoughs.j0 k (wrap64 (t176 * 9)) t177 t179 true t172 t173 t174))) else (none)) else (laws_FnDoughs.j0 k (wrap64 (t176 * 9)) t177 t179 true t172 t173 t174)) else (none)) else (laws_FnDoughs.j0 k (wrap64 (t176 * 9)) t177 t179 true t172 t173 t174))) else (if (t179.length : Int) = 4 then (if 0 < (t179.length : Int) then (if (rd t179 0) = t177 then (if 1 < (t179.length : Int) then ((impl_PartOf.f t177 t172).bind fun t191 => (if (rd t179 1) = t191 then (if 2 < (t179.length : Int) then ((impl_PartOf.f t177 t173).bind fun t193 => (if (rd t179 2) = t193 then (if 3 < (t179.length : Int) then ((impl_PartOf.f t177 t174).bind fun t195 => (laws_FnDoughs.j0 k (wrap64 (t176 * 9)) t177 t179 ((rd t179 3) != t195) t172 t173 t174)) else (none)) else (laws_FnDoughs.j0 k (wrap64 (t176 * 9)) t177 t179 true t172 t173 t174))) else (none)) else (laws_FnDoughs.j0 k (wrap64 (t176 * 9)) t177 t179 true t172 t173 t174))) else (none)) else (laws_FnDoughs.j0 k (wrap64 (t176 * 9)) t177 t179 true t172 t173 t174)) else (none)) else (laws_FnDoughs.j0 k (wrap64 (t176 * 9)) t177 t179 true t172 t173 t174))))) else (laws_FnDoughs.j0 k (wrap64 (t176 * 9)) t177 t179 true t172 t173 t174)))) = some true := H
   have A6 := Aside0.mk A60
   clear A60
   replace H := Option.bind_eq_some_iff.mp H
   obtain ⟨t178, A70, H⟩ := H
   replace H : ((impl_Amounts.f k t172 t173 t174 t177).bind fun t179 => (if t178 = (wrap64 ((wrap64 ((wrap64 (1000 + t172)) + t173)) + t174)) then (if t177 < 0 then (laws_FnDoughs.j0 k (wrap64 (t176 * 9)) t177 t179 true t172 t173 t174) else (if (wrap64 (Int.tdiv (wrap64 (t177 * t178)) 1000)) < (wrap64 (t176 * 9)) then (laws_FnDoughs.j0 k (wrap64 (t176 * 9)) t177 t179 true t172 t173 t174) else (if t177 > 0 then (if (wrap64 (Int.tdiv (wrap64 ((wrap64 (t177 - 1)) * t178)) 1000)) ≥ (wrap64 (t176 * 9)) then (laws_FnDoughs.j0 k (wrap64 (t176 * 9)) t177 t179 true t172 t173 t174) else (if (t179.length : Int) = 4 then (if 0 < (t179.length : Int) then (if (rd t179 0) = t177 then (if 1 < (t179.length : Int) then ((impl_PartOf.f t177 t172).bind fun t184 => (if (rd t179 1) = t184 then (if 2 < (t179.length : Int) then ((impl_PartOf.f t177 t173).bind fun t186 => (if (rd t179 2) = t186 then (if 3 < (t179.length : Int) then ((impl_PartOf.f t177 t174).bind fun t188 => (laws_FnDoughs.j0 k (wrap64 (t176 * 9)) t177 t179 ((rd t179 3) != t188) t172 t173 t174)) else (none)) else (laws_FnDoughs.j0 k (wrap64 (t176 * 9)) t177 t179 true t172 t173 t174))) else (none)) else (laws_FnDoughs.j0 k (wrap64 (t176 * 9)) t177 t179 true t172 t173 t174))) else (none)) else (laws_FnDoughs.j0 k (wrap64 (t176 * 9)) t177 t179 true t172 t173 t174)) else (none)) else (laws_FnDoughs.j0 k (wrap64 (t176 * 9)) t177 t179 true t172 t173 t174))) else (if (t179.length : Int) = 4 then (if 0 < (t179.length : Int) then (if (rd t179 0) = t177 then (if 1 < (t179.length : Int) then ((impl_PartOf.f t177 t172).bind fun t191 => (if (rd t179 1) = t191 then (if 2 < (t179.length : Int) then ((impl_PartOf.f t177 t173).bind fun t193 => (if (rd t179 2) = t193 then (if 3 < (t179.length : Int) then ((impl_PartOf.f t177 t174).bind fun t195 => (laws_FnDoughs.j0 k (wrap64 (t176 * 9)) t177 t179 ((rd t179 3) != t195) t172 t173 t174)) else (none)) else (laws_FnDoughs.j0 k (wrap64 (t176 * 9)) t177 t179 true t172 t173 t174))) else (none)) else (laws_FnDoughs.j0 k (wrap64 (t176 * 9)) t177 t179 true t172 t173 t174))) else (none)) else (laws_FnDoughs.j0 k (wrap64 (t176 * 9)) t177 t179 true t172 t173 t174)) else (none)) else (laws_FnDoughs.j0 k (wrap64 (t176 * 9)) t177 t179 true t172 t173 t174))))) else (laws_FnDoughs.j0 k (wrap64 (t176 * 9)) t177 t179 true t172 t173 t174))) = some true := H
   have A7 := Aside0.mk A70
   clear A70
   replace H := Option.bind_eq_some_iff.mp H
   obtain ⟨t179, A80, H⟩ := H
   replace H : (if t178 = (wrap64 ((wrap64 ((wrap64 (1000 + t172)) + t173)) + t174)) then (if t177 < 0 then (laws_FnDoughs.j0 k (wrap64 (t176 * 9)) t177 t179 true t172 t173 t174) else (if (wrap64 (Int.tdiv (wrap64 (t177 * t178)) 1000)) < (wrap64 (t176 * 9)) then (laws_FnDoughs.j0 k (wrap64 (t176 * 9)) t177 t179 true t172 t173 t174) else (if t177 > 0 then (if (wrap64 (Int.tdiv (wrap64 ((wrap64 (t177 - 1)) * t178)) 1000)) ≥ (wrap64 (t176 * 9)) then (laws_FnDoughs.j0 k (wrap64 (t176 * 9)) t177 t179 true t172 t173 t174) else (if (t179.length : Int) = 4 then (if 0 < (t179.length : Int) then (if (rd t179 0) = t177 then (if 1 < (t179.length : Int) then ((impl_PartOf.f t177 t172).bind fun t184 => (if (rd t179 1) = t184 then (if 2 < (t179.length : Int) then ((impl_PartOf.f t177 t173).bind fun t186 => (if (rd t179 2) = t186 then (if 3 < (t179.length : Int) then ((impl_PartOf.f t177 t174).bind fun t188 => (laws_FnDoughs.j0 k (wrap64 (t176 * 9)) t177 t179 ((rd t179 3) != t188) t172 t173 t174)) else (none)) else (laws_FnDoughs.j0 k (wrap64 (t176 * 9)) t177 t179 true t172 t173 t174))) else (none)) else (laws_FnDoughs.j0 k (wrap64 (t176 * 9)) t177 t179 true t172 t173 t174))) else (none)) else (laws_FnDoughs.j0 k (wrap64 (t176 * 9)) t177 t179 true t172 t173 t174)) else (none)) else (laws_FnDoughs.j0 k (wrap64 (t176 * 9)) t177 t179 true t172 t173 t174))) else (if (t179.length : Int) = 4 then (if 0 < (t179.length : Int) then (if (rd t179 0) = t177 then (if 1 < (t179.length : Int) then ((impl_PartOf.f t177 t172).bind fun t191 => (if (rd t179 1) = t191 then (if 2 < (t179.length : Int) then ((impl_PartOf.f t177 t173).bind fun t193 => (if (rd t179 2) = t193 then (if 3 < (t179.length : Int) then ((impl_PartOf.f t177 t174).bind fun t195 => (laws_FnDoughs.j0 k (wrap64 (t176 * 9)) t177 t179 ((rd t179 3) != t195) t172 t173 t174)) else (none)) else (laws_FnDoughs.j0 k (wrap64 (t176 * 9)) t177 t179 true t172 t173 t174))) else (none)) else (laws_FnDoughs.j0 k (wrap64 (t176 * 9)) t177 t179 true t172 t173 t174))) else (none)) else (laws_FnDoughs.j0 k (wrap64 (t176 * 9)) t177 t179 true t172 t173 t174)) else (none)) else (laws_FnDoughs.j0 k (wrap64 (t176 * 9)) t177 t179 true t172 t173 t174))))) else (laws_FnDoughs.j0 k (wrap64 (t176 * 9)) t177 t179 true t172 t173 t174)) = some true := H
   have A8 := Aside0.mk A80
   clear A80
   have HC9 := Aside0.mk H
   clear H
   go_enter Try.func6, Try.ntmps6
   go_upto_region 8 with (first | ((with_reducible refine gate_callee (f := 17) rfl ?_); refine goesL_ (some 12) rfl rfl Try.func17 (by kernel_rfl) rfl #[.slice A0 l0.length c0] rfl (by (try simp only [List.map_toArray, List.map_cons, List.map_nil]); first | done | rfl | (simp only [List.length_drop, List.length_take]; rfl)) ?_; (with_reducible refine (laws_big.calls _ _ l0 false _ ?side1 ?side2 A2.out).mono ?_); (case side1 => repeat (first | exact HR0.out | (with_reducible refine Kd.C_alloc ?_ _) | (with_reducible refine Kd.C_drewN ?_ _) | (with_reducible refine Kd.C_drew ?_))); (case side2 => exact HC0.out); rintro e w' ⟨rfl, ⟨nd, rfl⟩⟩; refine ⟨_, rfl, ?_⟩) | ((with_reducible refine gate_callee (f := 24) rfl ?_); refine goesL_ (some 14) rfl rfl Try.func24 (by kernel_rfl) rfl #[.slice A0 l0.length c0] rfl (by (try simp only [List.map_toArray, List.map_cons, List.map_nil]); first | done | rfl | (simp only [List.length_drop, List.length_take]; rfl)) ?_; (with_reducible refine (spec_DrawDough.calls k _ _ l0 t172 t173 t174 _ ?side1 ?side2 A4.out).mono ?_); (case side1 => repeat (first | exact HR0.out | (with_reducible refine Kd.C_alloc ?_ _) | (with_reducible refine Kd.C_drewN ?_ _) | (with_reducible refine Kd.C_drew ?_))); (case side2 => exact HC0.out); rintro e w10 ⟨rfl, hb⟩; refine ⟨_, rfl, ?_⟩; have n0_ := Aside0.mk (below_step (by repeat (first | (with_reducible first | exact HB.out | apply below_alloc | apply pw_below_drewN | apply below_drew1) | exact HB.out)) hb); clear HB; have HB := n0_; clear n0_; (try clear hb); (try clear hb2); (try clear hk); (try clear hi)) | ((with_reducible refine gate_dst (N := 3) rfl ?_); (try (refine gate_guard (by rfl) ?_; dsimp only)); refine box_event ?hg (N := 3) ?hd (cs := #[.int .i64 0, .int .i64 0, .int .i64 0]) (t := 44) ?hr ?_; (case hd => rfl); (case hg => rfl); (case hr => first | (go_simp; done) | (go_simp; rfl)); intro gb175 hg w11 hbox hb; have n0_ := Aside0.mk (below_step (by repeat (first | (with_reducible first | exact HB.out | apply below_alloc | apply pw_below_drewN | apply below_drew1) | exact HB.out)) hb); have n1_ := Aside0.mk (hbox); have n2_ := Aside0.mk ((by rw [hg]; exact (below_size (by repeat (first | (with_reducible first | exact HB.out | apply below_alloc | apply pw_below_drewN | apply below_drew1) | exact HB.out))) : w.heap.size ≤ gb175)); have n3_ := Aside0.mk ((by rw [hg]; exact (below_size (by repeat (first | (with_reducible first | exact HB.out | apply below_alloc | apply pw_below_drewN | apply below_drew1) | exact HB.out))) : w.heap.size ≤ gb175)); clear HB; have HB := n0_; have BK175 := n1_; have GW175 := n2_; have GE175 := n3_; clear n0_ n1_ n2_ n3_; clear hb hbox hg; have hcz12_0 : w11.cell? ⟨gb175, 0, none⟩ = some (.int .i64 0) := (blk_cell BK175.out 0).trans rfl; have hcz12_1 : w11.cell? ⟨gb175, 1, none⟩ = some (.int .i64 0) := (blk_cell BK175.out 1).trans rfl; have hcz12_2 : w11.cell? ⟨gb175, 2, none⟩ = some (.int .i64 0) := (blk_cell BK175.out 2).trans rfl; have hfz12_0 := blk_frozen BK175.out 0; have hfz12_1 := blk_frozen BK175.out 1; have hfz12_2 := blk_frozen BK175.out 2) | ((with_reducible refine gate_callee (f := 20) rfl ?_); refine goesL_ (some 16) rfl rfl Try.func20 (by kernel_rfl) rfl #[.slice A0 l0.length c0, .int .i64 0] rfl (by (try simp only [List.map_toArray, List.map_cons, List.map_nil]); first | done | rfl | (simp only [List.length_drop, List.length_take]; rfl)) ?_; (with_reducible refine (laws_at.calls _ _ l0 0 t176 _ ?side1 ?side2 A5.out).mono ?_); (case side1 => exact Kd.C_below HR0.out (by repeat (first | (with_reducible first | exact HB.out | apply below_alloc | apply pw_below_drewN | apply below_drew1 | refine below_set ?_ GE175.out) | exact HB.out))); (case side2 => exact HC0.out); rintro e w' ⟨rfl, ⟨nd, rfl⟩⟩; refine ⟨_, rfl, ?_⟩) | ((with_reducible refine gate_callee (f := 25) rfl ?_); refine goesL_ (some 20) rfl rfl Try.func25 (by kernel_rfl) rfl #[.agg #[.int .i64 t172, .int .i64 t173, .int .i64 t174], .int .i64 (wrap64 (t176 * 9))] rfl (by (try simp only [List.map_toArray, List.map_cons, List.map_nil]); first | done | rfl | (simp only [List.length_drop, List.length_take]; rfl)) ?_; (with_reducible refine (impl_FlourFor.calls k t172 t173 t174 (wrap64 (t176 * 9)) t177 _ A6.out).mono ?_); rintro e w13 ⟨rfl, hb⟩; refine ⟨_, rfl, ?_⟩; have n0_ := Aside0.mk (blk_below (g := gb175) (o := .cells #[.int .i64 t172, .int .i64 t173, .int .i64 t174] 44 (0, 0)) (by (with_reducible repeat (first | refine blk_drewN ?_ _ | refine blk_drew ?_ | refine blk_alloc ?_ _)); refine blk_put (cs := #[.int .i64 t172, .int .i64 t173, .int .i64 0]) ?_ 2 _ rfl; (with_reducible repeat (first | refine blk_drewN ?_ _ | refine blk_drew ?_ | refine blk_alloc ?_ _)); refine blk_put (cs := #[.int .i64 t172, .int .i64 0, .int .i64 0]) ?_ 1 _ rfl; (with_reducible repeat (first | refine blk_drewN ?_ _ | refine blk_drew ?_ | refine blk_alloc ?_ _)); refine blk_put (cs := #[.int .i64 0, .int .i64 0, .int .i64 0]) ?_ 0 _ rfl; (with_reducible repeat (first | refine blk_drewN ?_ _ | refine blk_drew ?_ | refine blk_alloc ?_ _)); exact BK175.out) hb); have n1_ := Aside0.mk (below_step (by repeat (first | (with_reducible first | exact HB.out | apply below_alloc | apply pw_below_drewN | apply below_drew1 | refine below_set ?_ GE175.out) | exact HB.out)) hb); clear BK175; clear HB; have BK175 := n0_; have HB := n1_; clear n0_ n1_; (try clear hb); (try clear hb2); (try clear hk); (try clear hi); have hcz14_0 : w13.cell? ⟨gb175, 0, none⟩ = some (.int .i64 t172) := (blk_cell BK175.out 0).trans rfl; have hcz14_1 : w13.cell? ⟨gb175, 1, none⟩ = some (.int .i64 t173) := (blk_cell BK175.out 1).trans rfl; have hcz14_2 : w13.cell? ⟨gb175, 2, none⟩ = some (.int .i64 t174) := (blk_cell BK175.out 2).trans rfl; have hfz14_0 := blk_frozen BK175.out 0; have hfz14_1 := blk_frozen BK175.out 1; have hfz14_2 := blk_frozen BK175.out 2) | ((with_reducible refine gate_callee (f := 26) rfl ?_); refine goesL_ (some 22) rfl rfl Try.func26 (by kernel_rfl) rfl #[.agg #[.int .i64 t172, .int .i64 t173, .int .i64 t174]] rfl (by (try simp only [List.map_toArray, List.map_cons, List.map_nil]); first | done | rfl | (simp only [List.length_drop, List.length_take]; rfl)) ?_; (with_reducible refine (impl_WholeParts.calls t172 t173 t174 t178 _ A7.out).mono ?_); rintro e w15 ⟨rfl, hb⟩; refine ⟨_, rfl, ?_⟩; have n0_ := Aside0.mk (blk_below (g := gb175) (o := .cells #[.int .i64 t172, .int .i64 t173, .int .i64 t174] 44 (0, 0)) (by (with_reducible repeat (first | refine blk_drewN ?_ _ | refine blk_drew ?_ | refine blk_alloc ?_ _)); exact BK175.out) hb); have n1_ := Aside0.mk (below_step (by repeat (first | (with_reducible first | exact HB.out | apply below_alloc | apply pw_below_drewN | apply below_drew1 | refine below_set ?_ GE175.out) | exact HB.out)) hb); clear BK175; clear HB; have BK175 := n0_; have HB := n1_; clear n0_ n1_; (try clear hb); (try clear hb2); (try clear hk); (try clear hi); have hcz16_0 : w15.cell? ⟨gb175, 0, none⟩ = some (.int .i64 t172) := (blk_cell BK175.out 0).trans rfl; have hcz16_1 : w15.cell? ⟨gb175, 1, none⟩ = some (.int .i64 t173) := (blk_cell BK175.out 1).trans rfl; have hcz16_2 : w15.cell? ⟨gb175, 2, none⟩ = some (.int .i64 t174) := (blk_cell BK175.out 2).trans rfl; have hfz16_0 := blk_frozen BK175.out 0; have hfz16_1 := blk_frozen BK175.out 1; have hfz16_2 := blk_frozen BK175.out 2) | ((with_reducible refine gate_callee (f := 27) rfl ?_); refine goesL_ (some 25) rfl rfl Try.func27 (by kernel_rfl) rfl #[.agg #[.int .i64 t172, .int .i64 t173, .int .i64 t174], .int .i64 t177] rfl (by (try simp only [List.map_toArray, List.map_cons, List.map_nil]); first | done | rfl | (simp only [List.length_drop, List.length_take]; rfl)) ?_; (with_reducible refine (impl_Amounts.calls k t172 t173 t174 t177 t179 _ A8.out).mono ?_); rintro e w17 ⟨v180, rfl, ho0, hb⟩; refine ⟨_, rfl, ?_⟩; have n0_ := Aside0.mk (Kd.R_lower ho0 (below_size (by repeat (first | (with_reducible first | exact HB.out | apply below_alloc | apply pw_below_drewN | apply below_drew1 | refine below_set ?_ GE175.out) | exact HB.out)))); have n1_ := Aside0.mk (blk_below (g := gb175) (o := .cells #[.int .i64 t172, .int .i64 t173, .int .i64 t174] 44 (0, 0)) (by (with_reducible repeat (first | refine blk_drewN ?_ _ | refine blk_drew ?_ | refine blk_alloc ?_ _)); exact BK175.out) hb); have n2_ := Aside0.mk (below_step (by repeat (first | (with_reducible first | exact HB.out | apply below_alloc | apply pw_below_drewN | apply below_drew1 | refine below_set ?_ GE175.out) | exact HB.out)) hb); clear BK175; clear HB; have HO181 := n0_; have BK175 := n1_; have HB := n2_; clear n0_ n1_ n2_; (try clear hb); (try clear hb2); (try clear hk); (try clear hi); (try clear ho0)))
   (try simp only [Act.put, List.setIfInBounds_toArray, List.set_cons_zero, List.set_cons_succ])
   go_cut [103] (fun v103 wc => ∃ (kq : Nat) (x103_8 : Bool), v103 = .bool x103_8 ∧ Aside0 (laws_FnDoughs.j0 kq (wrap64 (t176 * 9)) t177 t179 x103_8 t172 t173 t174 = some true) ∧ Aside0 (kq ≤ k) ∧ Aside0 (Kd.R (Kd.int .i64) 3 wc w.heap.size (fun _ => True) v180 t179) ∧ Aside0 (wc.heap[gb175]? = some (.cells #[.int .i64 t172, .int .i64 t173, .int .i64 t174] 44 (0, 0))) ∧ Aside0 (Below w.heap.size w wc))
   case first =>
    have H := HC9.out
    clear HC9
    by_cases c18 : t178 = (wrap64 ((wrap64 ((wrap64 (1000 + t172)) + t173)) + t174))
    · rw [if_pos c18] at H
      have c18b0 : (t178 == (wrap64 ((wrap64 ((wrap64 (1000 + t172)) + t173)) + t174))) = true := beq_iff_eq.mpr c18
      have c18b1 : (t178 != (wrap64 ((wrap64 ((wrap64 (1000 + t172)) + t173)) + t174))) = false := bne_eq_false_iff_eq.mpr c18
      clear c18
      (first | rw [c18b0] | (simp only [i64_w, i32_w]; rw [c18b0]) | skip)
      by_cases c19 : t177 < 0
      · rw [if_pos c19] at H
        have c19b0 : decide (t177 < 0) = true := decide_eq_true c19
        clear c19
        exact absurd H (laws_FnDoughs.j0_no _ _ _ _ _ _)
      · rw [if_neg c19] at H
        have c19b0 : decide (t177 < 0) = false := decide_eq_false c19
        clear c19
        by_cases c20 : (wrap64 (Int.tdiv (wrap64 (t177 * t178)) 1000)) < (wrap64 (t176 * 9))
        · rw [if_pos c20] at H
          have c20b0 : decide ((wrap64 (Int.tdiv (wrap64 (t177 * t178)) 1000)) < (wrap64 (t176 * 9))) = true := decide_eq_true c20
          clear c20
          exact absurd H (laws_FnDoughs.j0_no _ _ _ _ _ _)
        · rw [if_neg c20] at H
          have c20b0 : decide ((wrap64 (Int.tdiv (wrap64 (t177 * t178)) 1000)) < (wrap64 (t176 * 9))) = false := decide_eq_false c20
          clear c20
          by_cases c21 : t177 > 0
          · rw [if_pos c21] at H
            have c21b0 : decide (0 < t177) = true := decide_eq_true c21
            clear c21
            by_cases c22 : (wrap64 (Int.tdiv (wrap64 ((wrap64 (t177 - 1)) * t178)) 1000)) ≥ (wrap64 (t176 * 9))
            · rw [if_pos c22] at H
              have c22b0 : decide ((wrap64 (t176 * 9)) ≤ (wrap64 (Int.tdiv (wrap64 ((wrap64 (t177 - 1)) * t178)) 1000))) = true := decide_eq_true c22
              clear c22
              exact absurd H (laws_FnDoughs.j0_no _ _ _ _ _ _)
            · rw [if_neg c22] at H
              have c22b0 : decide ((wrap64 (t176 * 9)) ≤ (wrap64 (Int.tdiv (wrap64 ((wrap64 (t177 - 1)) * t178)) 1000))) = false := decide_eq_false c22
              clear c22
              by_cases c23 : (t179.length : Int) = 4
              · rw [if_pos c23] at H
                have c23b0 : ((t179.length : Int) == 4) = true := beq_iff_eq.mpr c23
                have c23b1 : ((t179.length : Int) != 4) = false := bne_eq_false_iff_eq.mpr c23
                clear c23
                by_cases c24 : 0 < (t179.length : Int)
                · rw [if_pos c24] at H
                  have c24b0 : decide (0 < (t179.length : Int)) = true := decide_eq_true c24
                  have c24b1 : decide (0 < t179.length) = true := decide_eq_true (by omega)
                  clear c24
                  by_cases c25 : (rd t179 0) = t177
                  · rw [if_pos c25] at H
                    have c25b0 : ((rd t179 0) == t177) = true := beq_iff_eq.mpr c25
                    have c25b1 : ((rd t179 0) != t177) = false := bne_eq_false_iff_eq.mpr c25
                    clear c25
                    by_cases c26 : 1 < (t179.length : Int)
                    · rw [if_pos c26] at H
                      have c26b0 : decide (1 < (t179.length : Int)) = true := decide_eq_true c26
                      have c26b1 : decide (1 < t179.length) = true := decide_eq_true (by omega)
                      clear c26
                      replace H := Option.bind_eq_some_iff.mp H
                      obtain ⟨t184, A270, H⟩ := H
                      replace H : (if (rd t179 1) = t184 then (if 2 < (t179.length : Int) then ((impl_PartOf.f t177 t173).bind fun t186 => (if (rd t179 2) = t186 then (if 3 < (t179.length : Int) then ((impl_PartOf.f t177 t174).bind fun t188 => (laws_FnDoughs.j0 k (wrap64 (t176 * 9)) t177 t179 ((rd t179 3) != t188) t172 t173 t174)) else (none)) else (laws_FnDoughs.j0 k (wrap64 (t176 * 9)) t177 t179 true t172 t173 t174))) else (none)) else (laws_FnDoughs.j0 k (wrap64 (t176 * 9)) t177 t179 true t172 t173 t174)) = some true := H
                      have A27 := Aside0.mk A270
                      clear A270
                      by_cases c28 : (rd t179 1) = t184
                      · rw [if_pos c28] at H
                        have c28b0 : ((rd t179 1) == t184) = true := beq_iff_eq.mpr c28
                        have c28b1 : ((rd t179 1) != t184) = false := bne_eq_false_iff_eq.mpr c28
                        clear c28
                        by_cases c29 : 2 < (t179.length : Int)
                        · rw [if_pos c29] at H
                          have c29b0 : decide (2 < (t179.length : Int)) = true := decide_eq_true c29
                          have c29b1 : decide (2 < t179.length) = true := decide_eq_true (by omega)
                          clear c29
                          replace H := Option.bind_eq_some_iff.mp H
                          obtain ⟨t186, A300, H⟩ := H
                          replace H : (if (rd t179 2) = t186 then (if 3 < (t179.length : Int) then ((impl_PartOf.f t177 t174).bind fun t188 => (laws_FnDoughs.j0 k (wrap64 (t176 * 9)) t177 t179 ((rd t179 3) != t188) t172 t173 t174)) else (none)) else (laws_FnDoughs.j0 k (wrap64 (t176 * 9)) t177 t179 true t172 t173 t174)) = some true := H
                          have A30 := Aside0.mk A300
                          clear A300
                          by_cases c31 : (rd t179 2) = t186
                          · rw [if_pos c31] at H
                            have c31b0 : ((rd t179 2) == t186) = true := beq_iff_eq.mpr c31
                            have c31b1 : ((rd t179 2) != t186) = false := bne_eq_false_iff_eq.mpr c31
                            clear c31
                            by_cases c32 : 3 < (t179.length : Int)
                            · rw [if_pos c32] at H
                              have c32b0 : decide (3 < (t179.length : Int)) = true := decide_eq_true c32
                              have c32b1 : decide (3 < t179.length) = true := decide_eq_true (by omega)
                              clear c32
                              replace H := Option.bind_eq_some_iff.mp H
                              obtain ⟨t188, A330, H⟩ := H
                              replace H : (laws_FnDoughs.j0 k (wrap64 (t176 * 9)) t177 t179 ((rd t179 3) != t188) t172 t173 t174) = some true := H
                              have A33 := Aside0.mk A330
                              clear A330
                              have H' := Aside0.mk H
                              clear H
                              try go_wp2
                              have n0_ := Aside0.mk (Kd.R_drew HO181.out)
                              have n1_ := Aside0.mk (blk_drew BK175.out)
                              have n2_ := Aside0.mk (below_drew1 HB.out)
                              clear HO181
                              clear BK175
                              clear HB
                              have HO181 := n0_
                              have BK175 := n1_
                              have HB := n2_
                              clear n0_ n1_ n2_
                              obtain ⟨Ao35, co35, eo35⟩ := Kd.R_slice HO181.out
                              (first | subst eo35 | (injection eo35 with f1_ f2_ f3_; have f4_ := f1_.symm; have f5_ := f3_.symm; clear f1_ f2_ f3_; subst f4_; subst f5_))
                              have p182 : 0 ≤ (0 : Int) := (by omega)
                              have q182 : 0 < (t179.length : Int) := of_decide_eq_true (by first | (with_reducible assumption) | assumption)
                              obtain ⟨ad182, e182, hx182_0⟩ := Kd.at_int (Kd.R_reads' HO181.out).2.2 0 p182 q182
                              cases e182
                              have qi182 : (0 < t179.length) = True := eq_true (by omega)
                              (try rw [show ((0 : Int)).toNat = 0 from rfl] at hx182_0)
                              (try rw [Addr.add_zero'] at hx182_0)
                              replace p182 := eq_true p182
                              replace q182 := eq_true q182
                              have p183 : 0 ≤ (1 : Int) := (by omega)
                              have q183 : 1 < (t179.length : Int) := of_decide_eq_true (by first | (with_reducible assumption) | assumption)
                              obtain ⟨ad183, e183, hx183_0⟩ := Kd.at_int (Kd.R_reads' HO181.out).2.2 1 p183 q183
                              obtain rfl : ad182 = ad183 := (by injection e183)
                              (try simp only [show (1 : Int).toNat = 1 from rfl, Nat.reduceMul, Nat.reduceEqDiff, Go.Addr.add, ↓reduceIte] at hx183_0)
                              have qi183 : (1 < t179.length) = True := eq_true (by omega)
                              (try rw [show ((1 : Int)).toNat = 1 from rfl] at hx183_0)
                              replace p183 := eq_true p183
                              replace q183 := eq_true q183
                              have p185 : 0 ≤ (2 : Int) := (by omega)
                              have q185 : 2 < (t179.length : Int) := of_decide_eq_true (by first | (with_reducible assumption) | assumption)
                              obtain ⟨ad185, e185, hx185_0⟩ := Kd.at_int (Kd.R_reads' HO181.out).2.2 2 p185 q185
                              obtain rfl : ad182 = ad185 := (by injection e185)
                              (try simp only [show (2 : Int).toNat = 2 from rfl, Nat.reduceMul, Nat.reduceEqDiff, Go.Addr.add, ↓reduceIte] at hx185_0)
                              have qi185 : (2 < t179.length) = True := eq_true (by omega)
                              (try rw [show ((2 : Int)).toNat = 2 from rfl] at hx185_0)
                              replace p185 := eq_true p185
                              replace q185 := eq_true q185
                              have p187 : 0 ≤ (3 : Int) := (by omega)
                              have q187 : 3 < (t179.length : Int) := of_decide_eq_true (by first | (with_reducible assumption) | assumption)
                              obtain ⟨ad187, e187, hx187_0⟩ := Kd.at_int (Kd.R_reads' HO181.out).2.2 3 p187 q187
                              obtain rfl : ad182 = ad187 := (by injection e187)
                              (try simp only [show (3 : Int).toNat = 3 from rfl, Nat.reduceMul, Nat.reduceEqDiff, Go.Addr.add, ↓reduceIte] at hx187_0)
                              have qi187 : (3 < t179.length) = True := eq_true (by omega)
                              (try rw [show ((3 : Int)).toNat = 3 from rfl] at hx187_0)
                              replace p187 := eq_true p187
                              replace q187 := eq_true q187
                              refine start_ (n := 78) (S := fun w' => w'.cell? ⟨gb175, 0, none⟩ = some (.int .i64 t172) ∧ w'.cell? ⟨gb175, 1, none⟩ = some (.int .i64 t173) ∧ w'.cell? ⟨gb175, 2, none⟩ = some (.int .i64 t174) ∧ w'.cell? ad182 = some (.int .i64 (rd t179 0)) ∧ w'.cell? ⟨ad182.block, ad182.off + 1, none⟩ = some (.int .i64 (rd t179 1)) ∧ w'.cell? ⟨ad182.block, ad182.off + 2, none⟩ = some (.int .i64 (rd t179 2)) ∧ w'.cell? ⟨ad182.block, ad182.off + 3, none⟩ = some (.int .i64 (rd t179 3))) (ds := []) laws_FnDoughs.m0 (by kernel_rfl) rfl rfl ⟨(blk_cell BK175.out 0).trans rfl, (blk_cell BK175.out 1).trans rfl, (blk_cell BK175.out 2).trans rfl, hx182_0, hx183_0, hx185_0, hx187_0⟩ (fun hHeld => ?_); refine with_tabW laws_FnDoughs.tab8 laws_FnDoughs.bits8 (fun HT_ HW_ => ?_)
                              generalize w17.drew = w34 at HO181 BK175 HB hx182_0 hx183_0 hx185_0 hx187_0 hHeld ⊢
                              refine pure_ (i := 0) (N := some 26) (v := ?_) (a' := ?_) laws_FnDoughs.m1 rfl rfl (any_of HT_.out (by kernel_rfl)) (fun _ _ _ h => h) (Or.inl ⟨by rfl, ?_⟩) ?_ ?_
                              rotate_left
                              · intro w'
                                go_simp
                                with_reducible rfl
                              rotate_left
                              · simp only [Act.put, List.setIfInBounds_toArray, List.set_cons_zero, List.set_cons_succ, i64_w, i32_w]
                                rfl
                              refine pure_ (i := 1) (N := some 27) (v := ?_) (a' := ?_) laws_FnDoughs.m2 rfl rfl (any_of HT_.out (by kernel_rfl)) (fun _ _ _ h => h) (Or.inl ⟨by rfl, ?_⟩) ?_ ?_
                              rotate_left
                              · intro w'
                                go_simp
                                with_reducible rfl
                              rotate_left
                              · simp only [Act.put, List.setIfInBounds_toArray, List.set_cons_zero, List.set_cons_succ, i64_w, i32_w]
                                rfl
                              refine pure_ (i := 4) (N := some 30) (v := ?_) (a' := ?_) laws_FnDoughs.m3 rfl rfl (any_of HT_.out (by kernel_rfl)) (fun _ _ _ h => h) (Or.inl ⟨by rfl, ?_⟩) ?_ ?_
                              rotate_left
                              · intro w'
                                go_simp
                                with_reducible rfl
                              rotate_left
                              · simp only [Act.put, List.setIfInBounds_toArray, List.set_cons_zero, List.set_cons_succ, i64_w, i32_w]
                                rfl
                              refine pure_ (i := 7) (N := some 33) (v := ?_) (a' := ?_) laws_FnDoughs.m4 rfl rfl (any_of HT_.out (by kernel_rfl)) (fun _ _ _ h => h) (Or.inl ⟨by rfl, ?_⟩) ?_ ?_
                              rotate_left
                              · intro w'
                                go_simp
                                with_reducible rfl
                              rotate_left
                              · simp only [Act.put, List.setIfInBounds_toArray, List.set_cons_zero, List.set_cons_succ, i64_w, i32_w]
                                rfl
                              refine take_ (i := 2) (N := some 28) (v := ?_) (a' := ?_) laws_FnDoughs.m5 rfl rfl (take_ofW HT_.out HW_.out (by kernel_rfl)) (fun _ _ _ h => h) (Or.inl ⟨by rfl, ?_⟩) hHeld ?_ ?_
                              rotate_left
                              · rintro w' ⟨s0, s1, s2, s3, s4, s5, s6⟩
                                go_simp
                                with_reducible rfl
                              rotate_left
                              · simp only [Act.put, List.setIfInBounds_toArray, List.set_cons_zero, List.set_cons_succ, i64_w, i32_w]
                                rfl
                              refine pure_ (i := 3) (N := some 29) (v := ?_) (a' := ?_) laws_FnDoughs.m6 rfl rfl (any_of HT_.out (by kernel_rfl)) (fun _ _ _ h => h) (Or.inl ⟨by rfl, ?_⟩) ?_ ?_
                              rotate_left
                              · intro w'
                                go_simp
                                with_reducible rfl
                              rotate_left
                              · simp only [Act.put, List.setIfInBounds_toArray, List.set_cons_zero, List.set_cons_succ, i64_w, i32_w]
                                rfl
                              refine take_ (i := 5) (N := some 31) (v := ?_) (a' := ?_) laws_FnDoughs.m7 rfl rfl (take_ofW HT_.out HW_.out (by kernel_rfl)) (fun _ _ _ h => h) (Or.inl ⟨by rfl, ?_⟩) hHeld ?_ ?_
                              rotate_left
                              · rintro w' ⟨s0, s1, s2, s3, s4, s5, s6⟩
                                go_simp
                                with_reducible rfl
                              rotate_left
                              · simp only [Act.put, List.setIfInBounds_toArray, List.set_cons_zero, List.set_cons_succ, i64_w, i32_w]
                                rfl
                              refine pure_ (i := 6) (N := some 32) (v := ?_) (a' := ?_) laws_FnDoughs.m8 rfl rfl (any_of HT_.out (by kernel_rfl)) (fun _ _ _ h => h) (Or.inl ⟨by rfl, ?_⟩) ?_ ?_
                              rotate_left
                              · intro w'
                                go_simp
                                with_reducible rfl
                              rotate_left
                              · simp only [Act.put, List.setIfInBounds_toArray, List.set_cons_zero, List.set_cons_succ, i64_w, i32_w]
                                rfl
                              refine take_ (i := 8) (N := some 34) (v := ?_) (a' := ?_) laws_FnDoughs.m9 rfl rfl (take_ofW HT_.out HW_.out (by kernel_rfl)) (fun _ _ _ h => h) (Or.inl ⟨by rfl, ?_⟩) hHeld ?_ ?_
                              rotate_left
                              · rintro w' ⟨s0, s1, s2, s3, s4, s5, s6⟩
                                go_simp
                                with_reducible rfl
                              rotate_left
                              · simp only [Act.put, List.setIfInBounds_toArray, List.set_cons_zero, List.set_cons_succ, i64_w, i32_w]
                                rfl
                              refine pure_ (i := 9) (N := some 35) (v := ?_) (a' := ?_) laws_FnDoughs.m10 rfl rfl (any_of HT_.out (by kernel_rfl)) (fun _ _ _ h => h) (Or.inl ⟨by rfl, ?_⟩) ?_ ?_
                              rotate_left
                              · intro w'
                                go_simp
                                with_reducible rfl
                              rotate_left
                              · simp only [Act.put, List.setIfInBounds_toArray, List.set_cons_zero, List.set_cons_succ, i64_w, i32_w]
                                rfl
                              refine pure_ (i := 10) (N := some 36) (v := ?_) (a' := ?_) laws_FnDoughs.m11 rfl rfl (any_of HT_.out (by kernel_rfl)) (fun _ _ _ h => h) (Or.inl ⟨by rfl, ?_⟩) ?_ ?_
                              rotate_left
                              · intro w'
                                go_simp
                                with_reducible rfl
                              rotate_left
                              · simp only [Act.put, List.setIfInBounds_toArray, List.set_cons_zero, List.set_cons_succ, i64_w, i32_w]
                                rfl
                              refine pure_ (i := 11) (N := some 37) (v := ?_) (a' := ?_) laws_FnDoughs.m12 rfl rfl (any_of HT_.out (by kernel_rfl)) (fun _ _ _ h => h) (Or.inl ⟨by rfl, ?_⟩) ?_ ?_
                              rotate_left
                              · intro w'
                                go_simp
                                with_reducible rfl
                              rotate_left
                              · simp only [Act.put, List.setIfInBounds_toArray, List.set_cons_zero, List.set_cons_succ, i64_w, i32_w]
                                rfl
                              refine pure_ (i := 12) (N := some 38) (v := ?_) (a' := ?_) laws_FnDoughs.m13 rfl rfl (any_of HT_.out (by kernel_rfl)) (fun _ _ _ h => h) (Or.inl ⟨by rfl, ?_⟩) ?_ ?_
                              rotate_left
                              · intro w'
                                go_simp
                                with_reducible rfl
                              rotate_left
                              · simp only [Act.put, List.setIfInBounds_toArray, List.set_cons_zero, List.set_cons_succ, i64_w, i32_w]
                                rfl
                              refine pure_ (i := 13) (N := some 39) (v := ?_) (a' := ?_) laws_FnDoughs.m14 rfl rfl (any_of HT_.out (by kernel_rfl)) (fun _ _ _ h => h) (Or.inl ⟨by rfl, ?_⟩) ?_ ?_
                              rotate_left
                              · intro w'
                                go_simp
                                with_reducible rfl
                              rotate_left
                              · simp only [Act.put, List.setIfInBounds_toArray, List.set_cons_zero, List.set_cons_succ, i64_w, i32_w]
                                rfl
                              refine pure_ (i := 14) (N := some 40) (v := ?_) (a' := ?_) laws_FnDoughs.m15 rfl rfl (any_of HT_.out (by kernel_rfl)) (fun _ _ _ h => h) (Or.inl ⟨by rfl, ?_⟩) ?_ ?_
                              rotate_left
                              · intro w'
                                go_simp
                                with_reducible rfl
                              rotate_left
                              · simp only [Act.put, List.setIfInBounds_toArray, List.set_cons_zero, List.set_cons_succ, i64_w, i32_w]
                                rfl
                              refine pure_ (i := 15) (N := some 41) (v := ?_) (a' := ?_) laws_FnDoughs.m16 rfl rfl (any_of HT_.out (by kernel_rfl)) (fun _ _ _ h => h) (Or.inl ⟨by rfl, ?_⟩) ?_ ?_
                              rotate_left
                              · intro w'
                                go_simp
                                with_reducible rfl
                              rotate_left
                              · simp only [Act.put, List.setIfInBounds_toArray, List.set_cons_zero, List.set_cons_succ, i64_w, i32_w]
                                rfl
                              refine pure_ (i := 16) (N := some 42) (v := ?_) (a' := ?_) laws_FnDoughs.m17 rfl rfl (any_of HT_.out (by kernel_rfl)) (fun _ _ _ h => h) (Or.inl ⟨by rfl, ?_⟩) ?_ ?_
                              rotate_left
                              · intro w'
                                go_simp
                                with_reducible rfl
                              rotate_left
                              · simp only [Act.put, List.setIfInBounds_toArray, List.set_cons_zero, List.set_cons_succ, i64_w, i32_w]
                                rfl
                              refine pure_ (i := 17) (N := some 43) (v := ?_) (a' := ?_) laws_FnDoughs.m18 rfl rfl (any_of HT_.out (by kernel_rfl)) (fun _ _ _ h => h) (Or.inl ⟨by rfl, ?_⟩) ?_ ?_
                              rotate_left
                              · intro w'
                                go_simp
                                with_reducible rfl
                              rotate_left
                              · simp only [Act.put, List.setIfInBounds_toArray, List.set_cons_zero, List.set_cons_succ, i64_w, i32_w]
                                rfl
                              refine pure_ (i := 18) (N := some 44) (v := ?_) (a' := ?_) laws_FnDoughs.m19 rfl rfl (any_of HT_.out (by kernel_rfl)) (fun _ _ _ h => h) (Or.inl ⟨by rfl, ?_⟩) ?_ ?_
                              rotate_left
                              · intro w'
                                go_simp
                                with_reducible rfl
                              rotate_left
                              · simp only [Act.put, List.setIfInBounds_toArray, List.set_cons_zero, List.set_cons_succ, i64_w, i32_w]
                                rfl
                              refine pure_ (i := 19) (N := some 45) (v := ?_) (a' := ?_) laws_FnDoughs.m20 rfl rfl (any_of HT_.out (by kernel_rfl)) (fun _ _ _ h => h) (Or.inl ⟨by rfl, ?_⟩) ?_ ?_
                              rotate_left
                              · intro w'
                                go_simp
                                with_reducible rfl
                              rotate_left
                              · simp only [Act.put, List.setIfInBounds_toArray, List.set_cons_zero, List.set_cons_succ, i64_w, i32_w]
                                rfl
                              refine pure_ (i := 20) (N := some 46) (v := ?_) (a' := ?_) laws_FnDoughs.m21 rfl rfl (any_of HT_.out (by kernel_rfl)) (fun _ _ _ h => h) (Or.inl ⟨by rfl, ?_⟩) ?_ ?_
                              rotate_left
                              · intro w'
                                go_simp
                                with_reducible rfl
                              rotate_left
                              · simp only [Act.put, List.setIfInBounds_toArray, List.set_cons_zero, List.set_cons_succ, i64_w, i32_w]
                                rfl
                              refine pure_ (i := 21) (N := some 47) (v := ?_) (a' := ?_) laws_FnDoughs.m22 rfl rfl (any_of HT_.out (by kernel_rfl)) (fun _ _ _ h => h) (Or.inl ⟨by rfl, ?_⟩) ?_ ?_
                              rotate_left
                              · intro w'
                                go_simp
                                with_reducible rfl
                              rotate_left
                              · simp only [Act.put, List.setIfInBounds_toArray, List.set_cons_zero, List.set_cons_succ, i64_w, i32_w]
                                rfl
                              refine pure_ (i := 22) (N := some 48) (v := ?_) (a' := ?_) laws_FnDoughs.m23 rfl rfl (any_of HT_.out (by kernel_rfl)) (fun _ _ _ h => h) (Or.inl ⟨by rfl, ?_⟩) ?_ ?_
                              rotate_left
                              · intro w'
                                go_simp
                                with_reducible rfl
                              rotate_left
                              · simp only [Act.put, List.setIfInBounds_toArray, List.set_cons_zero, List.set_cons_succ, i64_w, i32_w]
                                rfl
                              refine pure_ (i := 23) (N := some 49) (v := ?_) (a' := ?_) laws_FnDoughs.m24 rfl rfl (any_of HT_.out (by kernel_rfl)) (fun _ _ _ h => h) (Or.inl ⟨by rfl, ?_⟩) ?_ ?_
                              rotate_left
                              · intro w'
                                go_simp
                                with_reducible rfl
                              rotate_left
                              · simp only [Act.put, List.setIfInBounds_toArray, List.set_cons_zero, List.set_cons_succ, i64_w, i32_w]
                                rfl
                              refine pure_ (i := 24) (N := some 50) (v := ?_) (a' := ?_) laws_FnDoughs.m25 rfl rfl (any_of HT_.out (by kernel_rfl)) (fun _ _ _ h => h) (Or.inl ⟨by rfl, ?_⟩) ?_ ?_
                              rotate_left
                              · intro w'
                                go_simp
                                with_reducible rfl
                              rotate_left
                              · simp only [Act.put, List.setIfInBounds_toArray, List.set_cons_zero, List.set_cons_succ, i64_w, i32_w]
                                rfl
                              refine pure_ (i := 25) (N := some 51) (v := ?_) (a' := ?_) laws_FnDoughs.m26 rfl rfl (any_of HT_.out (by kernel_rfl)) (fun _ _ _ h => h) (Or.inl ⟨by rfl, ?_⟩) ?_ ?_
                              rotate_left
                              · intro w'
                                go_simp
                                with_reducible rfl
                              rotate_left
                              · simp only [Act.put, List.setIfInBounds_toArray, List.set_cons_zero, List.set_cons_succ, i64_w, i32_w]
                                rfl
                              refine pure_ (i := 26) (N := some 52) (v := ?_) (a' := ?_) laws_FnDoughs.m27 rfl rfl (any_of HT_.out (by kernel_rfl)) (fun _ _ _ h => h) (Or.inl ⟨by rfl, ?_⟩) ?_ ?_
                              rotate_left
                              · intro w'
                                go_simp
                                with_reducible rfl
                              rotate_left
                              · simp only [Act.put, List.setIfInBounds_toArray, List.set_cons_zero, List.set_cons_succ, i64_w, i32_w]
                                rfl
                              refine pure_ (i := 27) (N := some 53) (v := ?_) (a' := ?_) laws_FnDoughs.m28 rfl rfl (any_of HT_.out (by kernel_rfl)) (fun _ _ _ h => h) (Or.inl ⟨by rfl, ?_⟩) ?_ ?_
                              rotate_left
                              · intro w'
                                go_simp
                                with_reducible rfl
                              rotate_left
                              · simp only [Act.put, List.setIfInBounds_toArray, List.set_cons_zero, List.set_cons_succ, i64_w, i32_w]
                                rfl
                              refine pure_ (i := 28) (N := some 54) (v := ?_) (a' := ?_) laws_FnDoughs.m29 rfl rfl (any_of HT_.out (by kernel_rfl)) (fun _ _ _ h => h) (Or.inl ⟨by rfl, ?_⟩) ?_ ?_
                              rotate_left
                              · intro w'
                                go_simp
                                with_reducible rfl
                              rotate_left
                              · simp only [Act.put, List.setIfInBounds_toArray, List.set_cons_zero, List.set_cons_succ, i64_w, i32_w]
                                rfl
                              refine pure_ (i := 29) (N := some 55) (v := ?_) (a' := ?_) laws_FnDoughs.m30 rfl rfl (any_of HT_.out (by kernel_rfl)) (fun _ _ _ h => h) (Or.inl ⟨by rfl, ?_⟩) ?_ ?_
                              rotate_left
                              · intro w'
                                go_simp
                                with_reducible rfl
                              rotate_left
                              · simp only [Act.put, List.setIfInBounds_toArray, List.set_cons_zero, List.set_cons_succ, i64_w, i32_w]
                                rfl
                              refine pure_ (i := 30) (N := some 56) (v := ?_) (a' := ?_) laws_FnDoughs.m31 rfl rfl (any_of HT_.out (by kernel_rfl)) (fun _ _ _ h => h) (Or.inl ⟨by rfl, ?_⟩) ?_ ?_
                              rotate_left
                              · intro w'
                                go_simp
                                with_reducible rfl
                              rotate_left
                              · simp only [Act.put, List.setIfInBounds_toArray, List.set_cons_zero, List.set_cons_succ, i64_w, i32_w]
                                rfl
                              refine pure_ (i := 31) (N := some 57) (v := ?_) (a' := ?_) laws_FnDoughs.m32 rfl rfl (any_of HT_.out (by kernel_rfl)) (fun _ _ _ h => h) (Or.inl ⟨by rfl, ?_⟩) ?_ ?_
                              rotate_left
                              · intro w'
                                go_simp
                                with_reducible rfl
                              rotate_left
                              · simp only [Act.put, List.setIfInBounds_toArray, List.set_cons_zero, List.set_cons_succ, i64_w, i32_w]
                                rfl
                              refine pure_ (i := 32) (N := some 58) (v := ?_) (a' := ?_) laws_FnDoughs.m33 rfl rfl (any_of HT_.out (by kernel_rfl)) (fun _ _ _ h => h) (Or.inl ⟨by rfl, ?_⟩) ?_ ?_
                              rotate_left
                              · intro w'
                                go_simp
                                with_reducible rfl
                              rotate_left
                              · simp only [Act.put, List.setIfInBounds_toArray, List.set_cons_zero, List.set_cons_succ, i64_w, i32_w]
                                rfl
                              refine pure_ (i := 33) (N := some 59) (v := ?_) (a' := ?_) laws_FnDoughs.m34 rfl rfl (any_of HT_.out (by kernel_rfl)) (fun _ _ _ h => h) (Or.inl ⟨by rfl, ?_⟩) ?_ ?_
                              rotate_left
                              · intro w'
                                go_simp
                                with_reducible rfl
                              rotate_left
                              · simp only [Act.put, List.setIfInBounds_toArray, List.set_cons_zero, List.set_cons_succ, i64_w, i32_w]
                                rfl
                              refine pure_ (i := 34) (N := some 60) (v := ?_) (a' := ?_) laws_FnDoughs.m35 rfl rfl (any_of HT_.out (by kernel_rfl)) (fun _ _ _ h => h) (Or.inl ⟨by rfl, ?_⟩) ?_ ?_
                              rotate_left
                              · intro w'
                                go_simp
                                with_reducible rfl
                              rotate_left
                              · simp only [Act.put, List.setIfInBounds_toArray, List.set_cons_zero, List.set_cons_succ, i64_w, i32_w]
                                rfl
                              refine pure_ (i := 35) (N := some 61) (v := ?_) (a' := ?_) laws_FnDoughs.m36 rfl rfl (any_of HT_.out (by kernel_rfl)) (fun _ _ _ h => h) (Or.inl ⟨by rfl, ?_⟩) ?_ ?_
                              rotate_left
                              · intro w'
                                go_simp
                                with_reducible rfl
                              rotate_left
                              · simp only [Act.put, List.setIfInBounds_toArray, List.set_cons_zero, List.set_cons_succ, i64_w, i32_w]
                                rfl
                              refine pure_ (i := 36) (N := some 62) (v := ?_) (a' := ?_) laws_FnDoughs.m37 rfl rfl (any_of HT_.out (by kernel_rfl)) (fun _ _ _ h => h) (Or.inl ⟨by rfl, ?_⟩) ?_ ?_
                              rotate_left
                              · intro w'
                                go_simp
                                with_reducible rfl
                              rotate_left
                              · simp only [Act.put, List.setIfInBounds_toArray, List.set_cons_zero, List.set_cons_succ, i64_w, i32_w]
                                rfl
                              refine pure_ (i := 37) (N := some 63) (v := ?_) (a' := ?_) laws_FnDoughs.m38 rfl rfl (any_of HT_.out (by kernel_rfl)) (fun _ _ _ h => h) (Or.inl ⟨by rfl, ?_⟩) ?_ ?_
                              rotate_left
                              · intro w'
                                go_simp
                                with_reducible rfl
                              rotate_left
                              · simp only [Act.put, List.setIfInBounds_toArray, List.set_cons_zero, List.set_cons_succ, i64_w, i32_w]
                                rfl
                              refine pure_ (i := 38) (N := some 64) (v := ?_) (a' := ?_) laws_FnDoughs.m39 rfl rfl (any_of HT_.out (by kernel_rfl)) (fun _ _ _ h => h) (Or.inl ⟨by rfl, ?_⟩) ?_ ?_
                              rotate_left
                              · intro w'
                                go_simp
                                with_reducible rfl
                              rotate_left
                              · simp only [Act.put, List.setIfInBounds_toArray, List.set_cons_zero, List.set_cons_succ, i64_w, i32_w]
                                rfl
                              refine pure_ (i := 39) (N := some 65) (v := ?_) (a' := ?_) laws_FnDoughs.m40 rfl rfl (any_of HT_.out (by kernel_rfl)) (fun _ _ _ h => h) (Or.inl ⟨by rfl, ?_⟩) ?_ ?_
                              rotate_left
                              · intro w'
                                go_simp
                                with_reducible rfl
                              rotate_left
                              · simp only [Act.put, List.setIfInBounds_toArray, List.set_cons_zero, List.set_cons_succ, i64_w, i32_w]
                                rfl
                              refine pure_ (i := 40) (N := some 66) (v := ?_) (a' := ?_) laws_FnDoughs.m41 rfl rfl (any_of HT_.out (by kernel_rfl)) (fun _ _ _ h => h) (Or.inl ⟨by rfl, ?_⟩) ?_ ?_
                              rotate_left
                              · intro w'
                                go_simp
                                with_reducible rfl
                              rotate_left
                              · simp only [Act.put, List.setIfInBounds_toArray, List.set_cons_zero, List.set_cons_succ, i64_w, i32_w]
                                rfl
                              refine pure_ (i := 41) (N := some 67) (v := ?_) (a' := ?_) laws_FnDoughs.m42 rfl rfl (any_of HT_.out (by kernel_rfl)) (fun _ _ _ h => h) (Or.inl ⟨by rfl, ?_⟩) ?_ ?_
                              rotate_left
                              · intro w'
                                go_simp
                                with_reducible rfl
                              rotate_left
                              · simp only [Act.put, List.setIfInBounds_toArray, List.set_cons_zero, List.set_cons_succ, i64_w, i32_w]
                                rfl
                              refine pure_ (i := 42) (N := some 68) (v := ?_) (a' := ?_) laws_FnDoughs.m43 rfl rfl (any_of HT_.out (by kernel_rfl)) (fun _ _ _ h => h) (Or.inl ⟨by rfl, ?_⟩) ?_ ?_
                              rotate_left
                              · intro w'
                                go_simp
                                with_reducible rfl
                              rotate_left
                              · simp only [Act.put, List.setIfInBounds_toArray, List.set_cons_zero, List.set_cons_succ, i64_w, i32_w]
                                rfl
                              refine pure_ (i := 43) (N := some 69) (v := ?_) (a' := ?_) laws_FnDoughs.m44 rfl rfl (any_of HT_.out (by kernel_rfl)) (fun _ _ _ h => h) (Or.inl ⟨by rfl, ?_⟩) ?_ ?_
                              rotate_left
                              · intro w'
                                go_simp
                                with_reducible rfl
                              rotate_left
                              · simp only [Act.put, List.setIfInBounds_toArray, List.set_cons_zero, List.set_cons_succ, i64_w, i32_w]
                                rfl
                              refine pure_ (i := 45) (N := some 71) (v := ?_) (a' := ?_) laws_FnDoughs.m45 rfl rfl (any_of HT_.out (by kernel_rfl)) (fun _ _ _ h => h) (Or.inl ⟨by rfl, ?_⟩) ?_ ?_
                              rotate_left
                              · intro w'
                                go_simp
                                with_reducible rfl
                              rotate_left
                              · simp only [Act.put, List.setIfInBounds_toArray, List.set_cons_zero, List.set_cons_succ, i64_w, i32_w]
                                rfl
                              refine take_ (i := 44) (N := some 70) (v := ?_) (a' := ?_) laws_FnDoughs.m46 rfl rfl (take_ofW HT_.out HW_.out (by kernel_rfl)) (fun _ _ _ h => h) (Or.inl ⟨by rfl, ?_⟩) hHeld ?_ ?_
                              rotate_left
                              · rintro w' ⟨s0, s1, s2, s3, s4, s5, s6⟩
                                go_simp
                                with_reducible rfl
                              rotate_left
                              · simp only [Act.put, List.setIfInBounds_toArray, List.set_cons_zero, List.set_cons_succ, i64_w, i32_w]
                                rfl
                              refine pure_ (i := 46) (N := some 72) (v := ?_) (a' := ?_) laws_FnDoughs.m47 rfl rfl (any_of HT_.out (by kernel_rfl)) (fun _ _ _ h => h) (Or.inl ⟨by rfl, ?_⟩) ?_ ?_
                              rotate_left
                              · intro w'
                                go_simp
                                with_reducible rfl
                              rotate_left
                              · simp only [Act.put, List.setIfInBounds_toArray, List.set_cons_zero, List.set_cons_succ, i64_w, i32_w]
                                rfl
                              refine pure_ (i := 47) (N := some 73) (v := ?_) (a' := ?_) laws_FnDoughs.m48 rfl rfl (any_of HT_.out (by kernel_rfl)) (fun _ _ _ h => h) (Or.inl ⟨by rfl, ?_⟩) ?_ ?_
                              rotate_left
                              · intro w'
                                go_simp
                                with_reducible rfl
                              rotate_left
                              · simp only [Act.put, List.setIfInBounds_toArray, List.set_cons_zero, List.set_cons_succ, i64_w, i32_w]
                                rfl
                              refine pure_ (i := 48) (N := some 74) (v := ?_) (a' := ?_) laws_FnDoughs.m49 rfl rfl (any_of HT_.out (by kernel_rfl)) (fun _ _ _ h => h) (Or.inl ⟨by rfl, ?_⟩) ?_ ?_
                              rotate_left
                              · intro w'
                                go_simp
                                with_reducible rfl
                              rotate_left
                              · simp only [Act.put, List.setIfInBounds_toArray, List.set_cons_zero, List.set_cons_succ, i64_w, i32_w]
                                rfl
                              refine pure_ (i := 49) (N := some 75) (v := ?_) (a' := ?_) laws_FnDoughs.m50 rfl rfl (any_of HT_.out (by kernel_rfl)) (fun _ _ _ h => h) (Or.inl ⟨by rfl, ?_⟩) ?_ ?_
                              rotate_left
                              · intro w'
                                go_simp
                                with_reducible rfl
                              rotate_left
                              · simp only [Act.put, List.setIfInBounds_toArray, List.set_cons_zero, List.set_cons_succ, i64_w, i32_w]
                                rfl
                              refine pure_ (i := 50) (N := some 76) (v := ?_) (a' := ?_) laws_FnDoughs.m51 rfl rfl (any_of HT_.out (by kernel_rfl)) (fun _ _ _ h => h) (Or.inl ⟨by rfl, ?_⟩) ?_ ?_
                              rotate_left
                              · intro w'
                                go_simp
                                with_reducible rfl
                              rotate_left
                              · simp only [Act.put, List.setIfInBounds_toArray, List.set_cons_zero, List.set_cons_succ, i64_w, i32_w]
                                rfl
                              refine pure_ (i := 52) (N := some 78) (v := ?_) (a' := ?_) laws_FnDoughs.m52 rfl rfl (any_of HT_.out (by kernel_rfl)) (fun _ _ _ h => h) (Or.inl ⟨by rfl, ?_⟩) ?_ ?_
                              rotate_left
                              · intro w'
                                go_simp
                                with_reducible rfl
                              rotate_left
                              · simp only [Act.put, List.setIfInBounds_toArray, List.set_cons_zero, List.set_cons_succ, i64_w, i32_w]
                                rfl
                              refine pure_ (i := 53) (N := some 79) (v := ?_) (a' := ?_) laws_FnDoughs.m53 rfl rfl (any_of HT_.out (by kernel_rfl)) (fun _ _ _ h => h) (Or.inl ⟨by rfl, ?_⟩) ?_ ?_
                              rotate_left
                              · intro w'
                                go_simp
                                with_reducible rfl
                              rotate_left
                              · simp only [Act.put, List.setIfInBounds_toArray, List.set_cons_zero, List.set_cons_succ, i64_w, i32_w]
                                rfl
                              refine take_ (i := 51) (N := some 77) (v := ?_) (a' := ?_) laws_FnDoughs.m54 rfl rfl (take_ofW HT_.out HW_.out (by kernel_rfl)) (fun _ _ _ h => h) (Or.inl ⟨by rfl, ?_⟩) hHeld ?_ ?_
                              rotate_left
                              · rintro w' ⟨s0, s1, s2, s3, s4, s5, s6⟩
                                go_simp
                                with_reducible rfl
                              rotate_left
                              · simp only [Act.put, List.setIfInBounds_toArray, List.set_cons_zero, List.set_cons_succ, i64_w, i32_w]
                                rfl
                              refine take_ (i := 54) (N := some 80) (v := ?_) (a' := ?_) laws_FnDoughs.m55 rfl rfl (take_ofW HT_.out HW_.out (by kernel_rfl)) (fun _ _ _ h => h) (Or.inl ⟨by rfl, ?_⟩) hHeld ?_ ?_
                              rotate_left
                              · rintro w' ⟨s0, s1, s2, s3, s4, s5, s6⟩
                                go_simp
                                with_reducible rfl
                              rotate_left
                              · simp only [Act.put, List.setIfInBounds_toArray, List.set_cons_zero, List.set_cons_succ, i64_w, i32_w]
                                rfl
                              refine one_ (i := 55) (N := some 81) laws_FnDoughs.m56 rfl rfl (one_of HT_.out (by kernel_rfl)) (by decide) (fun K hK => ?_)
                              refine goes_ Try.func28 (by kernel_rfl) rfl #[.int .i64 t177, .int .i64 t172] (by rfl) rfl rfl (by (try simp only [List.map_toArray, List.map_cons, List.map_nil]); first | done | rfl | (simp only [List.length_drop, List.length_take]; rfl)) ?_
                              with_reducible refine (impl_PartOf.calls t177 t172 t184 _ A27.out).mono ?_
                              rintro e w' ⟨rfl, ⟨nd, rfl⟩⟩
                              refine ⟨_, rfl, ?_⟩
                              refine hK.out _ _ ⟨(blk_cell BK175.out 0).trans rfl, (blk_cell BK175.out 1).trans rfl, (blk_cell BK175.out 2).trans rfl, hHeld.2.2.2.1, hHeld.2.2.2.2.1, hHeld.2.2.2.2.2.1, hHeld.2.2.2.2.2.2⟩ (fun hHeld => ?_)
                              clear hK K
                              refine norm_ (a' := ?_) ?_ ?_
                              rotate_left
                              · show Act.put _ (some 81) _ = _
                                simp only [Act.put, List.setIfInBounds_toArray, List.set_cons_zero, List.set_cons_succ, i64_w, i32_w]
                                rfl
                              refine pure_ (i := 56) (N := some 82) (v := ?_) (a' := ?_) laws_FnDoughs.m57 rfl rfl (any_of HT_.out (by kernel_rfl)) (fun _ _ _ h => h) (Or.inl ⟨by rfl, ?_⟩) ?_ ?_
                              rotate_left
                              · intro w'
                                go_simp
                                with_reducible rfl
                              rotate_left
                              · simp only [Act.put, List.setIfInBounds_toArray, List.set_cons_zero, List.set_cons_succ, i64_w, i32_w]
                                rfl
                              refine pure_ (i := 57) (N := some 83) (v := ?_) (a' := ?_) laws_FnDoughs.m58 rfl rfl (any_of HT_.out (by kernel_rfl)) (fun _ _ _ h => h) (Or.inl ⟨by rfl, ?_⟩) ?_ ?_
                              rotate_left
                              · intro w'
                                go_simp
                                with_reducible rfl
                              rotate_left
                              · simp only [Act.put, List.setIfInBounds_toArray, List.set_cons_zero, List.set_cons_succ, i64_w, i32_w]
                                rfl
                              refine pure_ (i := 58) (N := some 84) (v := ?_) (a' := ?_) laws_FnDoughs.m59 rfl rfl (any_of HT_.out (by kernel_rfl)) (fun _ _ _ h => h) (Or.inl ⟨by rfl, ?_⟩) ?_ ?_
                              rotate_left
                              · intro w'
                                go_simp
                                with_reducible rfl
                              rotate_left
                              · simp only [Act.put, List.setIfInBounds_toArray, List.set_cons_zero, List.set_cons_succ, i64_w, i32_w]
                                rfl
                              refine pure_ (i := 59) (N := some 85) (v := ?_) (a' := ?_) laws_FnDoughs.m60 rfl rfl (any_of HT_.out (by kernel_rfl)) (fun _ _ _ h => h) (Or.inl ⟨by rfl, ?_⟩) ?_ ?_
                              rotate_left
                              · intro w'
                                go_simp
                                with_reducible rfl
                              rotate_left
                              · simp only [Act.put, List.setIfInBounds_toArray, List.set_cons_zero, List.set_cons_succ, i64_w, i32_w]
                                rfl
                              refine pure_ (i := 60) (N := some 86) (v := ?_) (a' := ?_) laws_FnDoughs.m61 rfl rfl (any_of HT_.out (by kernel_rfl)) (fun _ _ _ h => h) (Or.inl ⟨by rfl, ?_⟩) ?_ ?_
                              rotate_left
                              · intro w'
                                go_simp
                                with_reducible rfl
                              rotate_left
                              · simp only [Act.put, List.setIfInBounds_toArray, List.set_cons_zero, List.set_cons_succ, i64_w, i32_w]
                                rfl
                              refine pure_ (i := 62) (N := some 88) (v := ?_) (a' := ?_) laws_FnDoughs.m62 rfl rfl (any_of HT_.out (by kernel_rfl)) (fun _ _ _ h => h) (Or.inl ⟨by rfl, ?_⟩) ?_ ?_
                              rotate_left
                              · intro w'
                                go_simp
                                with_reducible rfl
                              rotate_left
                              · simp only [Act.put, List.setIfInBounds_toArray, List.set_cons_zero, List.set_cons_succ, i64_w, i32_w]
                                rfl
                              refine pure_ (i := 63) (N := some 89) (v := ?_) (a' := ?_) laws_FnDoughs.m63 rfl rfl (any_of HT_.out (by kernel_rfl)) (fun _ _ _ h => h) (Or.inl ⟨by rfl, ?_⟩) ?_ ?_
                              rotate_left
                              · intro w'
                                go_simp
                                with_reducible rfl
                              rotate_left
                              · simp only [Act.put, List.setIfInBounds_toArray, List.set_cons_zero, List.set_cons_succ, i64_w, i32_w]
                                rfl
                              refine take_ (i := 61) (N := some 87) (v := ?_) (a' := ?_) laws_FnDoughs.m64 rfl rfl (take_ofW HT_.out HW_.out (by kernel_rfl)) (fun _ _ _ h => h) (Or.inl ⟨by rfl, ?_⟩) hHeld ?_ ?_
                              rotate_left
                              · rintro w' ⟨s0, s1, s2, s3, s4, s5, s6⟩
                                go_simp
                                with_reducible rfl
                              rotate_left
                              · simp only [Act.put, List.setIfInBounds_toArray, List.set_cons_zero, List.set_cons_succ, i64_w, i32_w]
                                rfl
                              refine take_ (i := 64) (N := some 90) (v := ?_) (a' := ?_) laws_FnDoughs.m65 rfl rfl (take_ofW HT_.out HW_.out (by kernel_rfl)) (fun _ _ _ h => h) (Or.inl ⟨by rfl, ?_⟩) hHeld ?_ ?_
                              rotate_left
                              · rintro w' ⟨s0, s1, s2, s3, s4, s5, s6⟩
                                go_simp
                                with_reducible rfl
                              rotate_left
                              · simp only [Act.put, List.setIfInBounds_toArray, List.set_cons_zero, List.set_cons_succ, i64_w, i32_w]
                                rfl
                              refine one_ (i := 65) (N := some 91) laws_FnDoughs.m66 rfl rfl (one_of HT_.out (by kernel_rfl)) (by decide) (fun K hK => ?_)
                              refine goes_ Try.func28 (by kernel_rfl) rfl #[.int .i64 t177, .int .i64 t173] (by rfl) rfl rfl (by (try simp only [List.map_toArray, List.map_cons, List.map_nil]); first | done | rfl | (simp only [List.length_drop, List.length_take]; rfl)) ?_
                              with_reducible refine (impl_PartOf.calls t177 t173 t186 _ A30.out).mono ?_
                              rintro e w' ⟨rfl, ⟨nd, rfl⟩⟩
                              refine ⟨_, rfl, ?_⟩
                              refine hK.out _ _ ⟨(blk_cell BK175.out 0).trans rfl, (blk_cell BK175.out 1).trans rfl, (blk_cell BK175.out 2).trans rfl, hHeld.2.2.2.1, hHeld.2.2.2.2.1, hHeld.2.2.2.2.2.1, hHeld.2.2.2.2.2.2⟩ (fun hHeld => ?_)
                              clear hK K
                              refine norm_ (a' := ?_) ?_ ?_
                              rotate_left
                              · show Act.put _ (some 91) _ = _
                                simp only [Act.put, List.setIfInBounds_toArray, List.set_cons_zero, List.set_cons_succ, i64_w, i32_w]
                                rfl
                              refine pure_ (i := 66) (N := some 92) (v := ?_) (a' := ?_) laws_FnDoughs.m67 rfl rfl (any_of HT_.out (by kernel_rfl)) (fun _ _ _ h => h) (Or.inl ⟨by rfl, ?_⟩) ?_ ?_
                              rotate_left
                              · intro w'
                                go_simp
                                with_reducible rfl
                              rotate_left
                              · simp only [Act.put, List.setIfInBounds_toArray, List.set_cons_zero, List.set_cons_succ, i64_w, i32_w]
                                rfl
                              refine pure_ (i := 67) (N := some 93) (v := ?_) (a' := ?_) laws_FnDoughs.m68 rfl rfl (any_of HT_.out (by kernel_rfl)) (fun _ _ _ h => h) (Or.inl ⟨by rfl, ?_⟩) ?_ ?_
                              rotate_left
                              · intro w'
                                go_simp
                                with_reducible rfl
                              rotate_left
                              · simp only [Act.put, List.setIfInBounds_toArray, List.set_cons_zero, List.set_cons_succ, i64_w, i32_w]
                                rfl
                              refine pure_ (i := 68) (N := some 94) (v := ?_) (a' := ?_) laws_FnDoughs.m69 rfl rfl (any_of HT_.out (by kernel_rfl)) (fun _ _ _ h => h) (Or.inl ⟨by rfl, ?_⟩) ?_ ?_
                              rotate_left
                              · intro w'
                                go_simp
                                with_reducible rfl
                              rotate_left
                              · simp only [Act.put, List.setIfInBounds_toArray, List.set_cons_zero, List.set_cons_succ, i64_w, i32_w]
                                rfl
                              refine pure_ (i := 69) (N := some 95) (v := ?_) (a' := ?_) laws_FnDoughs.m70 rfl rfl (any_of HT_.out (by kernel_rfl)) (fun _ _ _ h => h) (Or.inl ⟨by rfl, ?_⟩) ?_ ?_
                              rotate_left
                              · intro w'
                                go_simp
                                with_reducible rfl
                              rotate_left
                              · simp only [Act.put, List.setIfInBounds_toArray, List.set_cons_zero, List.set_cons_succ, i64_w, i32_w]
                                rfl
                              refine pure_ (i := 70) (N := some 96) (v := ?_) (a' := ?_) laws_FnDoughs.m71 rfl rfl (any_of HT_.out (by kernel_rfl)) (fun _ _ _ h => h) (Or.inl ⟨by rfl, ?_⟩) ?_ ?_
                              rotate_left
                              · intro w'
                                go_simp
                                with_reducible rfl
                              rotate_left
                              · simp only [Act.put, List.setIfInBounds_toArray, List.set_cons_zero, List.set_cons_succ, i64_w, i32_w]
                                rfl
                              refine pure_ (i := 72) (N := some 98) (v := ?_) (a' := ?_) laws_FnDoughs.m72 rfl rfl (any_of HT_.out (by kernel_rfl)) (fun _ _ _ h => h) (Or.inl ⟨by rfl, ?_⟩) ?_ ?_
                              rotate_left
                              · intro w'
                                go_simp
                                with_reducible rfl
                              rotate_left
                              · simp only [Act.put, List.setIfInBounds_toArray, List.set_cons_zero, List.set_cons_succ, i64_w, i32_w]
                                rfl
                              refine pure_ (i := 73) (N := some 99) (v := ?_) (a' := ?_) laws_FnDoughs.m73 rfl rfl (any_of HT_.out (by kernel_rfl)) (fun _ _ _ h => h) (Or.inl ⟨by rfl, ?_⟩) ?_ ?_
                              rotate_left
                              · intro w'
                                go_simp
                                with_reducible rfl
                              rotate_left
                              · simp only [Act.put, List.setIfInBounds_toArray, List.set_cons_zero, List.set_cons_succ, i64_w, i32_w]
                                rfl
                              refine take_ (i := 71) (N := some 97) (v := ?_) (a' := ?_) laws_FnDoughs.m74 rfl rfl (take_ofW HT_.out HW_.out (by kernel_rfl)) (fun _ _ _ h => h) (Or.inl ⟨by rfl, ?_⟩) hHeld ?_ ?_
                              rotate_left
                              · rintro w' ⟨s0, s1, s2, s3, s4, s5, s6⟩
                                go_simp
                                with_reducible rfl
                              rotate_left
                              · simp only [Act.put, List.setIfInBounds_toArray, List.set_cons_zero, List.set_cons_succ, i64_w, i32_w]
                                rfl
                              refine take_ (i := 74) (N := some 100) (v := ?_) (a' := ?_) laws_FnDoughs.m75 rfl rfl (take_ofW HT_.out HW_.out (by kernel_rfl)) (fun _ _ _ h => h) (Or.inl ⟨by rfl, ?_⟩) hHeld ?_ ?_
                              rotate_left
                              · rintro w' ⟨s0, s1, s2, s3, s4, s5, s6⟩
                                go_simp
                                with_reducible rfl
                              rotate_left
                              · simp only [Act.put, List.setIfInBounds_toArray, List.set_cons_zero, List.set_cons_succ, i64_w, i32_w]
                                rfl
                              refine one_ (i := 75) (N := some 101) laws_FnDoughs.m76 rfl rfl (one_of HT_.out (by kernel_rfl)) (by decide) (fun K hK => ?_)
                              refine goes_ Try.func28 (by kernel_rfl) rfl #[.int .i64 t177, .int .i64 t174] (by rfl) rfl rfl (by (try simp only [List.map_toArray, List.map_cons, List.map_nil]); first | done | rfl | (simp only [List.length_drop, List.length_take]; rfl)) ?_
                              with_reducible refine (impl_PartOf.calls t177 t174 t188 _ A33.out).mono ?_
                              rintro e w' ⟨rfl, ⟨nd, rfl⟩⟩
                              refine ⟨_, rfl, ?_⟩
                              refine hK.out _ _ ⟨(blk_cell BK175.out 0).trans rfl, (blk_cell BK175.out 1).trans rfl, (blk_cell BK175.out 2).trans rfl, hHeld.2.2.2.1, hHeld.2.2.2.2.1, hHeld.2.2.2.2.2.1, hHeld.2.2.2.2.2.2⟩ (fun hHeld => ?_)
                              clear hK K
                              refine norm_ (a' := ?_) ?_ ?_
                              rotate_left
                              · show Act.put _ (some 101) _ = _
                                simp only [Act.put, List.setIfInBounds_toArray, List.set_cons_zero, List.set_cons_succ, i64_w, i32_w]
                                rfl
                              refine pure_ (i := 76) (N := some 102) (v := ?_) (a' := ?_) laws_FnDoughs.m77 rfl rfl (any_of HT_.out (by kernel_rfl)) (fun _ _ _ h => h) (Or.inl ⟨by rfl, ?_⟩) ?_ ?_
                              rotate_left
                              · intro w'
                                go_simp
                                with_reducible rfl
                              rotate_left
                              · simp only [Act.put, List.setIfInBounds_toArray, List.set_cons_zero, List.set_cons_succ, i64_w, i32_w]
                                rfl
                              refine pure_ (i := 77) (N := some 103) (v := ?_) (a' := ?_) laws_FnDoughs.m78 rfl rfl (any_of HT_.out (by kernel_rfl)) (fun _ _ _ h => h) (Or.inl ⟨by rfl, ?_⟩) ?_ ?_
                              rotate_left
                              · intro w'
                                go_simp
                                with_reducible rfl
                              rotate_left
                              · simp only [Act.put, List.setIfInBounds_toArray, List.set_cons_zero, List.set_cons_succ, i64_w, i32_w]
                                rfl
                              refine done_ (done_of HT_.out (by kernel_rfl)) ?_
                              try go_wp2
                              go_meet
                              case rel => exact ⟨_, (((rd t179 3) != t188)), (by first | rfl | (simp; done) | (simp [*]; done)), H', ⟨by first | omega | exact Nat.le_refl _⟩, ⟨by (with_reducible repeat (first | apply Kd.R_alloc | apply Kd.R_drewN | apply Kd.R_drew)); exact HO181.out⟩, ⟨by (with_reducible repeat (first | refine blk_drewN ?_ _ | refine blk_drew ?_ | refine blk_alloc ?_ _)); exact BK175.out⟩, ⟨by repeat (first | (with_reducible first | exact HB.out | apply below_alloc | apply pw_below_drewN | apply below_drew1 | refine below_set ?_ GE175.out) | exact HB.out)⟩⟩
                            · rw [if_neg c32] at H
                              exact absurd H (by simp)
                          · rw [if_neg c31] at H
                            have c31b0 : ((rd t179 2) == t186) = false := beq_eq_false_iff_ne.mpr c31
                            have c31b1 : ((rd t179 2) != t186) = true := bne_iff_ne.mpr c31
                            exact absurd H (laws_FnDoughs.j0_no _ _ _ _ _ _)
                        · rw [if_neg c29] at H
                          exact absurd H (by simp)
                      · rw [if_neg c28] at H
                        have c28b0 : ((rd t179 1) == t184) = false := beq_eq_false_iff_ne.mpr c28
                        have c28b1 : ((rd t179 1) != t184) = true := bne_iff_ne.mpr c28
                        exact absurd H (laws_FnDoughs.j0_no _ _ _ _ _ _)
                    · rw [if_neg c26] at H
                      exact absurd H (by simp)
                  · rw [if_neg c25] at H
                    have c25b0 : ((rd t179 0) == t177) = false := beq_eq_false_iff_ne.mpr c25
                    have c25b1 : ((rd t179 0) != t177) = true := bne_iff_ne.mpr c25
                    exact absurd H (laws_FnDoughs.j0_no _ _ _ _ _ _)
                · rw [if_neg c24] at H
                  exact absurd H (by simp)
              · rw [if_neg c23] at H
                have c23b0 : ((t179.length : Int) == 4) = false := beq_eq_false_iff_ne.mpr c23
                have c23b1 : ((t179.length : Int) != 4) = true := bne_iff_ne.mpr c23
                exact absurd H (laws_FnDoughs.j0_no _ _ _ _ _ _)
          · rw [if_neg c21] at H
            have c21b0 : decide (0 < t177) = false := decide_eq_false c21
            clear c21
            by_cases c36 : (t179.length : Int) = 4
            · rw [if_pos c36] at H
              have c36b0 : ((t179.length : Int) == 4) = true := beq_iff_eq.mpr c36
              have c36b1 : ((t179.length : Int) != 4) = false := bne_eq_false_iff_eq.mpr c36
              clear c36
              by_cases c37 : 0 < (t179.length : Int)
              · rw [if_pos c37] at H
                have c37b0 : decide (0 < (t179.length : Int)) = true := decide_eq_true c37
                have c37b1 : decide (0 < t179.length) = true := decide_eq_true (by omega)
                clear c37
                by_cases c38 : (rd t179 0) = t177
                · rw [if_pos c38] at H
                  have c38b0 : ((rd t179 0) == t177) = true := beq_iff_eq.mpr c38
                  have c38b1 : ((rd t179 0) != t177) = false := bne_eq_false_iff_eq.mpr c38
                  clear c38
                  by_cases c39 : 1 < (t179.length : Int)
                  · rw [if_pos c39] at H
                    have c39b0 : decide (1 < (t179.length : Int)) = true := decide_eq_true c39
                    have c39b1 : decide (1 < t179.length) = true := decide_eq_true (by omega)
                    clear c39
                    replace H := Option.bind_eq_some_iff.mp H
                    obtain ⟨t191, A400, H⟩ := H
                    replace H : (if (rd t179 1) = t191 then (if 2 < (t179.length : Int) then ((impl_PartOf.f t177 t173).bind fun t193 => (if (rd t179 2) = t193 then (if 3 < (t179.length : Int) then ((impl_PartOf.f t177 t174).bind fun t195 => (laws_FnDoughs.j0 k (wrap64 (t176 * 9)) t177 t179 ((rd t179 3) != t195) t172 t173 t174)) else (none)) else (laws_FnDoughs.j0 k (wrap64 (t176 * 9)) t177 t179 true t172 t173 t174))) else (none)) else (laws_FnDoughs.j0 k (wrap64 (t176 * 9)) t177 t179 true t172 t173 t174)) = some true := H
                    have A40 := Aside0.mk A400
                    clear A400
                    by_cases c41 : (rd t179 1) = t191
                    · rw [if_pos c41] at H
                      have c41b0 : ((rd t179 1) == t191) = true := beq_iff_eq.mpr c41
                      have c41b1 : ((rd t179 1) != t191) = false := bne_eq_false_iff_eq.mpr c41
                      clear c41
                      by_cases c42 : 2 < (t179.length : Int)
                      · rw [if_pos c42] at H
                        have c42b0 : decide (2 < (t179.length : Int)) = true := decide_eq_true c42
                        have c42b1 : decide (2 < t179.length) = true := decide_eq_true (by omega)
                        clear c42
                        replace H := Option.bind_eq_some_iff.mp H
                        obtain ⟨t193, A430, H⟩ := H
                        replace H : (if (rd t179 2) = t193 then (if 3 < (t179.length : Int) then ((impl_PartOf.f t177 t174).bind fun t195 => (laws_FnDoughs.j0 k (wrap64 (t176 * 9)) t177 t179 ((rd t179 3) != t195) t172 t173 t174)) else (none)) else (laws_FnDoughs.j0 k (wrap64 (t176 * 9)) t177 t179 true t172 t173 t174)) = some true := H
                        have A43 := Aside0.mk A430
                        clear A430
                        by_cases c44 : (rd t179 2) = t193
                        · rw [if_pos c44] at H
                          have c44b0 : ((rd t179 2) == t193) = true := beq_iff_eq.mpr c44
                          have c44b1 : ((rd t179 2) != t193) = false := bne_eq_false_iff_eq.mpr c44
                          clear c44
                          by_cases c45 : 3 < (t179.length : Int)
                          · rw [if_pos c45] at H
                            have c45b0 : decide (3 < (t179.length : Int)) = true := decide_eq_true c45
                            have c45b1 : decide (3 < t179.length) = true := decide_eq_true (by omega)
                            clear c45
                            replace H := Option.bind_eq_some_iff.mp H
                            obtain ⟨t195, A460, H⟩ := H
                            replace H : (laws_FnDoughs.j0 k (wrap64 (t176 * 9)) t177 t179 ((rd t179 3) != t195) t172 t173 t174) = some true := H
                            have A46 := Aside0.mk A460
                            clear A460
                            have H' := Aside0.mk H
                            clear H
                            try go_wp2
                            have n0_ := Aside0.mk (Kd.R_drew HO181.out)
                            have n1_ := Aside0.mk (blk_drew BK175.out)
                            have n2_ := Aside0.mk (below_drew1 HB.out)
                            clear HO181
                            clear BK175
                            clear HB
                            have HO181 := n0_
                            have BK175 := n1_
                            have HB := n2_
                            clear n0_ n1_ n2_
                            obtain ⟨Ao48, co48, eo48⟩ := Kd.R_slice HO181.out
                            (first | subst eo48 | (injection eo48 with f1_ f2_ f3_; have f4_ := f1_.symm; have f5_ := f3_.symm; clear f1_ f2_ f3_; subst f4_; subst f5_))
                            have p189 : 0 ≤ (0 : Int) := (by omega)
                            have q189 : 0 < (t179.length : Int) := of_decide_eq_true (by first | (with_reducible assumption) | assumption)
                            obtain ⟨ad189, e189, hx189_0⟩ := Kd.at_int (Kd.R_reads' HO181.out).2.2 0 p189 q189
                            cases e189
                            have qi189 : (0 < t179.length) = True := eq_true (by omega)
                            (try rw [show ((0 : Int)).toNat = 0 from rfl] at hx189_0)
                            (try rw [Addr.add_zero'] at hx189_0)
                            replace p189 := eq_true p189
                            replace q189 := eq_true q189
                            have p190 : 0 ≤ (1 : Int) := (by omega)
                            have q190 : 1 < (t179.length : Int) := of_decide_eq_true (by first | (with_reducible assumption) | assumption)
                            obtain ⟨ad190, e190, hx190_0⟩ := Kd.at_int (Kd.R_reads' HO181.out).2.2 1 p190 q190
                            obtain rfl : ad189 = ad190 := (by injection e190)
                            (try simp only [show (1 : Int).toNat = 1 from rfl, Nat.reduceMul, Nat.reduceEqDiff, Go.Addr.add, ↓reduceIte] at hx190_0)
                            have qi190 : (1 < t179.length) = True := eq_true (by omega)
                            (try rw [show ((1 : Int)).toNat = 1 from rfl] at hx190_0)
                            replace p190 := eq_true p190
                            replace q190 := eq_true q190
                            have p192 : 0 ≤ (2 : Int) := (by omega)
                            have q192 : 2 < (t179.length : Int) := of_decide_eq_true (by first | (with_reducible assumption) | assumption)
                            obtain ⟨ad192, e192, hx192_0⟩ := Kd.at_int (Kd.R_reads' HO181.out).2.2 2 p192 q192
                            obtain rfl : ad189 = ad192 := (by injection e192)
                            (try simp only [show (2 : Int).toNat = 2 from rfl, Nat.reduceMul, Nat.reduceEqDiff, Go.Addr.add, ↓reduceIte] at hx192_0)
                            have qi192 : (2 < t179.length) = True := eq_true (by omega)
                            (try rw [show ((2 : Int)).toNat = 2 from rfl] at hx192_0)
                            replace p192 := eq_true p192
                            replace q192 := eq_true q192
                            have p194 : 0 ≤ (3 : Int) := (by omega)
                            have q194 : 3 < (t179.length : Int) := of_decide_eq_true (by first | (with_reducible assumption) | assumption)
                            obtain ⟨ad194, e194, hx194_0⟩ := Kd.at_int (Kd.R_reads' HO181.out).2.2 3 p194 q194
                            obtain rfl : ad189 = ad194 := (by injection e194)
                            (try simp only [show (3 : Int).toNat = 3 from rfl, Nat.reduceMul, Nat.reduceEqDiff, Go.Addr.add, ↓reduceIte] at hx194_0)
                            have qi194 : (3 < t179.length) = True := eq_true (by omega)
                            (try rw [show ((3 : Int)).toNat = 3 from rfl] at hx194_0)
                            replace p194 := eq_true p194
                            replace q194 := eq_true q194
                            refine start_ (n := 78) (S := fun w' => w'.cell? ⟨gb175, 0, none⟩ = some (.int .i64 t172) ∧ w'.cell? ⟨gb175, 1, none⟩ = some (.int .i64 t173) ∧ w'.cell? ⟨gb175, 2, none⟩ = some (.int .i64 t174) ∧ w'.cell? ad189 = some (.int .i64 (rd t179 0)) ∧ w'.cell? ⟨ad189.block, ad189.off + 1, none⟩ = some (.int .i64 (rd t179 1)) ∧ w'.cell? ⟨ad189.block, ad189.off + 2, none⟩ = some (.int .i64 (rd t179 2)) ∧ w'.cell? ⟨ad189.block, ad189.off + 3, none⟩ = some (.int .i64 (rd t179 3))) (ds := []) laws_FnDoughs.m0 (by kernel_rfl) rfl rfl ⟨(blk_cell BK175.out 0).trans rfl, (blk_cell BK175.out 1).trans rfl, (blk_cell BK175.out 2).trans rfl, hx189_0, hx190_0, hx192_0, hx194_0⟩ (fun hHeld => ?_); refine with_tabW laws_FnDoughs.tab8 laws_FnDoughs.bits8 (fun HT_ HW_ => ?_)
                            generalize w17.drew = w47 at HO181 BK175 HB hx189_0 hx190_0 hx192_0 hx194_0 hHeld ⊢
                            refine pure_ (i := 0) (N := some 26) (v := ?_) (a' := ?_) laws_FnDoughs.m1 rfl rfl (any_of HT_.out (by kernel_rfl)) (fun _ _ _ h => h) (Or.inl ⟨by rfl, ?_⟩) ?_ ?_
                            rotate_left
                            · intro w'
                              go_simp
                              with_reducible rfl
                            rotate_left
                            · simp only [Act.put, List.setIfInBounds_toArray, List.set_cons_zero, List.set_cons_succ, i64_w, i32_w]
                              rfl
                            refine pure_ (i := 1) (N := some 27) (v := ?_) (a' := ?_) laws_FnDoughs.m2 rfl rfl (any_of HT_.out (by kernel_rfl)) (fun _ _ _ h => h) (Or.inl ⟨by rfl, ?_⟩) ?_ ?_
                            rotate_left
                            · intro w'
                              go_simp
                              with_reducible rfl
                            rotate_left
                            · simp only [Act.put, List.setIfInBounds_toArray, List.set_cons_zero, List.set_cons_succ, i64_w, i32_w]
                              rfl
                            refine pure_ (i := 4) (N := some 30) (v := ?_) (a' := ?_) laws_FnDoughs.m3 rfl rfl (any_of HT_.out (by kernel_rfl)) (fun _ _ _ h => h) (Or.inl ⟨by rfl, ?_⟩) ?_ ?_
                            rotate_left
                            · intro w'
                              go_simp
                              with_reducible rfl
                            rotate_left
                            · simp only [Act.put, List.setIfInBounds_toArray, List.set_cons_zero, List.set_cons_succ, i64_w, i32_w]
                              rfl
                            refine pure_ (i := 7) (N := some 33) (v := ?_) (a' := ?_) laws_FnDoughs.m4 rfl rfl (any_of HT_.out (by kernel_rfl)) (fun _ _ _ h => h) (Or.inl ⟨by rfl, ?_⟩) ?_ ?_
                            rotate_left
                            · intro w'
                              go_simp
                              with_reducible rfl
                            rotate_left
                            · simp only [Act.put, List.setIfInBounds_toArray, List.set_cons_zero, List.set_cons_succ, i64_w, i32_w]
                              rfl
                            refine take_ (i := 2) (N := some 28) (v := ?_) (a' := ?_) laws_FnDoughs.m5 rfl rfl (take_ofW HT_.out HW_.out (by kernel_rfl)) (fun _ _ _ h => h) (Or.inl ⟨by rfl, ?_⟩) hHeld ?_ ?_
                            rotate_left
                            · rintro w' ⟨s0, s1, s2, s3, s4, s5, s6⟩
                              go_simp
                              with_reducible rfl
                            rotate_left
                            · simp only [Act.put, List.setIfInBounds_toArray, List.set_cons_zero, List.set_cons_succ, i64_w, i32_w]
                              rfl
                            refine pure_ (i := 3) (N := some 29) (v := ?_) (a' := ?_) laws_FnDoughs.m6 rfl rfl (any_of HT_.out (by kernel_rfl)) (fun _ _ _ h => h) (Or.inl ⟨by rfl, ?_⟩) ?_ ?_
                            rotate_left
                            · intro w'
                              go_simp
                              with_reducible rfl
                            rotate_left
                            · simp only [Act.put, List.setIfInBounds_toArray, List.set_cons_zero, List.set_cons_succ, i64_w, i32_w]
                              rfl
                            refine take_ (i := 5) (N := some 31) (v := ?_) (a' := ?_) laws_FnDoughs.m7 rfl rfl (take_ofW HT_.out HW_.out (by kernel_rfl)) (fun _ _ _ h => h) (Or.inl ⟨by rfl, ?_⟩) hHeld ?_ ?_
                            rotate_left
                            · rintro w' ⟨s0, s1, s2, s3, s4, s5, s6⟩
                              go_simp
                              with_reducible rfl
                            rotate_left
                            · simp only [Act.put, List.setIfInBounds_toArray, List.set_cons_zero, List.set_cons_succ, i64_w, i32_w]
                              rfl
                            refine pure_ (i := 6) (N := some 32) (v := ?_) (a' := ?_) laws_FnDoughs.m8 rfl rfl (any_of HT_.out (by kernel_rfl)) (fun _ _ _ h => h) (Or.inl ⟨by rfl, ?_⟩) ?_ ?_
                            rotate_left
                            · intro w'
                              go_simp
                              with_reducible rfl
                            rotate_left
                            · simp only [Act.put, List.setIfInBounds_toArray, List.set_cons_zero, List.set_cons_succ, i64_w, i32_w]
                              rfl
                            refine take_ (i := 8) (N := some 34) (v := ?_) (a' := ?_) laws_FnDoughs.m9 rfl rfl (take_ofW HT_.out HW_.out (by kernel_rfl)) (fun _ _ _ h => h) (Or.inl ⟨by rfl, ?_⟩) hHeld ?_ ?_
                            rotate_left
                            · rintro w' ⟨s0, s1, s2, s3, s4, s5, s6⟩
                              go_simp
                              with_reducible rfl
                            rotate_left
                            · simp only [Act.put, List.setIfInBounds_toArray, List.set_cons_zero, List.set_cons_succ, i64_w, i32_w]
                              rfl
                            refine pure_ (i := 9) (N := some 35) (v := ?_) (a' := ?_) laws_FnDoughs.m10 rfl rfl (any_of HT_.out (by kernel_rfl)) (fun _ _ _ h => h) (Or.inl ⟨by rfl, ?_⟩) ?_ ?_
                            rotate_left
                            · intro w'
                              go_simp
                              with_reducible rfl
                            rotate_left
                            · simp only [Act.put, List.setIfInBounds_toArray, List.set_cons_zero, List.set_cons_succ, i64_w, i32_w]
                              rfl
                            refine pure_ (i := 10) (N := some 36) (v := ?_) (a' := ?_) laws_FnDoughs.m11 rfl rfl (any_of HT_.out (by kernel_rfl)) (fun _ _ _ h => h) (Or.inl ⟨by rfl, ?_⟩) ?_ ?_
                            rotate_left
                            · intro w'
                              go_simp
                              with_reducible rfl
                            rotate_left
                            · simp only [Act.put, List.setIfInBounds_toArray, List.set_cons_zero, List.set_cons_succ, i64_w, i32_w]
                              rfl
                            refine pure_ (i := 11) (N := some 37) (v := ?_) (a' := ?_) laws_FnDoughs.m12 rfl rfl (any_of HT_.out (by kernel_rfl)) (fun _ _ _ h => h) (Or.inl ⟨by rfl, ?_⟩) ?_ ?_
                            rotate_left
                            · intro w'
                              go_simp
                              with_reducible rfl
                            rotate_left
                            · simp only [Act.put, List.setIfInBounds_toArray, List.set_cons_zero, List.set_cons_succ, i64_w, i32_w]
                              rfl
                            refine pure_ (i := 12) (N := some 38) (v := ?_) (a' := ?_) laws_FnDoughs.m13 rfl rfl (any_of HT_.out (by kernel_rfl)) (fun _ _ _ h => h) (Or.inl ⟨by rfl, ?_⟩) ?_ ?_
                            rotate_left
                            · intro w'
                              go_simp
                              with_reducible rfl
                            rotate_left
                            · simp only [Act.put, List.setIfInBounds_toArray, List.set_cons_zero, List.set_cons_succ, i64_w, i32_w]
                              rfl
                            refine pure_ (i := 13) (N := some 39) (v := ?_) (a' := ?_) laws_FnDoughs.m14 rfl rfl (any_of HT_.out (by kernel_rfl)) (fun _ _ _ h => h) (Or.inl ⟨by rfl, ?_⟩) ?_ ?_
                            rotate_left
                            · intro w'
                              go_simp
                              with_reducible rfl
                            rotate_left
                            · simp only [Act.put, List.setIfInBounds_toArray, List.set_cons_zero, List.set_cons_succ, i64_w, i32_w]
                              rfl
                            refine pure_ (i := 14) (N := some 40) (v := ?_) (a' := ?_) laws_FnDoughs.m15 rfl rfl (any_of HT_.out (by kernel_rfl)) (fun _ _ _ h => h) (Or.inl ⟨by rfl, ?_⟩) ?_ ?_
                            rotate_left
                            · intro w'
                              go_simp
                              with_reducible rfl
                            rotate_left
                            · simp only [Act.put, List.setIfInBounds_toArray, List.set_cons_zero, List.set_cons_succ, i64_w, i32_w]
                              rfl
                            refine pure_ (i := 15) (N := some 41) (v := ?_) (a' := ?_) laws_FnDoughs.m16 rfl rfl (any_of HT_.out (by kernel_rfl)) (fun _ _ _ h => h) (Or.inl ⟨by rfl, ?_⟩) ?_ ?_
                            rotate_left
                            · intro w'
                              go_simp
                              with_reducible rfl
                            rotate_left
                            · simp only [Act.put, List.setIfInBounds_toArray, List.set_cons_zero, List.set_cons_succ, i64_w, i32_w]
                              rfl
                            refine pure_ (i := 16) (N := some 42) (v := ?_) (a' := ?_) laws_FnDoughs.m17 rfl rfl (any_of HT_.out (by kernel_rfl)) (fun _ _ _ h => h) (Or.inl ⟨by rfl, ?_⟩) ?_ ?_
                            rotate_left
                            · intro w'
                              go_simp
                              with_reducible rfl
                            rotate_left
                            · simp only [Act.put, List.setIfInBounds_toArray, List.set_cons_zero, List.set_cons_succ, i64_w, i32_w]
                              rfl
                            refine pure_ (i := 17) (N := some 43) (v := ?_) (a' := ?_) laws_FnDoughs.m18 rfl rfl (any_of HT_.out (by kernel_rfl)) (fun _ _ _ h => h) (Or.inl ⟨by rfl, ?_⟩) ?_ ?_
                            rotate_left
                            · intro w'
                              go_simp
                              with_reducible rfl
                            rotate_left
                            · simp only [Act.put, List.setIfInBounds_toArray, List.set_cons_zero, List.set_cons_succ, i64_w, i32_w]
                              rfl
                            refine pure_ (i := 18) (N := some 44) (v := ?_) (a' := ?_) laws_FnDoughs.m19 rfl rfl (any_of HT_.out (by kernel_rfl)) (fun _ _ _ h => h) (Or.inl ⟨by rfl, ?_⟩) ?_ ?_
                            rotate_left
                            · intro w'
                              go_simp
                              with_reducible rfl
                            rotate_left
                            · simp only [Act.put, List.setIfInBounds_toArray, List.set_cons_zero, List.set_cons_succ, i64_w, i32_w]
                              rfl
                            refine pure_ (i := 19) (N := some 45) (v := ?_) (a' := ?_) laws_FnDoughs.m20 rfl rfl (any_of HT_.out (by kernel_rfl)) (fun _ _ _ h => h) (Or.inl ⟨by rfl, ?_⟩) ?_ ?_
                            rotate_left
                            · intro w'
                              go_simp
                              with_reducible rfl
                            rotate_left
                            · simp only [Act.put, List.setIfInBounds_toArray, List.set_cons_zero, List.set_cons_succ, i64_w, i32_w]
                              rfl
                            refine pure_ (i := 20) (N := some 46) (v := ?_) (a' := ?_) laws_FnDoughs.m21 rfl rfl (any_of HT_.out (by kernel_rfl)) (fun _ _ _ h => h) (Or.inl ⟨by rfl, ?_⟩) ?_ ?_
                            rotate_left
                            · intro w'
                              go_simp
                              with_reducible rfl
                            rotate_left
                            · simp only [Act.put, List.setIfInBounds_toArray, List.set_cons_zero, List.set_cons_succ, i64_w, i32_w]
                              rfl
                            refine pure_ (i := 21) (N := some 47) (v := ?_) (a' := ?_) laws_FnDoughs.m22 rfl rfl (any_of HT_.out (by kernel_rfl)) (fun _ _ _ h => h) (Or.inl ⟨by rfl, ?_⟩) ?_ ?_
                            rotate_left
                            · intro w'
                              go_simp
                              with_reducible rfl
                            rotate_left
                            · simp only [Act.put, List.setIfInBounds_toArray, List.set_cons_zero, List.set_cons_succ, i64_w, i32_w]
                              rfl
                            refine pure_ (i := 22) (N := some 48) (v := ?_) (a' := ?_) laws_FnDoughs.m23 rfl rfl (any_of HT_.out (by kernel_rfl)) (fun _ _ _ h => h) (Or.inl ⟨by rfl, ?_⟩) ?_ ?_
                            rotate_left
                            · intro w'
                              go_simp
                              with_reducible rfl
                            rotate_left
                            · simp only [Act.put, List.setIfInBounds_toArray, List.set_cons_zero, List.set_cons_succ, i64_w, i32_w]
                              rfl
                            refine pure_ (i := 23) (N := some 49) (v := ?_) (a' := ?_) laws_FnDoughs.m24 rfl rfl (any_of HT_.out (by kernel_rfl)) (fun _ _ _ h => h) (Or.inl ⟨by rfl, ?_⟩) ?_ ?_
                            rotate_left
                            · intro w'
                              go_simp
                              with_reducible rfl
                            rotate_left
                            · simp only [Act.put, List.setIfInBounds_toArray, List.set_cons_zero, List.set_cons_succ, i64_w, i32_w]
                              rfl
                            refine pure_ (i := 24) (N := some 50) (v := ?_) (a' := ?_) laws_FnDoughs.m25 rfl rfl (any_of HT_.out (by kernel_rfl)) (fun _ _ _ h => h) (Or.inl ⟨by rfl, ?_⟩) ?_ ?_
                            rotate_left
                            · intro w'
                              go_simp
                              with_reducible rfl
                            rotate_left
                            · simp only [Act.put, List.setIfInBounds_toArray, List.set_cons_zero, List.set_cons_succ, i64_w, i32_w]
                              rfl
                            refine pure_ (i := 25) (N := some 51) (v := ?_) (a' := ?_) laws_FnDoughs.m26 rfl rfl (any_of HT_.out (by kernel_rfl)) (fun _ _ _ h => h) (Or.inl ⟨by rfl, ?_⟩) ?_ ?_
                            rotate_left
                            · intro w'
                              go_simp
                              with_reducible rfl
                            rotate_left
                            · simp only [Act.put, List.setIfInBounds_toArray, List.set_cons_zero, List.set_cons_succ, i64_w, i32_w]
                              rfl
                            refine pure_ (i := 26) (N := some 52) (v := ?_) (a' := ?_) laws_FnDoughs.m27 rfl rfl (any_of HT_.out (by kernel_rfl)) (fun _ _ _ h => h) (Or.inl ⟨by rfl, ?_⟩) ?_ ?_
                            rotate_left
                            · intro w'
                              go_simp
                              with_reducible rfl
                            rotate_left
                            · simp only [Act.put, List.setIfInBounds_toArray, List.set_cons_zero, List.set_cons_succ, i64_w, i32_w]
                              rfl
                            refine pure_ (i := 27) (N := some 53) (v := undef) (a' := ?_) laws_FnDoughs.m28 rfl rfl (any_of HT_.out (by kernel_rfl)) (fun _ _ _ h => h) (Or.inr ⟨by rfl, rfl⟩) ?_ ?_
                            rotate_left
                            · simp only [Act.put, List.setIfInBounds_toArray, List.set_cons_zero, List.set_cons_succ, i64_w, i32_w]
                              rfl
                            refine pure_ (i := 28) (N := some 54) (v := undef) (a' := ?_) laws_FnDoughs.m29 rfl rfl (any_of HT_.out (by kernel_rfl)) (fun _ _ _ h => h) (Or.inr ⟨by rfl, rfl⟩) ?_ ?_
                            rotate_left
                            · simp only [Act.put, List.setIfInBounds_toArray, List.set_cons_zero, List.set_cons_succ, i64_w, i32_w]
                              rfl
                            refine pure_ (i := 29) (N := some 55) (v := undef) (a' := ?_) laws_FnDoughs.m30 rfl rfl (any_of HT_.out (by kernel_rfl)) (fun _ _ _ h => h) (Or.inr ⟨by rfl, rfl⟩) ?_ ?_
                            rotate_left
                            · simp only [Act.put, List.setIfInBounds_toArray, List.set_cons_zero, List.set_cons_succ, i64_w, i32_w]
                              rfl
                            refine pure_ (i := 30) (N := some 56) (v := undef) (a' := ?_) laws_FnDoughs.m31 rfl rfl (any_of HT_.out (by kernel_rfl)) (fun _ _ _ h => h) (Or.inr ⟨by rfl, rfl⟩) ?_ ?_
                            rotate_left
                            · simp only [Act.put, List.setIfInBounds_toArray, List.set_cons_zero, List.set_cons_succ, i64_w, i32_w]
                              rfl
                            refine pure_ (i := 31) (N := some 57) (v := undef) (a' := ?_) laws_FnDoughs.m32 rfl rfl (any_of HT_.out (by kernel_rfl)) (fun _ _ _ h => h) (Or.inr ⟨by rfl, rfl⟩) ?_ ?_
                            rotate_left
                            · simp only [Act.put, List.setIfInBounds_toArray, List.set_cons_zero, List.set_cons_succ, i64_w, i32_w]
                              rfl
                            refine pure_ (i := 32) (N := some 58) (v := undef) (a' := ?_) laws_FnDoughs.m33 rfl rfl (any_of HT_.out (by kernel_rfl)) (fun _ _ _ h => h) (Or.inr ⟨by rfl, rfl⟩) ?_ ?_
                            rotate_left
                            · simp only [Act.put, List.setIfInBounds_toArray, List.set_cons_zero, List.set_cons_succ, i64_w, i32_w]
                              rfl
                            refine pure_ (i := 33) (N := some 59) (v := undef) (a' := ?_) laws_FnDoughs.m34 rfl rfl (any_of HT_.out (by kernel_rfl)) (fun _ _ _ h => h) (Or.inr ⟨by rfl, rfl⟩) ?_ ?_
                            rotate_left
                            · simp only [Act.put, List.setIfInBounds_toArray, List.set_cons_zero, List.set_cons_succ, i64_w, i32_w]
                              rfl
                            refine pure_ (i := 34) (N := some 60) (v := ?_) (a' := ?_) laws_FnDoughs.m35 rfl rfl (any_of HT_.out (by kernel_rfl)) (fun _ _ _ h => h) (Or.inl ⟨by rfl, ?_⟩) ?_ ?_
                            rotate_left
                            · intro w'
                              go_simp
                              with_reducible rfl
                            rotate_left
                            · simp only [Act.put, List.setIfInBounds_toArray, List.set_cons_zero, List.set_cons_succ, i64_w, i32_w]
                              rfl
                            refine pure_ (i := 35) (N := some 61) (v := ?_) (a' := ?_) laws_FnDoughs.m36 rfl rfl (any_of HT_.out (by kernel_rfl)) (fun _ _ _ h => h) (Or.inl ⟨by rfl, ?_⟩) ?_ ?_
                            rotate_left
                            · intro w'
                              go_simp
                              with_reducible rfl
                            rotate_left
                            · simp only [Act.put, List.setIfInBounds_toArray, List.set_cons_zero, List.set_cons_succ, i64_w, i32_w]
                              rfl
                            refine pure_ (i := 36) (N := some 62) (v := ?_) (a' := ?_) laws_FnDoughs.m37 rfl rfl (any_of HT_.out (by kernel_rfl)) (fun _ _ _ h => h) (Or.inl ⟨by rfl, ?_⟩) ?_ ?_
                            rotate_left
                            · intro w'
                              go_simp
                              with_reducible rfl
                            rotate_left
                            · simp only [Act.put, List.setIfInBounds_toArray, List.set_cons_zero, List.set_cons_succ, i64_w, i32_w]
                              rfl
                            refine pure_ (i := 37) (N := some 63) (v := ?_) (a' := ?_) laws_FnDoughs.m38 rfl rfl (any_of HT_.out (by kernel_rfl)) (fun _ _ _ h => h) (Or.inl ⟨by rfl, ?_⟩) ?_ ?_
                            rotate_left
                            · intro w'
                              go_simp
                              with_reducible rfl
                            rotate_left
                            · simp only [Act.put, List.setIfInBounds_toArray, List.set_cons_zero, List.set_cons_succ, i64_w, i32_w]
                              rfl
                            refine pure_ (i := 38) (N := some 64) (v := ?_) (a' := ?_) laws_FnDoughs.m39 rfl rfl (any_of HT_.out (by kernel_rfl)) (fun _ _ _ h => h) (Or.inl ⟨by rfl, ?_⟩) ?_ ?_
                            rotate_left
                            · intro w'
                              go_simp
                              with_reducible rfl
                            rotate_left
                            · simp only [Act.put, List.setIfInBounds_toArray, List.set_cons_zero, List.set_cons_succ, i64_w, i32_w]
                              rfl
                            refine pure_ (i := 39) (N := some 65) (v := ?_) (a' := ?_) laws_FnDoughs.m40 rfl rfl (any_of HT_.out (by kernel_rfl)) (fun _ _ _ h => h) (Or.inl ⟨by rfl, ?_⟩) ?_ ?_
                            rotate_left
                            · intro w'
                              go_simp
                              with_reducible rfl
                            rotate_left
                            · simp only [Act.put, List.setIfInBounds_toArray, List.set_cons_zero, List.set_cons_succ, i64_w, i32_w]
                              rfl
                            refine pure_ (i := 40) (N := some 66) (v := ?_) (a' := ?_) laws_FnDoughs.m41 rfl rfl (any_of HT_.out (by kernel_rfl)) (fun _ _ _ h => h) (Or.inl ⟨by rfl, ?_⟩) ?_ ?_
                            rotate_left
                            · intro w'
                              go_simp
                              with_reducible rfl
                            rotate_left
                            · simp only [Act.put, List.setIfInBounds_toArray, List.set_cons_zero, List.set_cons_succ, i64_w, i32_w]
                              rfl
                            refine pure_ (i := 41) (N := some 67) (v := ?_) (a' := ?_) laws_FnDoughs.m42 rfl rfl (any_of HT_.out (by kernel_rfl)) (fun _ _ _ h => h) (Or.inl ⟨by rfl, ?_⟩) ?_ ?_
                            rotate_left
                            · intro w'
                              go_simp
                              with_reducible rfl
                            rotate_left
                            · simp only [Act.put, List.setIfInBounds_toArray, List.set_cons_zero, List.set_cons_succ, i64_w, i32_w]
                              rfl
                            refine pure_ (i := 42) (N := some 68) (v := ?_) (a' := ?_) laws_FnDoughs.m43 rfl rfl (any_of HT_.out (by kernel_rfl)) (fun _ _ _ h => h) (Or.inl ⟨by rfl, ?_⟩) ?_ ?_
                            rotate_left
                            · intro w'
                              go_simp
                              with_reducible rfl
                            rotate_left
                            · simp only [Act.put, List.setIfInBounds_toArray, List.set_cons_zero, List.set_cons_succ, i64_w, i32_w]
                              rfl
                            refine pure_ (i := 43) (N := some 69) (v := ?_) (a' := ?_) laws_FnDoughs.m44 rfl rfl (any_of HT_.out (by kernel_rfl)) (fun _ _ _ h => h) (Or.inl ⟨by rfl, ?_⟩) ?_ ?_
                            rotate_left
                            · intro w'
                              go_simp
                              with_reducible rfl
                            rotate_left
                            · simp only [Act.put, List.setIfInBounds_toArray, List.set_cons_zero, List.set_cons_succ, i64_w, i32_w]
                              rfl
                            refine pure_ (i := 45) (N := some 71) (v := ?_) (a' := ?_) laws_FnDoughs.m45 rfl rfl (any_of HT_.out (by kernel_rfl)) (fun _ _ _ h => h) (Or.inl ⟨by rfl, ?_⟩) ?_ ?_
                            rotate_left
                            · intro w'
                              go_simp
                              with_reducible rfl
                            rotate_left
                            · simp only [Act.put, List.setIfInBounds_toArray, List.set_cons_zero, List.set_cons_succ, i64_w, i32_w]
                              rfl
                            refine take_ (i := 44) (N := some 70) (v := ?_) (a' := ?_) laws_FnDoughs.m46 rfl rfl (take_ofW HT_.out HW_.out (by kernel_rfl)) (fun _ _ _ h => h) (Or.inl ⟨by rfl, ?_⟩) hHeld ?_ ?_
                            rotate_left
                            · rintro w' ⟨s0, s1, s2, s3, s4, s5, s6⟩
                              go_simp
                              with_reducible rfl
                            rotate_left
                            · simp only [Act.put, List.setIfInBounds_toArray, List.set_cons_zero, List.set_cons_succ, i64_w, i32_w]
                              rfl
                            refine pure_ (i := 46) (N := some 72) (v := ?_) (a' := ?_) laws_FnDoughs.m47 rfl rfl (any_of HT_.out (by kernel_rfl)) (fun _ _ _ h => h) (Or.inl ⟨by rfl, ?_⟩) ?_ ?_
                            rotate_left
                            · intro w'
                              go_simp
                              with_reducible rfl
                            rotate_left
                            · simp only [Act.put, List.setIfInBounds_toArray, List.set_cons_zero, List.set_cons_succ, i64_w, i32_w]
                              rfl
                            refine pure_ (i := 47) (N := some 73) (v := ?_) (a' := ?_) laws_FnDoughs.m48 rfl rfl (any_of HT_.out (by kernel_rfl)) (fun _ _ _ h => h) (Or.inl ⟨by rfl, ?_⟩) ?_ ?_
                            rotate_left
                            · intro w'
                              go_simp
                              with_reducible rfl
                            rotate_left
                            · simp only [Act.put, List.setIfInBounds_toArray, List.set_cons_zero, List.set_cons_succ, i64_w, i32_w]
                              rfl
                            refine pure_ (i := 48) (N := some 74) (v := ?_) (a' := ?_) laws_FnDoughs.m49 rfl rfl (any_of HT_.out (by kernel_rfl)) (fun _ _ _ h => h) (Or.inl ⟨by rfl, ?_⟩) ?_ ?_
                            rotate_left
                            · intro w'
                              go_simp
                              with_reducible rfl
                            rotate_left
                            · simp only [Act.put, List.setIfInBounds_toArray, List.set_cons_zero, List.set_cons_succ, i64_w, i32_w]
                              rfl
                            refine pure_ (i := 49) (N := some 75) (v := ?_) (a' := ?_) laws_FnDoughs.m50 rfl rfl (any_of HT_.out (by kernel_rfl)) (fun _ _ _ h => h) (Or.inl ⟨by rfl, ?_⟩) ?_ ?_
                            rotate_left
                            · intro w'
                              go_simp
                              with_reducible rfl
                            rotate_left
                            · simp only [Act.put, List.setIfInBounds_toArray, List.set_cons_zero, List.set_cons_succ, i64_w, i32_w]
                              rfl
                            refine pure_ (i := 50) (N := some 76) (v := ?_) (a' := ?_) laws_FnDoughs.m51 rfl rfl (any_of HT_.out (by kernel_rfl)) (fun _ _ _ h => h) (Or.inl ⟨by rfl, ?_⟩) ?_ ?_
                            rotate_left
                            · intro w'
                              go_simp
                              with_reducible rfl
                            rotate_left
                            · simp only [Act.put, List.setIfInBounds_toArray, List.set_cons_zero, List.set_cons_succ, i64_w, i32_w]
                              rfl
                            refine pure_ (i := 52) (N := some 78) (v := ?_) (a' := ?_) laws_FnDoughs.m52 rfl rfl (any_of HT_.out (by kernel_rfl)) (fun _ _ _ h => h) (Or.inl ⟨by rfl, ?_⟩) ?_ ?_
                            rotate_left
                            · intro w'
                              go_simp
                              with_reducible rfl
                            rotate_left
                            · simp only [Act.put, List.setIfInBounds_toArray, List.set_cons_zero, List.set_cons_succ, i64_w, i32_w]
                              rfl
                            refine pure_ (i := 53) (N := some 79) (v := ?_) (a' := ?_) laws_FnDoughs.m53 rfl rfl (any_of HT_.out (by kernel_rfl)) (fun _ _ _ h => h) (Or.inl ⟨by rfl, ?_⟩) ?_ ?_
                            rotate_left
                            · intro w'
                              go_simp
                              with_reducible rfl
                            rotate_left
                            · simp only [Act.put, List.setIfInBounds_toArray, List.set_cons_zero, List.set_cons_succ, i64_w, i32_w]
                              rfl
                            refine take_ (i := 51) (N := some 77) (v := ?_) (a' := ?_) laws_FnDoughs.m54 rfl rfl (take_ofW HT_.out HW_.out (by kernel_rfl)) (fun _ _ _ h => h) (Or.inl ⟨by rfl, ?_⟩) hHeld ?_ ?_
                            rotate_left
                            · rintro w' ⟨s0, s1, s2, s3, s4, s5, s6⟩
                              go_simp
                              with_reducible rfl
                            rotate_left
                            · simp only [Act.put, List.setIfInBounds_toArray, List.set_cons_zero, List.set_cons_succ, i64_w, i32_w]
                              rfl
                            refine take_ (i := 54) (N := some 80) (v := ?_) (a' := ?_) laws_FnDoughs.m55 rfl rfl (take_ofW HT_.out HW_.out (by kernel_rfl)) (fun _ _ _ h => h) (Or.inl ⟨by rfl, ?_⟩) hHeld ?_ ?_
                            rotate_left
                            · rintro w' ⟨s0, s1, s2, s3, s4, s5, s6⟩
                              go_simp
                              with_reducible rfl
                            rotate_left
                            · simp only [Act.put, List.setIfInBounds_toArray, List.set_cons_zero, List.set_cons_succ, i64_w, i32_w]
                              rfl
                            refine one_ (i := 55) (N := some 81) laws_FnDoughs.m56 rfl rfl (one_of HT_.out (by kernel_rfl)) (by decide) (fun K hK => ?_)
                            refine goes_ Try.func28 (by kernel_rfl) rfl #[.int .i64 t177, .int .i64 t172] (by rfl) rfl rfl (by (try simp only [List.map_toArray, List.map_cons, List.map_nil]); first | done | rfl | (simp only [List.length_drop, List.length_take]; rfl)) ?_
                            with_reducible refine (impl_PartOf.calls t177 t172 t191 _ A40.out).mono ?_
                            rintro e w' ⟨rfl, ⟨nd, rfl⟩⟩
                            refine ⟨_, rfl, ?_⟩
                            refine hK.out _ _ ⟨(blk_cell BK175.out 0).trans rfl, (blk_cell BK175.out 1).trans rfl, (blk_cell BK175.out 2).trans rfl, hHeld.2.2.2.1, hHeld.2.2.2.2.1, hHeld.2.2.2.2.2.1, hHeld.2.2.2.2.2.2⟩ (fun hHeld => ?_)
                            clear hK K
                            refine norm_ (a' := ?_) ?_ ?_
                            rotate_left
                            · show Act.put _ (some 81) _ = _
                              simp only [Act.put, List.setIfInBounds_toArray, List.set_cons_zero, List.set_cons_succ, i64_w, i32_w]
                              rfl
                            refine pure_ (i := 56) (N := some 82) (v := ?_) (a' := ?_) laws_FnDoughs.m57 rfl rfl (any_of HT_.out (by kernel_rfl)) (fun _ _ _ h => h) (Or.inl ⟨by rfl, ?_⟩) ?_ ?_
                            rotate_left
                            · intro w'
                              go_simp
                              with_reducible rfl
                            rotate_left
                            · simp only [Act.put, List.setIfInBounds_toArray, List.set_cons_zero, List.set_cons_succ, i64_w, i32_w]
                              rfl
                            refine pure_ (i := 57) (N := some 83) (v := ?_) (a' := ?_) laws_FnDoughs.m58 rfl rfl (any_of HT_.out (by kernel_rfl)) (fun _ _ _ h => h) (Or.inl ⟨by rfl, ?_⟩) ?_ ?_
                            rotate_left
                            · intro w'
                              go_simp
                              with_reducible rfl
                            rotate_left
                            · simp only [Act.put, List.setIfInBounds_toArray, List.set_cons_zero, List.set_cons_succ, i64_w, i32_w]
                              rfl
                            refine pure_ (i := 58) (N := some 84) (v := ?_) (a' := ?_) laws_FnDoughs.m59 rfl rfl (any_of HT_.out (by kernel_rfl)) (fun _ _ _ h => h) (Or.inl ⟨by rfl, ?_⟩) ?_ ?_
                            rotate_left
                            · intro w'
                              go_simp
                              with_reducible rfl
                            rotate_left
                            · simp only [Act.put, List.setIfInBounds_toArray, List.set_cons_zero, List.set_cons_succ, i64_w, i32_w]
                              rfl
                            refine pure_ (i := 59) (N := some 85) (v := ?_) (a' := ?_) laws_FnDoughs.m60 rfl rfl (any_of HT_.out (by kernel_rfl)) (fun _ _ _ h => h) (Or.inl ⟨by rfl, ?_⟩) ?_ ?_
                            rotate_left
                            · intro w'
                              go_simp
                              with_reducible rfl
                            rotate_left
                            · simp only [Act.put, List.setIfInBounds_toArray, List.set_cons_zero, List.set_cons_succ, i64_w, i32_w]
                              rfl
                            refine pure_ (i := 60) (N := some 86) (v := ?_) (a' := ?_) laws_FnDoughs.m61 rfl rfl (any_of HT_.out (by kernel_rfl)) (fun _ _ _ h => h) (Or.inl ⟨by rfl, ?_⟩) ?_ ?_
                            rotate_left
                            · intro w'
                              go_simp
                              with_reducible rfl
                            rotate_left
                            · simp only [Act.put, List.setIfInBounds_toArray, List.set_cons_zero, List.set_cons_succ, i64_w, i32_w]
                              rfl
                            refine pure_ (i := 62) (N := some 88) (v := ?_) (a' := ?_) laws_FnDoughs.m62 rfl rfl (any_of HT_.out (by kernel_rfl)) (fun _ _ _ h => h) (Or.inl ⟨by rfl, ?_⟩) ?_ ?_
                            rotate_left
                            · intro w'
                              go_simp
                              with_reducible rfl
                            rotate_left
                            · simp only [Act.put, List.setIfInBounds_toArray, List.set_cons_zero, List.set_cons_succ, i64_w, i32_w]
                              rfl
                            refine pure_ (i := 63) (N := some 89) (v := ?_) (a' := ?_) laws_FnDoughs.m63 rfl rfl (any_of HT_.out (by kernel_rfl)) (fun _ _ _ h => h) (Or.inl ⟨by rfl, ?_⟩) ?_ ?_
                            rotate_left
                            · intro w'
                              go_simp
                              with_reducible rfl
                            rotate_left
                            · simp only [Act.put, List.setIfInBounds_toArray, List.set_cons_zero, List.set_cons_succ, i64_w, i32_w]
                              rfl
                            refine take_ (i := 61) (N := some 87) (v := ?_) (a' := ?_) laws_FnDoughs.m64 rfl rfl (take_ofW HT_.out HW_.out (by kernel_rfl)) (fun _ _ _ h => h) (Or.inl ⟨by rfl, ?_⟩) hHeld ?_ ?_
                            rotate_left
                            · rintro w' ⟨s0, s1, s2, s3, s4, s5, s6⟩
                              go_simp
                              with_reducible rfl
                            rotate_left
                            · simp only [Act.put, List.setIfInBounds_toArray, List.set_cons_zero, List.set_cons_succ, i64_w, i32_w]
                              rfl
                            refine take_ (i := 64) (N := some 90) (v := ?_) (a' := ?_) laws_FnDoughs.m65 rfl rfl (take_ofW HT_.out HW_.out (by kernel_rfl)) (fun _ _ _ h => h) (Or.inl ⟨by rfl, ?_⟩) hHeld ?_ ?_
                            rotate_left
                            · rintro w' ⟨s0, s1, s2, s3, s4, s5, s6⟩
                              go_simp
                              with_reducible rfl
                            rotate_left
                            · simp only [Act.put, List.setIfInBounds_toArray, List.set_cons_zero, List.set_cons_succ, i64_w, i32_w]
                              rfl
                            refine one_ (i := 65) (N := some 91) laws_FnDoughs.m66 rfl rfl (one_of HT_.out (by kernel_rfl)) (by decide) (fun K hK => ?_)
                            refine goes_ Try.func28 (by kernel_rfl) rfl #[.int .i64 t177, .int .i64 t173] (by rfl) rfl rfl (by (try simp only [List.map_toArray, List.map_cons, List.map_nil]); first | done | rfl | (simp only [List.length_drop, List.length_take]; rfl)) ?_
                            with_reducible refine (impl_PartOf.calls t177 t173 t193 _ A43.out).mono ?_
                            rintro e w' ⟨rfl, ⟨nd, rfl⟩⟩
                            refine ⟨_, rfl, ?_⟩
                            refine hK.out _ _ ⟨(blk_cell BK175.out 0).trans rfl, (blk_cell BK175.out 1).trans rfl, (blk_cell BK175.out 2).trans rfl, hHeld.2.2.2.1, hHeld.2.2.2.2.1, hHeld.2.2.2.2.2.1, hHeld.2.2.2.2.2.2⟩ (fun hHeld => ?_)
                            clear hK K
                            refine norm_ (a' := ?_) ?_ ?_
                            rotate_left
                            · show Act.put _ (some 91) _ = _
                              simp only [Act.put, List.setIfInBounds_toArray, List.set_cons_zero, List.set_cons_succ, i64_w, i32_w]
                              rfl
                            refine pure_ (i := 66) (N := some 92) (v := ?_) (a' := ?_) laws_FnDoughs.m67 rfl rfl (any_of HT_.out (by kernel_rfl)) (fun _ _ _ h => h) (Or.inl ⟨by rfl, ?_⟩) ?_ ?_
                            rotate_left
                            · intro w'
                              go_simp
                              with_reducible rfl
                            rotate_left
                            · simp only [Act.put, List.setIfInBounds_toArray, List.set_cons_zero, List.set_cons_succ, i64_w, i32_w]
                              rfl
                            refine pure_ (i := 67) (N := some 93) (v := ?_) (a' := ?_) laws_FnDoughs.m68 rfl rfl (any_of HT_.out (by kernel_rfl)) (fun _ _ _ h => h) (Or.inl ⟨by rfl, ?_⟩) ?_ ?_
                            rotate_left
                            · intro w'
                              go_simp
                              with_reducible rfl
                            rotate_left
                            · simp only [Act.put, List.setIfInBounds_toArray, List.set_cons_zero, List.set_cons_succ, i64_w, i32_w]
                              rfl
                            refine pure_ (i := 68) (N := some 94) (v := ?_) (a' := ?_) laws_FnDoughs.m69 rfl rfl (any_of HT_.out (by kernel_rfl)) (fun _ _ _ h => h) (Or.inl ⟨by rfl, ?_⟩) ?_ ?_
                            rotate_left
                            · intro w'
                              go_simp
                              with_reducible rfl
                            rotate_left
                            · simp only [Act.put, List.setIfInBounds_toArray, List.set_cons_zero, List.set_cons_succ, i64_w, i32_w]
                              rfl
                            refine pure_ (i := 69) (N := some 95) (v := ?_) (a' := ?_) laws_FnDoughs.m70 rfl rfl (any_of HT_.out (by kernel_rfl)) (fun _ _ _ h => h) (Or.inl ⟨by rfl, ?_⟩) ?_ ?_
                            rotate_left
                            · intro w'
                              go_simp
                              with_reducible rfl
                            rotate_left
                            · simp only [Act.put, List.setIfInBounds_toArray, List.set_cons_zero, List.set_cons_succ, i64_w, i32_w]
                              rfl
                            refine pure_ (i := 70) (N := some 96) (v := ?_) (a' := ?_) laws_FnDoughs.m71 rfl rfl (any_of HT_.out (by kernel_rfl)) (fun _ _ _ h => h) (Or.inl ⟨by rfl, ?_⟩) ?_ ?_
                            rotate_left
                            · intro w'
                              go_simp
                              with_reducible rfl
                            rotate_left
                            · simp only [Act.put, List.setIfInBounds_toArray, List.set_cons_zero, List.set_cons_succ, i64_w, i32_w]
                              rfl
                            refine pure_ (i := 72) (N := some 98) (v := ?_) (a' := ?_) laws_FnDoughs.m72 rfl rfl (any_of HT_.out (by kernel_rfl)) (fun _ _ _ h => h) (Or.inl ⟨by rfl, ?_⟩) ?_ ?_
                            rotate_left
                            · intro w'
                              go_simp
                              with_reducible rfl
                            rotate_left
                            · simp only [Act.put, List.setIfInBounds_toArray, List.set_cons_zero, List.set_cons_succ, i64_w, i32_w]
                              rfl
                            refine pure_ (i := 73) (N := some 99) (v := ?_) (a' := ?_) laws_FnDoughs.m73 rfl rfl (any_of HT_.out (by kernel_rfl)) (fun _ _ _ h => h) (Or.inl ⟨by rfl, ?_⟩) ?_ ?_
                            rotate_left
                            · intro w'
                              go_simp
                              with_reducible rfl
                            rotate_left
                            · simp only [Act.put, List.setIfInBounds_toArray, List.set_cons_zero, List.set_cons_succ, i64_w, i32_w]
                              rfl
                            refine take_ (i := 71) (N := some 97) (v := ?_) (a' := ?_) laws_FnDoughs.m74 rfl rfl (take_ofW HT_.out HW_.out (by kernel_rfl)) (fun _ _ _ h => h) (Or.inl ⟨by rfl, ?_⟩) hHeld ?_ ?_
                            rotate_left
                            · rintro w' ⟨s0, s1, s2, s3, s4, s5, s6⟩
                              go_simp
                              with_reducible rfl
                            rotate_left
                            · simp only [Act.put, List.setIfInBounds_toArray, List.set_cons_zero, List.set_cons_succ, i64_w, i32_w]
                              rfl
                            refine take_ (i := 74) (N := some 100) (v := ?_) (a' := ?_) laws_FnDoughs.m75 rfl rfl (take_ofW HT_.out HW_.out (by kernel_rfl)) (fun _ _ _ h => h) (Or.inl ⟨by rfl, ?_⟩) hHeld ?_ ?_
                            rotate_left
                            · rintro w' ⟨s0, s1, s2, s3, s4, s5, s6⟩
                              go_simp
                              with_reducible rfl
                            rotate_left
                            · simp only [Act.put, List.setIfInBounds_toArray, List.set_cons_zero, List.set_cons_succ, i64_w, i32_w]
                              rfl
                            refine one_ (i := 75) (N := some 101) laws_FnDoughs.m76 rfl rfl (one_of HT_.out (by kernel_rfl)) (by decide) (fun K hK => ?_)
                            refine goes_ Try.func28 (by kernel_rfl) rfl #[.int .i64 t177, .int .i64 t174] (by rfl) rfl rfl (by (try simp only [List.map_toArray, List.map_cons, List.map_nil]); first | done | rfl | (simp only [List.length_drop, List.length_take]; rfl)) ?_
                            with_reducible refine (impl_PartOf.calls t177 t174 t195 _ A46.out).mono ?_
                            rintro e w' ⟨rfl, ⟨nd, rfl⟩⟩
                            refine ⟨_, rfl, ?_⟩
                            refine hK.out _ _ ⟨(blk_cell BK175.out 0).trans rfl, (blk_cell BK175.out 1).trans rfl, (blk_cell BK175.out 2).trans rfl, hHeld.2.2.2.1, hHeld.2.2.2.2.1, hHeld.2.2.2.2.2.1, hHeld.2.2.2.2.2.2⟩ (fun hHeld => ?_)
                            clear hK K
                            refine norm_ (a' := ?_) ?_ ?_
                            rotate_left
                            · show Act.put _ (some 101) _ = _
                              simp only [Act.put, List.setIfInBounds_toArray, List.set_cons_zero, List.set_cons_succ, i64_w, i32_w]
                              rfl
                            refine pure_ (i := 76) (N := some 102) (v := ?_) (a' := ?_) laws_FnDoughs.m77 rfl rfl (any_of HT_.out (by kernel_rfl)) (fun _ _ _ h => h) (Or.inl ⟨by rfl, ?_⟩) ?_ ?_
                            rotate_left
                            · intro w'
                              go_simp
                              with_reducible rfl
                            rotate_left
                            · simp only [Act.put, List.setIfInBounds_toArray, List.set_cons_zero, List.set_cons_succ, i64_w, i32_w]
                              rfl
                            refine pure_ (i := 77) (N := some 103) (v := ?_) (a' := ?_) laws_FnDoughs.m78 rfl rfl (any_of HT_.out (by kernel_rfl)) (fun _ _ _ h => h) (Or.inl ⟨by rfl, ?_⟩) ?_ ?_
                            rotate_left
                            · intro w'
                              go_simp
                              with_reducible rfl
                            rotate_left
                            · simp only [Act.put, List.setIfInBounds_toArray, List.set_cons_zero, List.set_cons_succ, i64_w, i32_w]
                              rfl
                            refine done_ (done_of HT_.out (by kernel_rfl)) ?_
                            try go_wp2
                            go_meet
                            case rel => exact ⟨_, (((rd t179 3) != t195)), (by first | rfl | (simp; done) | (simp [*]; done)), H', ⟨by first | omega | exact Nat.le_refl _⟩, ⟨by (with_reducible repeat (first | apply Kd.R_alloc | apply Kd.R_drewN | apply Kd.R_drew)); exact HO181.out⟩, ⟨by (with_reducible repeat (first | refine blk_drewN ?_ _ | refine blk_drew ?_ | refine blk_alloc ?_ _)); exact BK175.out⟩, ⟨by repeat (first | (with_reducible first | exact HB.out | apply below_alloc | apply pw_below_drewN | apply below_drew1 | refine below_set ?_ GE175.out) | exact HB.out)⟩⟩
                          · rw [if_neg c45] at H
                            exact absurd H (by simp)
                        · rw [if_neg c44] at H
                          have c44b0 : ((rd t179 2) == t193) = false := beq_eq_false_iff_ne.mpr c44
                          have c44b1 : ((rd t179 2) != t193) = true := bne_iff_ne.mpr c44
                          exact absurd H (laws_FnDoughs.j0_no _ _ _ _ _ _)
                      · rw [if_neg c42] at H
                        exact absurd H (by simp)
                    · rw [if_neg c41] at H
                      have c41b0 : ((rd t179 1) == t191) = false := beq_eq_false_iff_ne.mpr c41
                      have c41b1 : ((rd t179 1) != t191) = true := bne_iff_ne.mpr c41
                      exact absurd H (laws_FnDoughs.j0_no _ _ _ _ _ _)
                  · rw [if_neg c39] at H
                    exact absurd H (by simp)
                · rw [if_neg c38] at H
                  have c38b0 : ((rd t179 0) == t177) = false := beq_eq_false_iff_ne.mpr c38
                  have c38b1 : ((rd t179 0) != t177) = true := bne_iff_ne.mpr c38
                  exact absurd H (laws_FnDoughs.j0_no _ _ _ _ _ _)
              · rw [if_neg c37] at H
                exact absurd H (by simp)
            · rw [if_neg c36] at H
              have c36b0 : ((t179.length : Int) == 4) = false := beq_eq_false_iff_ne.mpr c36
              have c36b1 : ((t179.length : Int) != 4) = true := bne_iff_ne.mpr c36
              exact absurd H (laws_FnDoughs.j0_no _ _ _ _ _ _)
    · rw [if_neg c18] at H
      have c18b0 : (t178 == (wrap64 ((wrap64 ((wrap64 (1000 + t172)) + t173)) + t174))) = false := beq_eq_false_iff_ne.mpr c18
      have c18b1 : (t178 != (wrap64 ((wrap64 ((wrap64 (1000 + t172)) + t173)) + t174))) = true := bne_iff_ne.mpr c18
      (first | rw [c18b0] | (simp only [i64_w, i32_w]; rw [c18b0]) | skip)
      exact absurd H (laws_FnDoughs.j0_no _ _ _ _ _ _)
   case rest =>
    clear HC9
    try clear c1
    try clear c2
    try clear p2
    try clear c3
    try clear c4
    try clear p6
    try clear c18
    try clear c18b0
    try clear c18b1
    try clear c28
    try clear c36
    try clear c36b0
    try clear c36b1
    try clear c37
    try clear c38
    try clear c38b0
    try clear c38b1
    try clear c39
    try clear c41
    try clear c41b0
    try clear c41b1
    try clear c42
    try clear c44
    try clear c44b0
    try clear c44b1
    try clear c45
    obtain ⟨kq, x103_8, rfl, HA, HJ8, HO_7, BK175, HB⟩ := hcut
    cases kq with
    | zero => exact absurd HA.out (by simp [laws_FnDoughs.j0])
    | succ kj8 =>
     have H := HA.out
     clear HA
     simp only [laws_FnDoughs.j0] at H
     by_cases c49 : x103_8 = true
     · subst c49
       have H1 : (some false) = some true := by rw [if_pos rfl] at H; exact H
       clear H
       have H := H1
       clear H1
       exact absurd H (by simp)
     · replace c49 := Bool.eq_false_iff.mpr c49
       subst c49
       have H1 : ((impl_DoughWeight.f kj8 t172 t173 t174 t177).bind fun t196 => ((impl_PartOf.f t177 20).bind fun t197 => (if 0 < (t179.length : Int) then (if 1 < (t179.length : Int) then (if 2 < (t179.length : Int) then (if 3 < (t179.length : Int) then (if t196 = (wrap64 ((wrap64 ((wrap64 ((rd t179 0) + (rd t179 1))) + (rd t179 2))) + (rd t179 3))) then (if t196 ≥ (wrap64 ((wrap64 (t176 * 9)) - 2)) then (if (wrap64 (1000 * t197)) ≤ (wrap64 ((wrap64 (20 * t177)) + 500)) then (if (wrap64 (1000 * t197)) > (wrap64 ((wrap64 (20 * t177)) - 501)) then ((impl_Firmer.f (wrap64 (t172 - 1)) t173 t174 t172 t173 t174).bind fun t203 => (if t203 = (-1) then ((impl_Firmer.f t172 t173 t174 (wrap64 (t172 - 1)) t173 t174).bind fun t204 => (if t204 = 1 then ((impl_Firmer.f t172 t173 t174 t172 t173 t174).bind fun t205 => (if t205 = 0 then ((impl_DoughOk.f t172 t173 t174).bind fun t206 => (if t206 = true then ((impl_PartOf.f 1000 655).bind fun t207 => (some (t207 == 655))) else (some false))) else (some false))) else (some false))) else (some false))) else (some false)) else (some false)) else (some false)) else (some false)) else (none)) else (none)) else (none)) else (none)))) = some true := by rw [if_neg (show ¬ (false = true) by decide)] at H; exact H
       clear H
       have H := H1
       clear H1
       replace H := Option.bind_eq_some_iff.mp H
       obtain ⟨t196, A500, H⟩ := H
       replace H : ((impl_PartOf.f t177 20).bind fun t197 => (if 0 < (t179.length : Int) then (if 1 < (t179.length : Int) then (if 2 < (t179.length : Int) then (if 3 < (t179.length : Int) then (if t196 = (wrap64 ((wrap64 ((wrap64 ((rd t179 0) + (rd t179 1))) + (rd t179 2))) + (rd t179 3))) then (if t196 ≥ (wrap64 ((wrap64 (t176 * 9)) - 2)) then (if (wrap64 (1000 * t197)) ≤ (wrap64 ((wrap64 (20 * t177)) + 500)) then (if (wrap64 (1000 * t197)) > (wrap64 ((wrap64 (20 * t177)) - 501)) then ((impl_Firmer.f (wrap64 (t172 - 1)) t173 t174 t172 t173 t174).bind fun t203 => (if t203 = (-1) then ((impl_Firmer.f t172 t173 t174 (wrap64 (t172 - 1)) t173 t174).bind fun t204 => (if t204 = 1 then ((impl_Firmer.f t172 t173 t174 t172 t173 t174).bind fun t205 => (if t205 = 0 then ((impl_DoughOk.f t172 t173 t174).bind fun t206 => (if t206 = true then ((impl_PartOf.f 1000 655).bind fun t207 => (some (t207 == 655))) else (some false))) else (some false))) else (some false))) else (some false))) else (some false)) else (some false)) else (some false)) else (some false)) else (none)) else (none)) else (none)) else (none))) = some true := H
       have A50 := Aside0.mk A500
       clear A500
       replace H := Option.bind_eq_some_iff.mp H
       obtain ⟨t197, A510, H⟩ := H
       replace H : (if 0 < (t179.length : Int) then (if 1 < (t179.length : Int) then (if 2 < (t179.length : Int) then (if 3 < (t179.length : Int) then (if t196 = (wrap64 ((wrap64 ((wrap64 ((rd t179 0) + (rd t179 1))) + (rd t179 2))) + (rd t179 3))) then (if t196 ≥ (wrap64 ((wrap64 (t176 * 9)) - 2)) then (if (wrap64 (1000 * t197)) ≤ (wrap64 ((wrap64 (20 * t177)) + 500)) then (if (wrap64 (1000 * t197)) > (wrap64 ((wrap64 (20 * t177)) - 501)) then ((impl_Firmer.f (wrap64 (t172 - 1)) t173 t174 t172 t173 t174).bind fun t203 => (if t203 = (-1) then ((impl_Firmer.f t172 t173 t174 (wrap64 (t172 - 1)) t173 t174).bind fun t204 => (if t204 = 1 then ((impl_Firmer.f t172 t173 t174 t172 t173 t174).bind fun t205 => (if t205 = 0 then ((impl_DoughOk.f t172 t173 t174).bind fun t206 => (if t206 = true then ((impl_PartOf.f 1000 655).bind fun t207 => (some (t207 == 655))) else (some false))) else (some false))) else (some false))) else (some false))) else (some false)) else (some false)) else (some false)) else (some false)) else (none)) else (none)) else (none)) else (none)) = some true := H
       have A51 := Aside0.mk A510
       clear A510
       by_cases c52 : 0 < (t179.length : Int)
       · rw [if_pos c52] at H
         have c52b0 : decide (0 < (t179.length : Int)) = true := decide_eq_true c52
         have c52b1 : decide (0 < t179.length) = true := decide_eq_true (by omega)
         clear c52
         by_cases c53 : 1 < (t179.length : Int)
         · rw [if_pos c53] at H
           have c53b0 : decide (1 < (t179.length : Int)) = true := decide_eq_true c53
           have c53b1 : decide (1 < t179.length) = true := decide_eq_true (by omega)
           clear c53
           by_cases c54 : 2 < (t179.length : Int)
           · rw [if_pos c54] at H
             have c54b0 : decide (2 < (t179.length : Int)) = true := decide_eq_true c54
             have c54b1 : decide (2 < t179.length) = true := decide_eq_true (by omega)
             clear c54
             by_cases c55 : 3 < (t179.length : Int)
             · rw [if_pos c55] at H
               have c55b0 : decide (3 < (t179.length : Int)) = true := decide_eq_true c55
               have c55b1 : decide (3 < t179.length) = true := decide_eq_true (by omega)
               clear c55
               by_cases c56 : t196 = (wrap64 ((wrap64 ((wrap64 ((rd t179 0) + (rd t179 1))) + (rd t179 2))) + (rd t179 3)))
               · rw [if_pos c56] at H
                 have c56b0 : (t196 == (wrap64 ((wrap64 ((wrap64 ((rd t179 0) + (rd t179 1))) + (rd t179 2))) + (rd t179 3)))) = true := beq_iff_eq.mpr c56
                 have c56b1 : (t196 != (wrap64 ((wrap64 ((wrap64 ((rd t179 0) + (rd t179 1))) + (rd t179 2))) + (rd t179 3)))) = false := bne_eq_false_iff_eq.mpr c56
                 clear c56
                 by_cases c57 : t196 ≥ (wrap64 ((wrap64 (t176 * 9)) - 2))
                 · rw [if_pos c57] at H
                   have c57b0 : decide ((wrap64 ((wrap64 (t176 * 9)) - 2)) ≤ t196) = true := decide_eq_true c57
                   clear c57
                   by_cases c58 : (wrap64 (1000 * t197)) ≤ (wrap64 ((wrap64 (20 * t177)) + 500))
                   · rw [if_pos c58] at H
                     have c58b0 : decide ((wrap64 (1000 * t197)) ≤ (wrap64 ((wrap64 (20 * t177)) + 500))) = true := decide_eq_true c58
                     clear c58
                     by_cases c59 : (wrap64 (1000 * t197)) > (wrap64 ((wrap64 (20 * t177)) - 501))
                     · rw [if_pos c59] at H
                       have c59b0 : decide ((wrap64 ((wrap64 (20 * t177)) - 501)) < (wrap64 (1000 * t197))) = true := decide_eq_true c59
                       clear c59
                       replace H := Option.bind_eq_some_iff.mp H
                       obtain ⟨t203, A600, H⟩ := H
                       replace H : (if t203 = (-1) then ((impl_Firmer.f t172 t173 t174 (wrap64 (t172 - 1)) t173 t174).bind fun t204 => (if t204 = 1 then ((impl_Firmer.f t172 t173 t174 t172 t173 t174).bind fun t205 => (if t205 = 0 then ((impl_DoughOk.f t172 t173 t174).bind fun t206 => (if t206 = true then ((impl_PartOf.f 1000 655).bind fun t207 => (some (t207 == 655))) else (some false))) else (some false))) else (some false))) else (some false)) = some true := H
                       have A60 := Aside0.mk A600
                       clear A600
                       by_cases c61 : t203 = (-1)
                       · rw [if_pos c61] at H
                         have c61b0 : (t203 == (-1)) = true := beq_iff_eq.mpr c61
                         have c61b1 : (t203 != (-1)) = false := bne_eq_false_iff_eq.mpr c61
                         clear c61
                         replace H := Option.bind_eq_some_iff.mp H
                         obtain ⟨t204, A620, H⟩ := H
                         replace H : (if t204 = 1 then ((impl_Firmer.f t172 t173 t174 t172 t173 t174).bind fun t205 => (if t205 = 0 then ((impl_DoughOk.f t172 t173 t174).bind fun t206 => (if t206 = true then ((impl_PartOf.f 1000 655).bind fun t207 => (some (t207 == 655))) else (some false))) else (some false))) else (some false)) = some true := H
                         have A62 := Aside0.mk A620
                         clear A620
                         by_cases c63 : t204 = 1
                         · rw [if_pos c63] at H
                           have c63b0 : (t204 == 1) = true := beq_iff_eq.mpr c63
                           have c63b1 : (t204 != 1) = false := bne_eq_false_iff_eq.mpr c63
                           clear c63
                           replace H := Option.bind_eq_some_iff.mp H
                           obtain ⟨t205, A640, H⟩ := H
                           replace H : (if t205 = 0 then ((impl_DoughOk.f t172 t173 t174).bind fun t206 => (if t206 = true then ((impl_PartOf.f 1000 655).bind fun t207 => (some (t207 == 655))) else (some false))) else (some false)) = some true := H
                           have A64 := Aside0.mk A640
                           clear A640
                           by_cases c65 : t205 = 0
                           · rw [if_pos c65] at H
                             have c65b0 : (t205 == 0) = true := beq_iff_eq.mpr c65
                             have c65b1 : (t205 != 0) = false := bne_eq_false_iff_eq.mpr c65
                             clear c65
                             replace H := Option.bind_eq_some_iff.mp H
                             obtain ⟨t206, A660, H⟩ := H
                             replace H : (if t206 = true then ((impl_PartOf.f 1000 655).bind fun t207 => (some (t207 == 655))) else (some false)) = some true := H
                             have A66 := Aside0.mk A660
                             clear A660
                             by_cases c67 : t206 = true
                             · subst c67
                               have H1 : ((impl_PartOf.f 1000 655).bind fun t207 => (some (t207 == 655))) = some true := by rw [if_pos rfl] at H; exact H
                               clear H
                               have H := H1
                               clear H1
                               replace H := Option.bind_eq_some_iff.mp H
                               obtain ⟨t207, A680, H⟩ := H
                               replace H : (some (t207 == 655)) = some true := H
                               have A68 := Aside0.mk A680
                               clear A680
                               have hT_ := Option.some.inj H
                               have hcz69_0 : wc.cell? ⟨gb175, 0, none⟩ = some (.int .i64 t172) := (blk_cell BK175.out 0).trans rfl
                               have hcz69_1 : wc.cell? ⟨gb175, 1, none⟩ = some (.int .i64 t173) := (blk_cell BK175.out 1).trans rfl
                               have hcz69_2 : wc.cell? ⟨gb175, 2, none⟩ = some (.int .i64 t174) := (blk_cell BK175.out 2).trans rfl
                               have hfz69_0 := blk_frozen BK175.out 0
                               have hfz69_1 := blk_frozen BK175.out 1
                               have hfz69_2 := blk_frozen BK175.out 2
                               try go_wp2_with (first | ((with_reducible refine gate_callee (f := 29) rfl ?_); refine goesL_ (some 106) rfl rfl Try.func29 (by kernel_rfl) rfl #[.agg #[.int .i64 t172, .int .i64 t173, .int .i64 t174], .int .i64 t177] rfl (by (try simp only [List.map_toArray, List.map_cons, List.map_nil]); first | done | rfl | (simp only [List.length_drop, List.length_take]; rfl)) ?_; (with_reducible refine (impl_DoughWeight.calls kj8 t172 t173 t174 t177 t196 _ A50.out).mono ?_); rintro e w70 ⟨rfl, hb⟩; refine ⟨_, rfl, ?_⟩; have n0_ := Aside0.mk (Kd.R_below (by (with_reducible repeat (first | apply Kd.R_alloc | apply Kd.R_drewN | apply Kd.R_drew)); exact HO_7.out) hb); have n1_ := Aside0.mk (blk_below (g := gb175) (o := .cells #[.int .i64 t172, .int .i64 t173, .int .i64 t174] 44 (0, 0)) (by (with_reducible repeat (first | refine blk_drewN ?_ _ | refine blk_drew ?_ | refine blk_alloc ?_ _)); exact BK175.out) hb); have n2_ := Aside0.mk (below_step (by repeat (first | (with_reducible first | exact HB.out | apply below_alloc | apply pw_below_drewN | apply below_drew1 | refine below_set ?_ GE175.out) | exact HB.out)) hb); clear HO_7; clear BK175; clear HB; have HO_7 := n0_; have BK175 := n1_; have HB := n2_; clear n0_ n1_ n2_; (try clear hb); (try clear hb2); (try clear hk); (try clear hi)) | ((with_reducible refine gate_callee (f := 28) rfl ?_); refine goesL_ (some 108) rfl rfl Try.func28 (by kernel_rfl) rfl #[.int .i64 t177, .int .i64 20] rfl (by (try simp only [List.map_toArray, List.map_cons, List.map_nil]); first | done | rfl | (simp only [List.length_drop, List.length_take]; rfl)) ?_; (with_reducible refine (impl_PartOf.calls t177 20 t197 _ A51.out).mono ?_); rintro e w' ⟨rfl, ⟨nd, rfl⟩⟩; refine ⟨_, rfl, ?_⟩; (try (rw [drewN_self w70]; generalize hq_ : World.drewN w70 _ = w70; have n0_ : Aside0 (Kd.R (Kd.int .i64) 3 w70 w.heap.size (fun _ => True) v180 t179) := ⟨by rw [← hq_]; exact (by (with_reducible repeat (first | apply Kd.R_alloc | apply Kd.R_drewN | apply Kd.R_drew)); exact HO_7.out)⟩; have n1_ : Aside0 (w70.heap[gb175]? = some (.cells #[.int .i64 t172, .int .i64 t173, .int .i64 t174] 44 (0, 0))) := ⟨by rw [← hq_]; exact (by (with_reducible repeat (first | refine blk_drewN ?_ _ | refine blk_drew ?_ | refine blk_alloc ?_ _)); exact BK175.out)⟩; have n2_ : Aside0 (Below w.heap.size w w70) := ⟨by rw [← hq_]; exact (by repeat (first | (with_reducible first | exact HB.out | apply below_alloc | apply pw_below_drewN | apply below_drew1 | refine below_set ?_ GE175.out) | exact HB.out))⟩; clear HO_7 BK175 HB hq_; have HO_7 := n0_; have BK175 := n1_; have HB := n2_; clear n0_ n1_ n2_)); have hcz71_0 : w70.cell? ⟨gb175, 0, none⟩ = some (.int .i64 t172) := (blk_cell BK175.out 0).trans rfl; have hcz71_1 : w70.cell? ⟨gb175, 1, none⟩ = some (.int .i64 t173) := (blk_cell BK175.out 1).trans rfl; have hcz71_2 : w70.cell? ⟨gb175, 2, none⟩ = some (.int .i64 t174) := (blk_cell BK175.out 2).trans rfl; have hfz71_0 := blk_frozen BK175.out 0; have hfz71_1 := blk_frozen BK175.out 1; have hfz71_2 := blk_frozen BK175.out 2) | ((with_reducible refine gate_dst (N := 10) rfl ?_); (try (refine gate_guard (by rfl) ?_; dsimp only)); refine box_event ?hg (N := 10) ?hd (cs := #[.int .i64 0, .int .i64 0, .int .i64 0]) (t := 44) ?hr ?_; (case hd => rfl); (case hg => rfl); (case hr => first | (go_simp; done) | (go_simp; rfl)); intro gb198 hg w72 hbox hb; have n0_ := Aside0.mk (Kd.R_below (by (with_reducible repeat (first | apply Kd.R_alloc | apply Kd.R_drewN | apply Kd.R_drew)); exact HO_7.out) hb); have n1_ := Aside0.mk (blk_below (g := gb175) (o := .cells #[.int .i64 t172, .int .i64 t173, .int .i64 t174] 44 (0, 0)) (by (with_reducible repeat (first | refine blk_drewN ?_ _ | refine blk_drew ?_ | refine blk_alloc ?_ _)); exact BK175.out) hb); have n2_ := Aside0.mk (below_step (by repeat (first | (with_reducible first | exact HB.out | apply below_alloc | apply pw_below_drewN | apply below_drew1 | refine below_set ?_ GE175.out) | exact HB.out)) hb); have n3_ := Aside0.mk (hbox); have n4_ := Aside0.mk ((by rw [hg]; exact (below_size (by repeat (first | (with_reducible first | exact HB.out | apply below_alloc | apply pw_below_drewN | apply below_drew1 | refine below_set ?_ GE175.out) | exact HB.out))) : w.heap.size ≤ gb198)); have n5_ := Aside0.mk ((by rw [hg]; exact (below_size (by repeat (first | (with_reducible first | exact HB.out | apply below_alloc | apply pw_below_drewN | apply below_drew1 | refine below_set ?_ GE175.out) | exact HB.out))) : w.heap.size ≤ gb198)); have n6_ := Aside0.mk ((by rw [hg]; exact Nat.ne_of_lt (blk_lt (g := gb175) (o := .cells #[.int .i64 t172, .int .i64 t173, .int .i64 t174] 44 (0, 0)) (by (with_reducible repeat (first | refine blk_drewN ?_ _ | refine blk_drew ?_ | refine blk_alloc ?_ _)); exact BK175.out)) : gb175 ≠ gb198)); have n7_ := Aside0.mk ((by rw [hg]; exact Nat.ne_of_gt (blk_lt (g := gb175) (o := .cells #[.int .i64 t172, .int .i64 t173, .int .i64 t174] 44 (0, 0)) (by (with_reducible repeat (first | refine blk_drewN ?_ _ | refine blk_drew ?_ | refine blk_alloc ?_ _)); exact BK175.out)) : gb198 ≠ gb175)); clear HO_7; clear BK175; clear HB; have HO_7 := n0_; have BK175 := n1_; have HB := n2_; have BK198 := n3_; have GW198 := n4_; have GE198 := n5_; have NB175_198 := n6_; have NB198_175 := n7_; clear n0_ n1_ n2_ n3_ n4_ n5_ n6_ n7_; clear hb hbox hg; have hnb73 := NB198_175.out; have hnc73 := NB175_198.out; have hcz74_0 : w72.cell? ⟨gb198, 0, none⟩ = some (.int .i64 0) := (blk_cell BK198.out 0).trans rfl; have hcz74_1 : w72.cell? ⟨gb198, 1, none⟩ = some (.int .i64 0) := (blk_cell BK198.out 1).trans rfl; have hcz74_2 : w72.cell? ⟨gb198, 2, none⟩ = some (.int .i64 0) := (blk_cell BK198.out 2).trans rfl; have hfz74_0 := blk_frozen BK198.out 0; have hfz74_1 := blk_frozen BK198.out 1; have hfz74_2 := blk_frozen BK198.out 2; have hcz75_0 : w72.cell? ⟨gb175, 0, none⟩ = some (.int .i64 t172) := (blk_cell BK175.out 0).trans rfl; have hcz75_1 : w72.cell? ⟨gb175, 1, none⟩ = some (.int .i64 t173) := (blk_cell BK175.out 1).trans rfl; have hcz75_2 : w72.cell? ⟨gb175, 2, none⟩ = some (.int .i64 t174) := (blk_cell BK175.out 2).trans rfl; have hfz75_0 := blk_frozen BK175.out 0; have hfz75_1 := blk_frozen BK175.out 1; have hfz75_2 := blk_frozen BK175.out 2))
                               have n0_ : Aside0 (Kd.R (Kd.int .i64) 3 ((((w72.setCell ⟨gb198, 0, none⟩ (.int .i64 t172)).setCell ⟨gb198, 1, none⟩ (.int .i64 t173)).setCell ⟨gb198, 2, none⟩ (.int .i64 t174)).setCell ⟨gb198, 0, none⟩ (.int .i64 (wrap64 (t172 - 1)))) w.heap.size (fun _ => True) v180 t179) := ⟨by (with_reducible repeat (first | apply Kd.R_alloc | apply Kd.R_drewN | apply Kd.R_drew)); exact Kd.R_mono (Kd.R_far (p := ⟨gb198, 0, none⟩) (Kd.R_far (p := ⟨gb198, 2, none⟩) (Kd.R_far (p := ⟨gb198, 1, none⟩) (Kd.R_far (p := ⟨gb198, 0, none⟩) (Kd.R_types HO_7.out BK198.out (by decide)) (fun _ hk => hk.2) (.int .i64 t172)) (fun _ hk => hk.2) (.int .i64 t173)) (fun _ hk => hk.2) (.int .i64 t174)) (fun _ hk => hk.2) (.int .i64 (wrap64 (t172 - 1)))) (fun _ hk => trivial)⟩
                               have n1_ : Aside0 (((((w72.setCell ⟨gb198, 0, none⟩ (.int .i64 t172)).setCell ⟨gb198, 1, none⟩ (.int .i64 t173)).setCell ⟨gb198, 2, none⟩ (.int .i64 t174)).setCell ⟨gb198, 0, none⟩ (.int .i64 (wrap64 (t172 - 1)))).heap[gb175]? = some (.cells #[.int .i64 t172, .int .i64 t173, .int .i64 t174] 44 (0, 0))) := ⟨by (with_reducible repeat (first | refine blk_drewN ?_ _ | refine blk_drew ?_ | refine blk_alloc ?_ _)); refine blk_far ?_ NB175_198.out _; (with_reducible repeat (first | refine blk_drewN ?_ _ | refine blk_drew ?_ | refine blk_alloc ?_ _)); refine blk_far ?_ NB175_198.out _; (with_reducible repeat (first | refine blk_drewN ?_ _ | refine blk_drew ?_ | refine blk_alloc ?_ _)); refine blk_far ?_ NB175_198.out _; (with_reducible repeat (first | refine blk_drewN ?_ _ | refine blk_drew ?_ | refine blk_alloc ?_ _)); refine blk_far ?_ NB175_198.out _; (with_reducible repeat (first | refine blk_drewN ?_ _ | refine blk_drew ?_ | refine blk_alloc ?_ _)); exact BK175.out⟩
                               have n2_ : Aside0 (((((w72.setCell ⟨gb198, 0, none⟩ (.int .i64 t172)).setCell ⟨gb198, 1, none⟩ (.int .i64 t173)).setCell ⟨gb198, 2, none⟩ (.int .i64 t174)).setCell ⟨gb198, 0, none⟩ (.int .i64 (wrap64 (t172 - 1)))).heap[gb198]? = some (.cells #[.int .i64 (wrap64 (t172 - 1)), .int .i64 t173, .int .i64 t174] 44 (0, 0))) := ⟨by (with_reducible repeat (first | refine blk_drewN ?_ _ | refine blk_drew ?_ | refine blk_alloc ?_ _)); refine blk_put (cs := #[.int .i64 t172, .int .i64 t173, .int .i64 t174]) ?_ 0 _ rfl; (with_reducible repeat (first | refine blk_drewN ?_ _ | refine blk_drew ?_ | refine blk_alloc ?_ _)); refine blk_put (cs := #[.int .i64 t172, .int .i64 t173, .int .i64 0]) ?_ 2 _ rfl; (with_reducible repeat (first | refine blk_drewN ?_ _ | refine blk_drew ?_ | refine blk_alloc ?_ _)); refine blk_put (cs := #[.int .i64 t172, .int .i64 0, .int .i64 0]) ?_ 1 _ rfl; (with_reducible repeat (first | refine blk_drewN ?_ _ | refine blk_drew ?_ | refine blk_alloc ?_ _)); refine blk_put (cs := #[.int .i64 0, .int .i64 0, .int .i64 0]) ?_ 0 _ rfl; (with_reducible repeat (first | refine blk_drewN ?_ _ | refine blk_drew ?_ | refine blk_alloc ?_ _)); exact BK198.out⟩
                               have n3_ : Aside0 (Below w.heap.size w ((((w72.setCell ⟨gb198, 0, none⟩ (.int .i64 t172)).setCell ⟨gb198, 1, none⟩ (.int .i64 t173)).setCell ⟨gb198, 2, none⟩ (.int .i64 t174)).setCell ⟨gb198, 0, none⟩ (.int .i64 (wrap64 (t172 - 1))))) := ⟨by repeat (first | (with_reducible first | exact HB.out | apply below_alloc | apply pw_below_drewN | apply below_drew1 | refine below_set ?_ GE175.out | refine below_set ?_ GE198.out) | exact HB.out)⟩
                               (try clear HO_7)
                               (try clear BK175)
                               (try clear BK198)
                               (try clear HB)
                               generalize ((((w72.setCell ⟨gb198, 0, none⟩ (.int .i64 t172)).setCell ⟨gb198, 1, none⟩ (.int .i64 t173)).setCell ⟨gb198, 2, none⟩ (.int .i64 t174)).setCell ⟨gb198, 0, none⟩ (.int .i64 (wrap64 (t172 - 1)))) = w76 at n0_ n1_ n2_ n3_ ⊢
                               have HO_7 := n0_
                               have BK175 := n1_
                               have BK198 := n2_
                               have HB := n3_
                               clear n0_ n1_ n2_ n3_
                               have n0_ := Aside0.mk (Kd.R_drew HO_7.out)
                               have n1_ := Aside0.mk (blk_drew BK175.out)
                               have n2_ := Aside0.mk (blk_drew BK198.out)
                               have n3_ := Aside0.mk (below_drew1 HB.out)
                               clear HO_7
                               clear BK175
                               clear BK198
                               clear HB
                               have HO_7 := n0_
                               have BK175 := n1_
                               have BK198 := n2_
                               have HB := n3_
                               clear n0_ n1_ n2_ n3_
                               obtain ⟨Ao78, co78, eo78⟩ := Kd.R_slice HO_7.out
                               (first | subst eo78 | (injection eo78 with f1_ f2_ f3_; have f4_ := f1_.symm; have f5_ := f3_.symm; clear f1_ f2_ f3_; subst f4_; subst f5_))
                               have p199 : 0 ≤ (0 : Int) := (by omega)
                               have q199 : 0 < (t179.length : Int) := of_decide_eq_true (by first | (with_reducible assumption) | assumption)
                               obtain ⟨ad199, e199, hx199_0⟩ := Kd.at_int (Kd.R_reads' HO_7.out).2.2 0 p199 q199
                               cases e199
                               have qi199 : (0 < t179.length) = True := eq_true (by omega)
                               (try rw [show ((0 : Int)).toNat = 0 from rfl] at hx199_0)
                               (try rw [Addr.add_zero'] at hx199_0)
                               replace p199 := eq_true p199
                               replace q199 := eq_true q199
                               have p200 : 0 ≤ (1 : Int) := (by omega)
                               have q200 : 1 < (t179.length : Int) := of_decide_eq_true (by first | (with_reducible assumption) | assumption)
                               obtain ⟨ad200, e200, hx200_0⟩ := Kd.at_int (Kd.R_reads' HO_7.out).2.2 1 p200 q200
                               obtain rfl : ad199 = ad200 := (by injection e200)
                               (try simp only [show (1 : Int).toNat = 1 from rfl, Nat.reduceMul, Nat.reduceEqDiff, Go.Addr.add, ↓reduceIte] at hx200_0)
                               have qi200 : (1 < t179.length) = True := eq_true (by omega)
                               (try rw [show ((1 : Int)).toNat = 1 from rfl] at hx200_0)
                               replace p200 := eq_true p200
                               replace q200 := eq_true q200
                               have p201 : 0 ≤ (2 : Int) := (by omega)
                               have q201 : 2 < (t179.length : Int) := of_decide_eq_true (by first | (with_reducible assumption) | assumption)
                               obtain ⟨ad201, e201, hx201_0⟩ := Kd.at_int (Kd.R_reads' HO_7.out).2.2 2 p201 q201
                               obtain rfl : ad199 = ad201 := (by injection e201)
                               (try simp only [show (2 : Int).toNat = 2 from rfl, Nat.reduceMul, Nat.reduceEqDiff, Go.Addr.add, ↓reduceIte] at hx201_0)
                               have qi201 : (2 < t179.length) = True := eq_true (by omega)
                               (try rw [show ((2 : Int)).toNat = 2 from rfl] at hx201_0)
                               replace p201 := eq_true p201
                               replace q201 := eq_true q201
                               have p202 : 0 ≤ (3 : Int) := (by omega)
                               have q202 : 3 < (t179.length : Int) := of_decide_eq_true (by first | (with_reducible assumption) | assumption)
                               obtain ⟨ad202, e202, hx202_0⟩ := Kd.at_int (Kd.R_reads' HO_7.out).2.2 3 p202 q202
                               obtain rfl : ad199 = ad202 := (by injection e202)
                               (try simp only [show (3 : Int).toNat = 3 from rfl, Nat.reduceMul, Nat.reduceEqDiff, Go.Addr.add, ↓reduceIte] at hx202_0)
                               have qi202 : (3 < t179.length) = True := eq_true (by omega)
                               (try rw [show ((3 : Int)).toNat = 3 from rfl] at hx202_0)
                               replace p202 := eq_true p202
                               replace q202 := eq_true q202
                               refine start_ (n := 66) (S := fun w' => w'.cell? ⟨gb198, 0, none⟩ = some (.int .i64 (wrap64 (t172 - 1))) ∧ w'.cell? ⟨gb198, 1, none⟩ = some (.int .i64 t173) ∧ w'.cell? ⟨gb198, 2, none⟩ = some (.int .i64 t174) ∧ w'.cell? ⟨gb175, 0, none⟩ = some (.int .i64 t172) ∧ w'.cell? ⟨gb175, 1, none⟩ = some (.int .i64 t173) ∧ w'.cell? ⟨gb175, 2, none⟩ = some (.int .i64 t174) ∧ w'.cell? ad199 = some (.int .i64 (rd t179 0)) ∧ w'.cell? ⟨ad199.block, ad199.off + 1, none⟩ = some (.int .i64 (rd t179 1)) ∧ w'.cell? ⟨ad199.block, ad199.off + 2, none⟩ = some (.int .i64 (rd t179 2)) ∧ w'.cell? ⟨ad199.block, ad199.off + 3, none⟩ = some (.int .i64 (rd t179 3))) (ds := []) #[false, false, false, false, false, false, false, false, false, false, false, false, false, false, false, false, false, false, false, false, false, false, false, false, false, false, false, false, false, false, false, false, false, false, false, false, false, false, false, false, false, false, false, false, false, false, false, false, false, false, false, false, false, false, false, false, false, false, false, false, false, false, false, false, false, false] (by kernel_rfl) rfl rfl ⟨(blk_cell BK198.out 0).trans rfl, (blk_cell BK198.out 1).trans rfl, (blk_cell BK198.out 2).trans rfl, (blk_cell BK175.out 0).trans rfl, (blk_cell BK175.out 1).trans rfl, (blk_cell BK175.out 2).trans rfl, hx199_0, hx200_0, hx201_0, hx202_0⟩ (fun hHeld => ?_); refine with_tabW laws_FnDoughs.tab14 laws_FnDoughs.bits14 (fun HT_ HW_ => ?_)
                               generalize w76.drew = w77 at HO_7 BK175 BK198 HB hx199_0 hx200_0 hx201_0 hx202_0 hHeld ⊢
                               refine pure_ (i := 0) (N := some 114) (v := ?_) (a' := ?_) #[true, false, false, false, false, false, false, false, false, false, false, false, false, false, false, false, false, false, false, false, false, false, false, false, false, false, false, false, false, false, false, false, false, false, false, false, false, false, false, false, false, false, false, false, false, false, false, false, false, false, false, false, false, false, false, false, false, false, false, false, false, false, false, false, false, false] rfl rfl (any_of HT_.out (by kernel_rfl)) (fun _ _ _ h => h) (Or.inl ⟨by rfl, ?_⟩) ?_ ?_
                               rotate_left
                               · intro w'
                                 go_simp
                                 with_reducible rfl
                               rotate_left
                               · simp only [Act.put, List.setIfInBounds_toArray, List.set_cons_zero, List.set_cons_succ, i64_w, i32_w]
                                 rfl
                               refine pure_ (i := 1) (N := some 115) (v := ?_) (a' := ?_) #[true, true, false, false, false, false, false, false, false, false, false, false, false, false, false, false, false, false, false, false, false, false, false, false, false, false, false, false, false, false, false, false, false, false, false, false, false, false, false, false, false, false, false, false, false, false, false, false, false, false, false, false, false, false, false, false, false, false, false, false, false, false, false, false, false, false] rfl rfl (any_of HT_.out (by kernel_rfl)) (fun _ _ _ h => h) (Or.inl ⟨by rfl, ?_⟩) ?_ ?_
                               rotate_left
                               · intro w'
                                 go_simp
                                 with_reducible rfl
                               rotate_left
                               · simp only [Act.put, List.setIfInBounds_toArray, List.set_cons_zero, List.set_cons_succ, i64_w, i32_w]
                                 rfl
                               refine pure_ (i := 2) (N := some 116) (v := ?_) (a' := ?_) #[true, true, true, false, false, false, false, false, false, false, false, false, false, false, false, false, false, false, false, false, false, false, false, false, false, false, false, false, false, false, false, false, false, false, false, false, false, false, false, false, false, false, false, false, false, false, false, false, false, false, false, false, false, false, false, false, false, false, false, false, false, false, false, false, false, false] rfl rfl (any_of HT_.out (by kernel_rfl)) (fun _ _ _ h => h) (Or.inl ⟨by rfl, ?_⟩) ?_ ?_
                               rotate_left
                               · intro w'
                                 go_simp
                                 with_reducible rfl
                               rotate_left
                               · simp only [Act.put, List.setIfInBounds_toArray, List.set_cons_zero, List.set_cons_succ, i64_w, i32_w]
                                 rfl
                               refine pure_ (i := 4) (N := some 118) (v := ?_) (a' := ?_) #[true, true, true, false, true, false, false, false, false, false, false, false, false, false, false, false, false, false, false, false, false, false, false, false, false, false, false, false, false, false, false, false, false, false, false, false, false, false, false, false, false, false, false, false, false, false, false, false, false, false, false, false, false, false, false, false, false, false, false, false, false, false, false, false, false, false] rfl rfl (any_of HT_.out (by kernel_rfl)) (fun _ _ _ h => h) (Or.inl ⟨by rfl, ?_⟩) ?_ ?_
                               rotate_left
                               · intro w'
                                 go_simp
                                 with_reducible rfl
                               rotate_left
                               · simp only [Act.put, List.setIfInBounds_toArray, List.set_cons_zero, List.set_cons_succ, i64_w, i32_w]
                                 rfl
                               refine pure_ (i := 5) (N := some 119) (v := ?_) (a' := ?_) #[true, true, true, false, true, true, false, false, false, false, false, false, false, false, false, false, false, false, false, false, false, false, false, false, false, false, false, false, false, false, false, false, false, false, false, false, false, false, false, false, false, false, false, false, false, false, false, false, false, false, false, false, false, false, false, false, false, false, false, false, false, false, false, false, false, false] rfl rfl (any_of HT_.out (by kernel_rfl)) (fun _ _ _ h => h) (Or.inl ⟨by rfl, ?_⟩) ?_ ?_
                               rotate_left
                               · intro w'
                                 go_simp
                                 with_reducible rfl
                               rotate_left
                               · simp only [Act.put, List.setIfInBounds_toArray, List.set_cons_zero, List.set_cons_succ, i64_w, i32_w]
                                 rfl
                               refine pure_ (i := 8) (N := some 122) (v := ?_) (a' := ?_) #[true, true, true, false, true, true, false, false, true, false, false, false, false, false, false, false, false, false, false, false, false, false, false, false, false, false, false, false, false, false, false, false, false, false, false, false, false, false, false, false, false, false, false, false, false, false, false, false, false, false, false, false, false, false, false, false, false, false, false, false, false, false, false, false, false, false] rfl rfl (any_of HT_.out (by kernel_rfl)) (fun _ _ _ h => h) (Or.inl ⟨by rfl, ?_⟩) ?_ ?_
                               rotate_left
                               · intro w'
                                 go_simp
                                 with_reducible rfl
                               rotate_left
                               · simp only [Act.put, List.setIfInBounds_toArray, List.set_cons_zero, List.set_cons_succ, i64_w, i32_w]
                                 rfl
                               refine pure_ (i := 9) (N := some 123) (v := ?_) (a' := ?_) #[true, true, true, false, true, true, false, false, true, true, false, false, false, false, false, false, false, false, false, false, false, false, false, false, false, false, false, false, false, false, false, false, false, false, false, false, false, false, false, false, false, false, false, false, false, false, false, false, false, false, false, false, false, false, false, false, false, false, false, false, false, false, false, false, false, false] rfl rfl (any_of HT_.out (by kernel_rfl)) (fun _ _ _ h => h) (Or.inl ⟨by rfl, ?_⟩) ?_ ?_
                               rotate_left
                               · intro w'
                                 go_simp
                                 with_reducible rfl
                               rotate_left
                               · simp only [Act.put, List.setIfInBounds_toArray, List.set_cons_zero, List.set_cons_succ, i64_w, i32_w]
                                 rfl
                               refine pure_ (i := 12) (N := some 126) (v := ?_) (a' := ?_) #[true, true, true, false, true, true, false, false, true, true, false, false, true, false, false, false, false, false, false, false, false, false, false, false, false, false, false, false, false, false, false, false, false, false, false, false, false, false, false, false, false, false, false, false, false, false, false, false, false, false, false, false, false, false, false, false, false, false, false, false, false, false, false, false, false, false] rfl rfl (any_of HT_.out (by kernel_rfl)) (fun _ _ _ h => h) (Or.inl ⟨by rfl, ?_⟩) ?_ ?_
                               rotate_left
                               · intro w'
                                 go_simp
                                 with_reducible rfl
                               rotate_left
                               · simp only [Act.put, List.setIfInBounds_toArray, List.set_cons_zero, List.set_cons_succ, i64_w, i32_w]
                                 rfl
                               refine pure_ (i := 13) (N := some 127) (v := ?_) (a' := ?_) #[true, true, true, false, true, true, false, false, true, true, false, false, true, true, false, false, false, false, false, false, false, false, false, false, false, false, false, false, false, false, false, false, false, false, false, false, false, false, false, false, false, false, false, false, false, false, false, false, false, false, false, false, false, false, false, false, false, false, false, false, false, false, false, false, false, false] rfl rfl (any_of HT_.out (by kernel_rfl)) (fun _ _ _ h => h) (Or.inl ⟨by rfl, ?_⟩) ?_ ?_
                               rotate_left
                               · intro w'
                                 go_simp
                                 with_reducible rfl
                               rotate_left
                               · simp only [Act.put, List.setIfInBounds_toArray, List.set_cons_zero, List.set_cons_succ, i64_w, i32_w]
                                 rfl
                               refine take_ (i := 3) (N := some 117) (v := ?_) (a' := ?_) #[true, true, true, true, true, true, false, false, true, true, false, false, true, true, false, false, false, false, false, false, false, false, false, false, false, false, false, false, false, false, false, false, false, false, false, false, false, false, false, false, false, false, false, false, false, false, false, false, false, false, false, false, false, false, false, false, false, false, false, false, false, false, false, false, false, false] rfl rfl (take_ofW HT_.out HW_.out (by kernel_rfl)) (fun _ _ _ h => h) (Or.inl ⟨by rfl, ?_⟩) hHeld ?_ ?_
                               rotate_left
                               · rintro w' ⟨s0, s1, s2, s3, s4, s5, s6, s7, s8, s9⟩
                                 go_simp
                                 with_reducible rfl
                               rotate_left
                               · simp only [Act.put, List.setIfInBounds_toArray, List.set_cons_zero, List.set_cons_succ, i64_w, i32_w]
                                 rfl
                               refine take_ (i := 6) (N := some 120) (v := ?_) (a' := ?_) #[true, true, true, true, true, true, true, false, true, true, false, false, true, true, false, false, false, false, false, false, false, false, false, false, false, false, false, false, false, false, false, false, false, false, false, false, false, false, false, false, false, false, false, false, false, false, false, false, false, false, false, false, false, false, false, false, false, false, false, false, false, false, false, false, false, false] rfl rfl (take_ofW HT_.out HW_.out (by kernel_rfl)) (fun _ _ _ h => h) (Or.inl ⟨by rfl, ?_⟩) hHeld ?_ ?_
                               rotate_left
                               · rintro w' ⟨s0, s1, s2, s3, s4, s5, s6, s7, s8, s9⟩
                                 go_simp
                                 with_reducible rfl
                               rotate_left
                               · simp only [Act.put, List.setIfInBounds_toArray, List.set_cons_zero, List.set_cons_succ, i64_w, i32_w]
                                 rfl
                               refine pure_ (i := 7) (N := some 121) (v := ?_) (a' := ?_) #[true, true, true, true, true, true, true, true, true, true, false, false, true, true, false, false, false, false, false, false, false, false, false, false, false, false, false, false, false, false, false, false, false, false, false, false, false, false, false, false, false, false, false, false, false, false, false, false, false, false, false, false, false, false, false, false, false, false, false, false, false, false, false, false, false, false] rfl rfl (any_of HT_.out (by kernel_rfl)) (fun _ _ _ h => h) (Or.inl ⟨by rfl, ?_⟩) ?_ ?_
                               rotate_left
                               · intro w'
                                 go_simp
                                 with_reducible rfl
                               rotate_left
                               · simp only [Act.put, List.setIfInBounds_toArray, List.set_cons_zero, List.set_cons_succ, i64_w, i32_w]
                                 rfl
                               refine take_ (i := 10) (N := some 124) (v := ?_) (a' := ?_) #[true, true, true, true, true, true, true, true, true, true, true, false, true, true, false, false, false, false, false, false, false, false, false, false, false, false, false, false, false, false, false, false, false, false, false, false, false, false, false, false, false, false, false, false, false, false, false, false, false, false, false, false, false, false, false, false, false, false, false, false, false, false, false, false, false, false] rfl rfl (take_ofW HT_.out HW_.out (by kernel_rfl)) (fun _ _ _ h => h) (Or.inl ⟨by rfl, ?_⟩) hHeld ?_ ?_
                               rotate_left
                               · rintro w' ⟨s0, s1, s2, s3, s4, s5, s6, s7, s8, s9⟩
                                 go_simp
                                 with_reducible rfl
                               rotate_left
                               · simp only [Act.put, List.setIfInBounds_toArray, List.set_cons_zero, List.set_cons_succ, i64_w, i32_w]
                                 rfl
                               refine pure_ (i := 11) (N := some 125) (v := ?_) (a' := ?_) #[true, true, true, true, true, true, true, true, true, true, true, true, true, true, false, false, false, false, false, false, false, false, false, false, false, false, false, false, false, false, false, false, false, false, false, false, false, false, false, false, false, false, false, false, false, false, false, false, false, false, false, false, false, false, false, false, false, false, false, false, false, false, false, false, false, false] rfl rfl (any_of HT_.out (by kernel_rfl)) (fun _ _ _ h => h) (Or.inl ⟨by rfl, ?_⟩) ?_ ?_
                               rotate_left
                               · intro w'
                                 go_simp
                                 with_reducible rfl
                               rotate_left
                               · simp only [Act.put, List.setIfInBounds_toArray, List.set_cons_zero, List.set_cons_succ, i64_w, i32_w]
                                 rfl
                               refine take_ (i := 14) (N := some 128) (v := ?_) (a' := ?_) #[true, true, true, true, true, true, true, true, true, true, true, true, true, true, true, false, false, false, false, false, false, false, false, false, false, false, false, false, false, false, false, false, false, false, false, false, false, false, false, false, false, false, false, false, false, false, false, false, false, false, false, false, false, false, false, false, false, false, false, false, false, false, false, false, false, false] rfl rfl (take_ofW HT_.out HW_.out (by kernel_rfl)) (fun _ _ _ h => h) (Or.inl ⟨by rfl, ?_⟩) hHeld ?_ ?_
                               rotate_left
                               · rintro w' ⟨s0, s1, s2, s3, s4, s5, s6, s7, s8, s9⟩
                                 go_simp
                                 with_reducible rfl
                               rotate_left
                               · simp only [Act.put, List.setIfInBounds_toArray, List.set_cons_zero, List.set_cons_succ, i64_w, i32_w]
                                 rfl
                               refine pure_ (i := 15) (N := some 129) (v := ?_) (a' := ?_) #[true, true, true, true, true, true, true, true, true, true, true, true, true, true, true, true, false, false, false, false, false, false, false, false, false, false, false, false, false, false, false, false, false, false, false, false, false, false, false, false, false, false, false, false, false, false, false, false, false, false, false, false, false, false, false, false, false, false, false, false, false, false, false, false, false, false] rfl rfl (any_of HT_.out (by kernel_rfl)) (fun _ _ _ h => h) (Or.inl ⟨by rfl, ?_⟩) ?_ ?_
                               rotate_left
                               · intro w'
                                 go_simp
                                 with_reducible rfl
                               rotate_left
                               · simp only [Act.put, List.setIfInBounds_toArray, List.set_cons_zero, List.set_cons_succ, i64_w, i32_w]
                                 rfl
                               refine pure_ (i := 16) (N := some 130) (v := ?_) (a' := ?_) #[true, true, true, true, true, true, true, true, true, true, true, true, true, true, true, true, true, false, false, false, false, false, false, false, false, false, false, false, false, false, false, false, false, false, false, false, false, false, false, false, false, false, false, false, false, false, false, false, false, false, false, false, false, false, false, false, false, false, false, false, false, false, false, false, false, false] rfl rfl (any_of HT_.out (by kernel_rfl)) (fun _ _ _ h => h) (Or.inl ⟨by rfl, ?_⟩) ?_ ?_
                               rotate_left
                               · intro w'
                                 go_simp
                                 with_reducible rfl
                               rotate_left
                               · simp only [Act.put, List.setIfInBounds_toArray, List.set_cons_zero, List.set_cons_succ, i64_w, i32_w]
                                 rfl
                               refine pure_ (i := 17) (N := some 131) (v := ?_) (a' := ?_) #[true, true, true, true, true, true, true, true, true, true, true, true, true, true, true, true, true, true, false, false, false, false, false, false, false, false, false, false, false, false, false, false, false, false, false, false, false, false, false, false, false, false, false, false, false, false, false, false, false, false, false, false, false, false, false, false, false, false, false, false, false, false, false, false, false, false] rfl rfl (any_of HT_.out (by kernel_rfl)) (fun _ _ _ h => h) (Or.inl ⟨by rfl, ?_⟩) ?_ ?_
                               rotate_left
                               · intro w'
                                 go_simp
                                 with_reducible rfl
                               rotate_left
                               · simp only [Act.put, List.setIfInBounds_toArray, List.set_cons_zero, List.set_cons_succ, i64_w, i32_w]
                                 rfl
                               refine pure_ (i := 18) (N := some 132) (v := ?_) (a' := ?_) #[true, true, true, true, true, true, true, true, true, true, true, true, true, true, true, true, true, true, true, false, false, false, false, false, false, false, false, false, false, false, false, false, false, false, false, false, false, false, false, false, false, false, false, false, false, false, false, false, false, false, false, false, false, false, false, false, false, false, false, false, false, false, false, false, false, false] rfl rfl (any_of HT_.out (by kernel_rfl)) (fun _ _ _ h => h) (Or.inl ⟨by rfl, ?_⟩) ?_ ?_
                               rotate_left
                               · intro w'
                                 go_simp
                                 with_reducible rfl
                               rotate_left
                               · simp only [Act.put, List.setIfInBounds_toArray, List.set_cons_zero, List.set_cons_succ, i64_w, i32_w]
                                 rfl
                               refine pure_ (i := 19) (N := some 133) (v := ?_) (a' := ?_) #[true, true, true, true, true, true, true, true, true, true, true, true, true, true, true, true, true, true, true, true, false, false, false, false, false, false, false, false, false, false, false, false, false, false, false, false, false, false, false, false, false, false, false, false, false, false, false, false, false, false, false, false, false, false, false, false, false, false, false, false, false, false, false, false, false, false] rfl rfl (any_of HT_.out (by kernel_rfl)) (fun _ _ _ h => h) (Or.inl ⟨by rfl, ?_⟩) ?_ ?_
                               rotate_left
                               · intro w'
                                 go_simp
                                 with_reducible rfl
                               rotate_left
                               · simp only [Act.put, List.setIfInBounds_toArray, List.set_cons_zero, List.set_cons_succ, i64_w, i32_w]
                                 rfl
                               refine pure_ (i := 20) (N := some 134) (v := ?_) (a' := ?_) #[true, true, true, true, true, true, true, true, true, true, true, true, true, true, true, true, true, true, true, true, true, false, false, false, false, false, false, false, false, false, false, false, false, false, false, false, false, false, false, false, false, false, false, false, false, false, false, false, false, false, false, false, false, false, false, false, false, false, false, false, false, false, false, false, false, false] rfl rfl (any_of HT_.out (by kernel_rfl)) (fun _ _ _ h => h) (Or.inl ⟨by rfl, ?_⟩) ?_ ?_
                               rotate_left
                               · intro w'
                                 go_simp
                                 with_reducible rfl
                               rotate_left
                               · simp only [Act.put, List.setIfInBounds_toArray, List.set_cons_zero, List.set_cons_succ, i64_w, i32_w]
                                 rfl
                               refine pure_ (i := 21) (N := some 135) (v := ?_) (a' := ?_) #[true, true, true, true, true, true, true, true, true, true, true, true, true, true, true, true, true, true, true, true, true, true, false, false, false, false, false, false, false, false, false, false, false, false, false, false, false, false, false, false, false, false, false, false, false, false, false, false, false, false, false, false, false, false, false, false, false, false, false, false, false, false, false, false, false, false] rfl rfl (any_of HT_.out (by kernel_rfl)) (fun _ _ _ h => h) (Or.inl ⟨by rfl, ?_⟩) ?_ ?_
                               rotate_left
                               · intro w'
                                 go_simp
                                 with_reducible rfl
                               rotate_left
                               · simp only [Act.put, List.setIfInBounds_toArray, List.set_cons_zero, List.set_cons_succ, i64_w, i32_w]
                                 rfl
                               refine pure_ (i := 22) (N := some 136) (v := ?_) (a' := ?_) #[true, true, true, true, true, true, true, true, true, true, true, true, true, true, true, true, true, true, true, true, true, true, true, false, false, false, false, false, false, false, false, false, false, false, false, false, false, false, false, false, false, false, false, false, false, false, false, false, false, false, false, false, false, false, false, false, false, false, false, false, false, false, false, false, false, false] rfl rfl (any_of HT_.out (by kernel_rfl)) (fun _ _ _ h => h) (Or.inl ⟨by rfl, ?_⟩) ?_ ?_
                               rotate_left
                               · intro w'
                                 go_simp
                                 with_reducible rfl
                               rotate_left
                               · simp only [Act.put, List.setIfInBounds_toArray, List.set_cons_zero, List.set_cons_succ, i64_w, i32_w]
                                 rfl
                               refine pure_ (i := 23) (N := some 137) (v := ?_) (a' := ?_) #[true, true, true, true, true, true, true, true, true, true, true, true, true, true, true, true, true, true, true, true, true, true, true, true, false, false, false, false, false, false, false, false, false, false, false, false, false, false, false, false, false, false, false, false, false, false, false, false, false, false, false, false, false, false, false, false, false, false, false, false, false, false, false, false, false, false] rfl rfl (any_of HT_.out (by kernel_rfl)) (fun _ _ _ h => h) (Or.inl ⟨by rfl, ?_⟩) ?_ ?_
                               rotate_left
                               · intro w'
                                 go_simp
                                 with_reducible rfl
                               rotate_left
                               · simp only [Act.put, List.setIfInBounds_toArray, List.set_cons_zero, List.set_cons_succ, i64_w, i32_w]
                                 rfl
                               refine pure_ (i := 24) (N := some 138) (v := ?_) (a' := ?_) #[true, true, true, true, true, true, true, true, true, true, true, true, true, true, true, true, true, true, true, true, true, true, true, true, true, false, false, false, false, false, false, false, false, false, false, false, false, false, false, false, false, false, false, false, false, false, false, false, false, false, false, false, false, false, false, false, false, false, false, false, false, false, false, false, false, false] rfl rfl (any_of HT_.out (by kernel_rfl)) (fun _ _ _ h => h) (Or.inl ⟨by rfl, ?_⟩) ?_ ?_
                               rotate_left
                               · intro w'
                                 go_simp
                                 with_reducible rfl
                               rotate_left
                               · simp only [Act.put, List.setIfInBounds_toArray, List.set_cons_zero, List.set_cons_succ, i64_w, i32_w]
                                 rfl
                               refine pure_ (i := 25) (N := some 139) (v := ?_) (a' := ?_) #[true, true, true, true, true, true, true, true, true, true, true, true, true, true, true, true, true, true, true, true, true, true, true, true, true, true, false, false, false, false, false, false, false, false, false, false, false, false, false, false, false, false, false, false, false, false, false, false, false, false, false, false, false, false, false, false, false, false, false, false, false, false, false, false, false, false] rfl rfl (any_of HT_.out (by kernel_rfl)) (fun _ _ _ h => h) (Or.inl ⟨by rfl, ?_⟩) ?_ ?_
                               rotate_left
                               · intro w'
                                 go_simp
                                 with_reducible rfl
                               rotate_left
                               · simp only [Act.put, List.setIfInBounds_toArray, List.set_cons_zero, List.set_cons_succ, i64_w, i32_w]
                                 rfl
                               refine pure_ (i := 26) (N := some 140) (v := ?_) (a' := ?_) #[true, true, true, true, true, true, true, true, true, true, true, true, true, true, true, true, true, true, true, true, true, true, true, true, true, true, true, false, false, false, false, false, false, false, false, false, false, false, false, false, false, false, false, false, false, false, false, false, false, false, false, false, false, false, false, false, false, false, false, false, false, false, false, false, false, false] rfl rfl (any_of HT_.out (by kernel_rfl)) (fun _ _ _ h => h) (Or.inl ⟨by rfl, ?_⟩) ?_ ?_
                               rotate_left
                               · intro w'
                                 go_simp
                                 with_reducible rfl
                               rotate_left
                               · simp only [Act.put, List.setIfInBounds_toArray, List.set_cons_zero, List.set_cons_succ, i64_w, i32_w]
                                 rfl
                               refine pure_ (i := 27) (N := some 141) (v := ?_) (a' := ?_) #[true, true, true, true, true, true, true, true, true, true, true, true, true, true, true, true, true, true, true, true, true, true, true, true, true, true, true, true, false, false, false, false, false, false, false, false, false, false, false, false, false, false, false, false, false, false, false, false, false, false, false, false, false, false, false, false, false, false, false, false, false, false, false, false, false, false] rfl rfl (any_of HT_.out (by kernel_rfl)) (fun _ _ _ h => h) (Or.inl ⟨by rfl, ?_⟩) ?_ ?_
                               rotate_left
                               · intro w'
                                 go_simp
                                 with_reducible rfl
                               rotate_left
                               · simp only [Act.put, List.setIfInBounds_toArray, List.set_cons_zero, List.set_cons_succ, i64_w, i32_w]
                                 rfl
                               refine pure_ (i := 28) (N := some 142) (v := ?_) (a' := ?_) #[true, true, true, true, true, true, true, true, true, true, true, true, true, true, true, true, true, true, true, true, true, true, true, true, true, true, true, true, true, false, false, false, false, false, false, false, false, false, false, false, false, false, false, false, false, false, false, false, false, false, false, false, false, false, false, false, false, false, false, false, false, false, false, false, false, false] rfl rfl (any_of HT_.out (by kernel_rfl)) (fun _ _ _ h => h) (Or.inl ⟨by rfl, ?_⟩) ?_ ?_
                               rotate_left
                               · intro w'
                                 go_simp
                                 with_reducible rfl
                               rotate_left
                               · simp only [Act.put, List.setIfInBounds_toArray, List.set_cons_zero, List.set_cons_succ, i64_w, i32_w]
                                 rfl
                               refine pure_ (i := 29) (N := some 143) (v := ?_) (a' := ?_) #[true, true, true, true, true, true, true, true, true, true, true, true, true, true, true, true, true, true, true, true, true, true, true, true, true, true, true, true, true, true, false, false, false, false, false, false, false, false, false, false, false, false, false, false, false, false, false, false, false, false, false, false, false, false, false, false, false, false, false, false, false, false, false, false, false, false] rfl rfl (any_of HT_.out (by kernel_rfl)) (fun _ _ _ h => h) (Or.inl ⟨by rfl, ?_⟩) ?_ ?_
                               rotate_left
                               · intro w'
                                 go_simp
                                 with_reducible rfl
                               rotate_left
                               · simp only [Act.put, List.setIfInBounds_toArray, List.set_cons_zero, List.set_cons_succ, i64_w, i32_w]
                                 rfl
                               refine pure_ (i := 30) (N := some 144) (v := ?_) (a' := ?_) #[true, true, true, true, true, true, true, true, true, true, true, true, true, true, true, true, true, true, true, true, true, true, true, true, true, true, true, true, true, true, true, false, false, false, false, false, false, false, false, false, false, false, false, false, false, false, false, false, false, false, false, false, false, false, false, false, false, false, false, false, false, false, false, false, false, false] rfl rfl (any_of HT_.out (by kernel_rfl)) (fun _ _ _ h => h) (Or.inl ⟨by rfl, ?_⟩) ?_ ?_
                               rotate_left
                               · intro w'
                                 go_simp
                                 with_reducible rfl
                               rotate_left
                               · simp only [Act.put, List.setIfInBounds_toArray, List.set_cons_zero, List.set_cons_succ, i64_w, i32_w]
                                 rfl
                               refine pure_ (i := 31) (N := some 145) (v := ?_) (a' := ?_) #[true, true, true, true, true, true, true, true, true, true, true, true, true, true, true, true, true, true, true, true, true, true, true, true, true, true, true, true, true, true, true, true, false, false, false, false, false, false, false, false, false, false, false, false, false, false, false, false, false, false, false, false, false, false, false, false, false, false, false, false, false, false, false, false, false, false] rfl rfl (any_of HT_.out (by kernel_rfl)) (fun _ _ _ h => h) (Or.inl ⟨by rfl, ?_⟩) ?_ ?_
                               rotate_left
                               · intro w'
                                 go_simp
                                 with_reducible rfl
                               rotate_left
                               · simp only [Act.put, List.setIfInBounds_toArray, List.set_cons_zero, List.set_cons_succ, i64_w, i32_w]
                                 rfl
                               refine pure_ (i := 32) (N := some 146) (v := ?_) (a' := ?_) #[true, true, true, true, true, true, true, true, true, true, true, true, true, true, true, true, true, true, true, true, true, true, true, true, true, true, true, true, true, true, true, true, true, false, false, false, false, false, false, false, false, false, false, false, false, false, false, false, false, false, false, false, false, false, false, false, false, false, false, false, false, false, false, false, false, false] rfl rfl (any_of HT_.out (by kernel_rfl)) (fun _ _ _ h => h) (Or.inl ⟨by rfl, ?_⟩) ?_ ?_
                               rotate_left
                               · intro w'
                                 go_simp
                                 with_reducible rfl
                               rotate_left
                               · simp only [Act.put, List.setIfInBounds_toArray, List.set_cons_zero, List.set_cons_succ, i64_w, i32_w]
                                 rfl
                               refine pure_ (i := 33) (N := some 147) (v := ?_) (a' := ?_) #[true, true, true, true, true, true, true, true, true, true, true, true, true, true, true, true, true, true, true, true, true, true, true, true, true, true, true, true, true, true, true, true, true, true, false, false, false, false, false, false, false, false, false, false, false, false, false, false, false, false, false, false, false, false, false, false, false, false, false, false, false, false, false, false, false, false] rfl rfl (any_of HT_.out (by kernel_rfl)) (fun _ _ _ h => h) (Or.inl ⟨by rfl, ?_⟩) ?_ ?_
                               rotate_left
                               · intro w'
                                 go_simp
                                 with_reducible rfl
                               rotate_left
                               · simp only [Act.put, List.setIfInBounds_toArray, List.set_cons_zero, List.set_cons_succ, i64_w, i32_w]
                                 rfl
                               refine pure_ (i := 34) (N := some 148) (v := ?_) (a' := ?_) #[true, true, true, true, true, true, true, true, true, true, true, true, true, true, true, true, true, true, true, true, true, true, true, true, true, true, true, true, true, true, true, true, true, true, true, false, false, false, false, false, false, false, false, false, false, false, false, false, false, false, false, false, false, false, false, false, false, false, false, false, false, false, false, false, false, false] rfl rfl (any_of HT_.out (by kernel_rfl)) (fun _ _ _ h => h) (Or.inl ⟨by rfl, ?_⟩) ?_ ?_
                               rotate_left
                               · intro w'
                                 go_simp
                                 with_reducible rfl
                               rotate_left
                               · simp only [Act.put, List.setIfInBounds_toArray, List.set_cons_zero, List.set_cons_succ, i64_w, i32_w]
                                 rfl
                               refine pure_ (i := 35) (N := some 149) (v := ?_) (a' := ?_) #[true, true, true, true, true, true, true, true, true, true, true, true, true, true, true, true, true, true, true, true, true, true, true, true, true, true, true, true, true, true, true, true, true, true, true, true, false, false, false, false, false, false, false, false, false, false, false, false, false, false, false, false, false, false, false, false, false, false, false, false, false, false, false, false, false, false] rfl rfl (any_of HT_.out (by kernel_rfl)) (fun _ _ _ h => h) (Or.inl ⟨by rfl, ?_⟩) ?_ ?_
                               rotate_left
                               · intro w'
                                 go_simp
                                 with_reducible rfl
                               rotate_left
                               · simp only [Act.put, List.setIfInBounds_toArray, List.set_cons_zero, List.set_cons_succ, i64_w, i32_w]
                                 rfl
                               refine pure_ (i := 36) (N := some 150) (v := ?_) (a' := ?_) #[true, true, true, true, true, true, true, true, true, true, true, true, true, true, true, true, true, true, true, true, true, true, true, true, true, true, true, true, true, true, true, true, true, true, true, true, true, false, false, false, false, false, false, false, false, false, false, false, false, false, false, false, false, false, false, false, false, false, false, false, false, false, false, false, false, false] rfl rfl (any_of HT_.out (by kernel_rfl)) (fun _ _ _ h => h) (Or.inl ⟨by rfl, ?_⟩) ?_ ?_
                               rotate_left
                               · intro w'
                                 go_simp
                                 with_reducible rfl
                               rotate_left
                               · simp only [Act.put, List.setIfInBounds_toArray, List.set_cons_zero, List.set_cons_succ, i64_w, i32_w]
                                 rfl
                               refine pure_ (i := 37) (N := some 151) (v := ?_) (a' := ?_) #[true, true, true, true, true, true, true, true, true, true, true, true, true, true, true, true, true, true, true, true, true, true, true, true, true, true, true, true, true, true, true, true, true, true, true, true, true, true, false, false, false, false, false, false, false, false, false, false, false, false, false, false, false, false, false, false, false, false, false, false, false, false, false, false, false, false] rfl rfl (any_of HT_.out (by kernel_rfl)) (fun _ _ _ h => h) (Or.inl ⟨by rfl, ?_⟩) ?_ ?_
                               rotate_left
                               · intro w'
                                 go_simp
                                 with_reducible rfl
                               rotate_left
                               · simp only [Act.put, List.setIfInBounds_toArray, List.set_cons_zero, List.set_cons_succ, i64_w, i32_w]
                                 rfl
                               refine pure_ (i := 38) (N := some 152) (v := ?_) (a' := ?_) #[true, true, true, true, true, true, true, true, true, true, true, true, true, true, true, true, true, true, true, true, true, true, true, true, true, true, true, true, true, true, true, true, true, true, true, true, true, true, true, false, false, false, false, false, false, false, false, false, false, false, false, false, false, false, false, false, false, false, false, false, false, false, false, false, false, false] rfl rfl (any_of HT_.out (by kernel_rfl)) (fun _ _ _ h => h) (Or.inl ⟨by rfl, ?_⟩) ?_ ?_
                               rotate_left
                               · intro w'
                                 go_simp
                                 with_reducible rfl
                               rotate_left
                               · simp only [Act.put, List.setIfInBounds_toArray, List.set_cons_zero, List.set_cons_succ, i64_w, i32_w]
                                 rfl
                               refine pure_ (i := 39) (N := some 153) (v := ?_) (a' := ?_) #[true, true, true, true, true, true, true, true, true, true, true, true, true, true, true, true, true, true, true, true, true, true, true, true, true, true, true, true, true, true, true, true, true, true, true, true, true, true, true, true, false, false, false, false, false, false, false, false, false, false, false, false, false, false, false, false, false, false, false, false, false, false, false, false, false, false] rfl rfl (any_of HT_.out (by kernel_rfl)) (fun _ _ _ h => h) (Or.inl ⟨by rfl, ?_⟩) ?_ ?_
                               rotate_left
                               · intro w'
                                 go_simp
                                 with_reducible rfl
                               rotate_left
                               · simp only [Act.put, List.setIfInBounds_toArray, List.set_cons_zero, List.set_cons_succ, i64_w, i32_w]
                                 rfl
                               refine take_ (i := 40) (N := some 154) (v := ?_) (a' := ?_) #[true, true, true, true, true, true, true, true, true, true, true, true, true, true, true, true, true, true, true, true, true, true, true, true, true, true, true, true, true, true, true, true, true, true, true, true, true, true, true, true, true, false, false, false, false, false, false, false, false, false, false, false, false, false, false, false, false, false, false, false, false, false, false, false, false, false] rfl rfl (take_ofW HT_.out HW_.out (by kernel_rfl)) (fun _ _ _ h => h) (Or.inl ⟨by rfl, ?_⟩) hHeld ?_ ?_
                               rotate_left
                               · rintro w' ⟨s0, s1, s2, s3, s4, s5, s6, s7, s8, s9⟩
                                 go_simp
                                 with_reducible rfl
                               rotate_left
                               · simp only [Act.put, List.setIfInBounds_toArray, List.set_cons_zero, List.set_cons_succ, i64_w, i32_w]
                                 rfl
                               refine take_ (i := 41) (N := some 155) (v := ?_) (a' := ?_) #[true, true, true, true, true, true, true, true, true, true, true, true, true, true, true, true, true, true, true, true, true, true, true, true, true, true, true, true, true, true, true, true, true, true, true, true, true, true, true, true, true, true, false, false, false, false, false, false, false, false, false, false, false, false, false, false, false, false, false, false, false, false, false, false, false, false] rfl rfl (take_ofW HT_.out HW_.out (by kernel_rfl)) (fun _ _ _ h => h) (Or.inl ⟨by rfl, ?_⟩) hHeld ?_ ?_
                               rotate_left
                               · rintro w' ⟨s0, s1, s2, s3, s4, s5, s6, s7, s8, s9⟩
                                 go_simp
                                 with_reducible rfl
                               rotate_left
                               · simp only [Act.put, List.setIfInBounds_toArray, List.set_cons_zero, List.set_cons_succ, i64_w, i32_w]
                                 rfl
                               refine one_ (i := 42) (N := some 156) #[true, true, true, true, true, true, true, true, true, true, true, true, true, true, true, true, true, true, true, true, true, true, true, true, true, true, true, true, true, true, true, true, true, true, true, true, true, true, true, true, true, true, true, false, false, false, false, false, false, false, false, false, false, false, false, false, false, false, false, false, false, false, false, false, false, false] rfl rfl (one_of HT_.out (by kernel_rfl)) (by decide) (fun K hK => ?_)
                               refine goes_ Try.func30 (by kernel_rfl) rfl #[.agg #[.int .i64 (wrap64 (t172 - 1)), .int .i64 t173, .int .i64 t174], .agg #[.int .i64 t172, .int .i64 t173, .int .i64 t174]] (by rfl) rfl rfl (by (try simp only [List.map_toArray, List.map_cons, List.map_nil]); first | done | rfl | (simp only [List.length_drop, List.length_take]; rfl)) ?_
                               with_reducible refine (impl_Firmer.calls (wrap64 (t172 - 1)) t173 t174 t172 t173 t174 t203 _ A60.out).mono ?_
                               rintro e w79 ⟨rfl, hb⟩
                               have HS6_ := (hb.cell (World.block_lt_of_cell? _ _ (hHeld.2.2.2.2.2.2.1))).trans (hHeld.2.2.2.2.2.2.1)
                               have HS7_ := (hb.cell (World.block_lt_of_cell? _ _ (hHeld.2.2.2.2.2.2.2.1))).trans (hHeld.2.2.2.2.2.2.2.1)
                               have HS8_ := (hb.cell (World.block_lt_of_cell? _ _ (hHeld.2.2.2.2.2.2.2.2.1))).trans (hHeld.2.2.2.2.2.2.2.2.1)
                               have HS9_ := (hb.cell (World.block_lt_of_cell? _ _ (hHeld.2.2.2.2.2.2.2.2.2))).trans (hHeld.2.2.2.2.2.2.2.2.2)
                               refine ⟨_, rfl, ?_⟩
                               have n0_ := Aside0.mk (Kd.R_below (by (with_reducible repeat (first | apply Kd.R_alloc | apply Kd.R_drewN | apply Kd.R_drew)); exact HO_7.out) hb)
                               have n1_ := Aside0.mk (blk_below (g := gb175) (o := .cells #[.int .i64 t172, .int .i64 t173, .int .i64 t174] 44 (0, 0)) (by (with_reducible repeat (first | refine blk_drewN ?_ _ | refine blk_drew ?_ | refine blk_alloc ?_ _)); exact BK175.out) hb)
                               have n2_ := Aside0.mk (blk_below (g := gb198) (o := .cells #[.int .i64 (wrap64 (t172 - 1)), .int .i64 t173, .int .i64 t174] 44 (0, 0)) (by (with_reducible repeat (first | refine blk_drewN ?_ _ | refine blk_drew ?_ | refine blk_alloc ?_ _)); exact BK198.out) hb)
                               have n3_ := Aside0.mk (below_step (by repeat (first | (with_reducible first | exact HB.out | apply below_alloc | apply pw_below_drewN | apply below_drew1 | refine below_set ?_ GE175.out | refine below_set ?_ GE198.out) | exact HB.out)) hb)
                               clear HO_7
                               clear BK175
                               clear BK198
                               clear HB
                               have HO_7 := n0_
                               have BK175 := n1_
                               have BK198 := n2_
                               have HB := n3_
                               clear n0_ n1_ n2_ n3_
                               (try clear hb)
                               (try clear hb2)
                               (try clear hk)
                               (try clear hi)
                               refine hK.out _ _ ⟨(blk_cell BK198.out 0).trans rfl, (blk_cell BK198.out 1).trans rfl, (blk_cell BK198.out 2).trans rfl, (blk_cell BK175.out 0).trans rfl, (blk_cell BK175.out 1).trans rfl, (blk_cell BK175.out 2).trans rfl, HS6_, HS7_, HS8_, HS9_⟩ (fun hHeld => ?_)
                               clear hK K
                               refine norm_ (a' := ?_) ?_ ?_
                               rotate_left
                               · show Act.put _ (some 156) _ = _
                                 simp only [Act.put, List.setIfInBounds_toArray, List.set_cons_zero, List.set_cons_succ, i64_w, i32_w]
                                 rfl
                               refine pure_ (i := 43) (N := some 157) (v := ?_) (a' := ?_) #[true, true, true, true, true, true, true, true, true, true, true, true, true, true, true, true, true, true, true, true, true, true, true, true, true, true, true, true, true, true, true, true, true, true, true, true, true, true, true, true, true, true, true, true, false, false, false, false, false, false, false, false, false, false, false, false, false, false, false, false, false, false, false, false, false, false] rfl rfl (any_of HT_.out (by kernel_rfl)) (fun _ _ _ h => h) (Or.inl ⟨by rfl, ?_⟩) ?_ ?_
                               rotate_left
                               · intro w'
                                 go_simp
                                 with_reducible rfl
                               rotate_left
                               · simp only [Act.put, List.setIfInBounds_toArray, List.set_cons_zero, List.set_cons_succ, i64_w, i32_w]
                                 rfl
                               refine pure_ (i := 44) (N := some 158) (v := ?_) (a' := ?_) #[true, true, true, true, true, true, true, true, true, true, true, true, true, true, true, true, true, true, true, true, true, true, true, true, true, true, true, true, true, true, true, true, true, true, true, true, true, true, true, true, true, true, true, true, true, false, false, false, false, false, false, false, false, false, false, false, false, false, false, false, false, false, false, false, false, false] rfl rfl (any_of HT_.out (by kernel_rfl)) (fun _ _ _ h => h) (Or.inl ⟨by rfl, ?_⟩) ?_ ?_
                               rotate_left
                               · intro w'
                                 go_simp
                                 with_reducible rfl
                               rotate_left
                               · simp only [Act.put, List.setIfInBounds_toArray, List.set_cons_zero, List.set_cons_succ, i64_w, i32_w]
                                 rfl
                               refine pure_ (i := 45) (N := some 159) (v := ?_) (a' := ?_) #[true, true, true, true, true, true, true, true, true, true, true, true, true, true, true, true, true, true, true, true, true, true, true, true, true, true, true, true, true, true, true, true, true, true, true, true, true, true, true, true, true, true, true, true, true, true, false, false, false, false, false, false, false, false, false, false, false, false, false, false, false, false, false, false, false, false] rfl rfl (any_of HT_.out (by kernel_rfl)) (fun _ _ _ h => h) (Or.inl ⟨by rfl, ?_⟩) ?_ ?_
                               rotate_left
                               · intro w'
                                 go_simp
                                 with_reducible rfl
                               rotate_left
                               · simp only [Act.put, List.setIfInBounds_toArray, List.set_cons_zero, List.set_cons_succ, i64_w, i32_w]
                                 rfl
                               refine take_ (i := 46) (N := some 160) (v := ?_) (a' := ?_) #[true, true, true, true, true, true, true, true, true, true, true, true, true, true, true, true, true, true, true, true, true, true, true, true, true, true, true, true, true, true, true, true, true, true, true, true, true, true, true, true, true, true, true, true, true, true, true, false, false, false, false, false, false, false, false, false, false, false, false, false, false, false, false, false, false, false] rfl rfl (take_ofW HT_.out HW_.out (by kernel_rfl)) (fun _ _ _ h => h) (Or.inl ⟨by rfl, ?_⟩) hHeld ?_ ?_
                               rotate_left
                               · rintro w' ⟨s0, s1, s2, s3, s4, s5, s6, s7, s8, s9⟩
                                 go_simp
                                 with_reducible rfl
                               rotate_left
                               · simp only [Act.put, List.setIfInBounds_toArray, List.set_cons_zero, List.set_cons_succ, i64_w, i32_w]
                                 rfl
                               refine take_ (i := 47) (N := some 161) (v := ?_) (a' := ?_) #[true, true, true, true, true, true, true, true, true, true, true, true, true, true, true, true, true, true, true, true, true, true, true, true, true, true, true, true, true, true, true, true, true, true, true, true, true, true, true, true, true, true, true, true, true, true, true, true, false, false, false, false, false, false, false, false, false, false, false, false, false, false, false, false, false, false] rfl rfl (take_ofW HT_.out HW_.out (by kernel_rfl)) (fun _ _ _ h => h) (Or.inl ⟨by rfl, ?_⟩) hHeld ?_ ?_
                               rotate_left
                               · rintro w' ⟨s0, s1, s2, s3, s4, s5, s6, s7, s8, s9⟩
                                 go_simp
                                 with_reducible rfl
                               rotate_left
                               · simp only [Act.put, List.setIfInBounds_toArray, List.set_cons_zero, List.set_cons_succ, i64_w, i32_w]
                                 rfl
                               refine one_ (i := 48) (N := some 162) #[true, true, true, true, true, true, true, true, true, true, true, true, true, true, true, true, true, true, true, true, true, true, true, true, true, true, true, true, true, true, true, true, true, true, true, true, true, true, true, true, true, true, true, true, true, true, true, true, true, false, false, false, false, false, false, false, false, false, false, false, false, false, false, false, false, false] rfl rfl (one_of HT_.out (by kernel_rfl)) (by decide) (fun K hK => ?_)
                               refine goes_ Try.func30 (by kernel_rfl) rfl #[.agg #[.int .i64 t172, .int .i64 t173, .int .i64 t174], .agg #[.int .i64 (wrap64 (t172 - 1)), .int .i64 t173, .int .i64 t174]] (by rfl) rfl rfl (by (try simp only [List.map_toArray, List.map_cons, List.map_nil]); first | done | rfl | (simp only [List.length_drop, List.length_take]; rfl)) ?_
                               with_reducible refine (impl_Firmer.calls t172 t173 t174 (wrap64 (t172 - 1)) t173 t174 t204 _ A62.out).mono ?_
                               rintro e w80 ⟨rfl, hb⟩
                               have HS6_ := (hb.cell (World.block_lt_of_cell? _ _ (hHeld.2.2.2.2.2.2.1))).trans (hHeld.2.2.2.2.2.2.1)
                               have HS7_ := (hb.cell (World.block_lt_of_cell? _ _ (hHeld.2.2.2.2.2.2.2.1))).trans (hHeld.2.2.2.2.2.2.2.1)
                               have HS8_ := (hb.cell (World.block_lt_of_cell? _ _ (hHeld.2.2.2.2.2.2.2.2.1))).trans (hHeld.2.2.2.2.2.2.2.2.1)
                               have HS9_ := (hb.cell (World.block_lt_of_cell? _ _ (hHeld.2.2.2.2.2.2.2.2.2))).trans (hHeld.2.2.2.2.2.2.2.2.2)
                               refine ⟨_, rfl, ?_⟩
                               have n0_ := Aside0.mk (Kd.R_below (by (with_reducible repeat (first | apply Kd.R_alloc | apply Kd.R_drewN | apply Kd.R_drew)); exact HO_7.out) hb)
                               have n1_ := Aside0.mk (blk_below (g := gb175) (o := .cells #[.int .i64 t172, .int .i64 t173, .int .i64 t174] 44 (0, 0)) (by (with_reducible repeat (first | refine blk_drewN ?_ _ | refine blk_drew ?_ | refine blk_alloc ?_ _)); exact BK175.out) hb)
                               have n2_ := Aside0.mk (blk_below (g := gb198) (o := .cells #[.int .i64 (wrap64 (t172 - 1)), .int .i64 t173, .int .i64 t174] 44 (0, 0)) (by (with_reducible repeat (first | refine blk_drewN ?_ _ | refine blk_drew ?_ | refine blk_alloc ?_ _)); exact BK198.out) hb)
                               have n3_ := Aside0.mk (below_step (by repeat (first | (with_reducible first | exact HB.out | apply below_alloc | apply pw_below_drewN | apply below_drew1 | refine below_set ?_ GE175.out | refine below_set ?_ GE198.out) | exact HB.out)) hb)
                               clear HO_7
                               clear BK175
                               clear BK198
                               clear HB
                               have HO_7 := n0_
                               have BK175 := n1_
                               have BK198 := n2_
                               have HB := n3_
                               clear n0_ n1_ n2_ n3_
                               (try clear hb)
                               (try clear hb2)
                               (try clear hk)
                               (try clear hi)
                               refine hK.out _ _ ⟨(blk_cell BK198.out 0).trans rfl, (blk_cell BK198.out 1).trans rfl, (blk_cell BK198.out 2).trans rfl, (blk_cell BK175.out 0).trans rfl, (blk_cell BK175.out 1).trans rfl, (blk_cell BK175.out 2).trans rfl, HS6_, HS7_, HS8_, HS9_⟩ (fun hHeld => ?_)
                               clear hK K
                               refine norm_ (a' := ?_) ?_ ?_
                               rotate_left
                               · show Act.put _ (some 162) _ = _
                                 simp only [Act.put, List.setIfInBounds_toArray, List.set_cons_zero, List.set_cons_succ, i64_w, i32_w]
                                 rfl
                               refine pure_ (i := 49) (N := some 163) (v := ?_) (a' := ?_) #[true, true, true, true, true, true, true, true, true, true, true, true, true, true, true, true, true, true, true, true, true, true, true, true, true, true, true, true, true, true, true, true, true, true, true, true, true, true, true, true, true, true, true, true, true, true, true, true, true, true, false, false, false, false, false, false, false, false, false, false, false, false, false, false, false, false] rfl rfl (any_of HT_.out (by kernel_rfl)) (fun _ _ _ h => h) (Or.inl ⟨by rfl, ?_⟩) ?_ ?_
                               rotate_left
                               · intro w'
                                 go_simp
                                 with_reducible rfl
                               rotate_left
                               · simp only [Act.put, List.setIfInBounds_toArray, List.set_cons_zero, List.set_cons_succ, i64_w, i32_w]
                                 rfl
                               refine pure_ (i := 50) (N := some 164) (v := ?_) (a' := ?_) #[true, true, true, true, true, true, true, true, true, true, true, true, true, true, true, true, true, true, true, true, true, true, true, true, true, true, true, true, true, true, true, true, true, true, true, true, true, true, true, true, true, true, true, true, true, true, true, true, true, true, true, false, false, false, false, false, false, false, false, false, false, false, false, false, false, false] rfl rfl (any_of HT_.out (by kernel_rfl)) (fun _ _ _ h => h) (Or.inl ⟨by rfl, ?_⟩) ?_ ?_
                               rotate_left
                               · intro w'
                                 go_simp
                                 with_reducible rfl
                               rotate_left
                               · simp only [Act.put, List.setIfInBounds_toArray, List.set_cons_zero, List.set_cons_succ, i64_w, i32_w]
                                 rfl
                               refine pure_ (i := 51) (N := some 165) (v := ?_) (a' := ?_) #[true, true, true, true, true, true, true, true, true, true, true, true, true, true, true, true, true, true, true, true, true, true, true, true, true, true, true, true, true, true, true, true, true, true, true, true, true, true, true, true, true, true, true, true, true, true, true, true, true, true, true, true, false, false, false, false, false, false, false, false, false, false, false, false, false, false] rfl rfl (any_of HT_.out (by kernel_rfl)) (fun _ _ _ h => h) (Or.inl ⟨by rfl, ?_⟩) ?_ ?_
                               rotate_left
                               · intro w'
                                 go_simp
                                 with_reducible rfl
                               rotate_left
                               · simp only [Act.put, List.setIfInBounds_toArray, List.set_cons_zero, List.set_cons_succ, i64_w, i32_w]
                                 rfl
                               refine take_ (i := 52) (N := some 166) (v := ?_) (a' := ?_) #[true, true, true, true, true, true, true, true, true, true, true, true, true, true, true, true, true, true, true, true, true, true, true, true, true, true, true, true, true, true, true, true, true, true, true, true, true, true, true, true, true, true, true, true, true, true, true, true, true, true, true, true, true, false, false, false, false, false, false, false, false, false, false, false, false, false] rfl rfl (take_ofW HT_.out HW_.out (by kernel_rfl)) (fun _ _ _ h => h) (Or.inl ⟨by rfl, ?_⟩) hHeld ?_ ?_
                               rotate_left
                               · rintro w' ⟨s0, s1, s2, s3, s4, s5, s6, s7, s8, s9⟩
                                 go_simp
                                 with_reducible rfl
                               rotate_left
                               · simp only [Act.put, List.setIfInBounds_toArray, List.set_cons_zero, List.set_cons_succ, i64_w, i32_w]
                                 rfl
                               refine take_ (i := 53) (N := some 167) (v := ?_) (a' := ?_) #[true, true, true, true, true, true, true, true, true, true, true, true, true, true, true, true, true, true, true, true, true, true, true, true, true, true, true, true, true, true, true, true, true, true, true, true, true, true, true, true, true, true, true, true, true, true, true, true, true, true, true, true, true, true, false, false, false, false, false, false, false, false, false, false, false, false] rfl rfl (take_ofW HT_.out HW_.out (by kernel_rfl)) (fun _ _ _ h => h) (Or.inl ⟨by rfl, ?_⟩) hHeld ?_ ?_
                               rotate_left
                               · rintro w' ⟨s0, s1, s2, s3, s4, s5, s6, s7, s8, s9⟩
                                 go_simp
                                 with_reducible rfl
                               rotate_left
                               · simp only [Act.put, List.setIfInBounds_toArray, List.set_cons_zero, List.set_cons_succ, i64_w, i32_w]
                                 rfl
                               refine one_ (i := 54) (N := some 168) #[true, true, true, true, true, true, true, true, true, true, true, true, true, true, true, true, true, true, true, true, true, true, true, true, true, true, true, true, true, true, true, true, true, true, true, true, true, true, true, true, true, true, true, true, true, true, true, true, true, true, true, true, true, true, true, false, false, false, false, false, false, false, false, false, false, false] rfl rfl (one_of HT_.out (by kernel_rfl)) (by decide) (fun K hK => ?_)
                               refine goes_ Try.func30 (by kernel_rfl) rfl #[.agg #[.int .i64 t172, .int .i64 t173, .int .i64 t174], .agg #[.int .i64 t172, .int .i64 t173, .int .i64 t174]] (by rfl) rfl rfl (by (try simp only [List.map_toArray, List.map_cons, List.map_nil]); first | done | rfl | (simp only [List.length_drop, List.length_take]; rfl)) ?_
                               with_reducible refine (impl_Firmer.calls t172 t173 t174 t172 t173 t174 t205 _ A64.out).mono ?_
                               rintro e w81 ⟨rfl, hb⟩
                               have HS6_ := (hb.cell (World.block_lt_of_cell? _ _ (hHeld.2.2.2.2.2.2.1))).trans (hHeld.2.2.2.2.2.2.1)
                               have HS7_ := (hb.cell (World.block_lt_of_cell? _ _ (hHeld.2.2.2.2.2.2.2.1))).trans (hHeld.2.2.2.2.2.2.2.1)
                               have HS8_ := (hb.cell (World.block_lt_of_cell? _ _ (hHeld.2.2.2.2.2.2.2.2.1))).trans (hHeld.2.2.2.2.2.2.2.2.1)
                               have HS9_ := (hb.cell (World.block_lt_of_cell? _ _ (hHeld.2.2.2.2.2.2.2.2.2))).trans (hHeld.2.2.2.2.2.2.2.2.2)
                               refine ⟨_, rfl, ?_⟩
                               have n0_ := Aside0.mk (Kd.R_below (by (with_reducible repeat (first | apply Kd.R_alloc | apply Kd.R_drewN | apply Kd.R_drew)); exact HO_7.out) hb)
                               have n1_ := Aside0.mk (blk_below (g := gb175) (o := .cells #[.int .i64 t172, .int .i64 t173, .int .i64 t174] 44 (0, 0)) (by (with_reducible repeat (first | refine blk_drewN ?_ _ | refine blk_drew ?_ | refine blk_alloc ?_ _)); exact BK175.out) hb)
                               have n2_ := Aside0.mk (blk_below (g := gb198) (o := .cells #[.int .i64 (wrap64 (t172 - 1)), .int .i64 t173, .int .i64 t174] 44 (0, 0)) (by (with_reducible repeat (first | refine blk_drewN ?_ _ | refine blk_drew ?_ | refine blk_alloc ?_ _)); exact BK198.out) hb)
                               have n3_ := Aside0.mk (below_step (by repeat (first | (with_reducible first | exact HB.out | apply below_alloc | apply pw_below_drewN | apply below_drew1 | refine below_set ?_ GE175.out | refine below_set ?_ GE198.out) | exact HB.out)) hb)
                               clear HO_7
                               clear BK175
                               clear BK198
                               clear HB
                               have HO_7 := n0_
                               have BK175 := n1_
                               have BK198 := n2_
                               have HB := n3_
                               clear n0_ n1_ n2_ n3_
                               (try clear hb)
                               (try clear hb2)
                               (try clear hk)
                               (try clear hi)
                               refine hK.out _ _ ⟨(blk_cell BK198.out 0).trans rfl, (blk_cell BK198.out 1).trans rfl, (blk_cell BK198.out 2).trans rfl, (blk_cell BK175.out 0).trans rfl, (blk_cell BK175.out 1).trans rfl, (blk_cell BK175.out 2).trans rfl, HS6_, HS7_, HS8_, HS9_⟩ (fun hHeld => ?_)
                               clear hK K
                               refine norm_ (a' := ?_) ?_ ?_
                               rotate_left
                               · show Act.put _ (some 168) _ = _
                                 simp only [Act.put, List.setIfInBounds_toArray, List.set_cons_zero, List.set_cons_succ, i64_w, i32_w]
                                 rfl
                               refine pure_ (i := 55) (N := some 169) (v := ?_) (a' := ?_) #[true, true, true, true, true, true, true, true, true, true, true, true, true, true, true, true, true, true, true, true, true, true, true, true, true, true, true, true, true, true, true, true, true, true, true, true, true, true, true, true, true, true, true, true, true, true, true, true, true, true, true, true, true, true, true, true, false, false, false, false, false, false, false, false, false, false] rfl rfl (any_of HT_.out (by kernel_rfl)) (fun _ _ _ h => h) (Or.inl ⟨by rfl, ?_⟩) ?_ ?_
                               rotate_left
                               · intro w'
                                 go_simp
                                 with_reducible rfl
                               rotate_left
                               · simp only [Act.put, List.setIfInBounds_toArray, List.set_cons_zero, List.set_cons_succ, i64_w, i32_w]
                                 rfl
                               refine pure_ (i := 56) (N := some 170) (v := ?_) (a' := ?_) #[true, true, true, true, true, true, true, true, true, true, true, true, true, true, true, true, true, true, true, true, true, true, true, true, true, true, true, true, true, true, true, true, true, true, true, true, true, true, true, true, true, true, true, true, true, true, true, true, true, true, true, true, true, true, true, true, true, false, false, false, false, false, false, false, false, false] rfl rfl (any_of HT_.out (by kernel_rfl)) (fun _ _ _ h => h) (Or.inl ⟨by rfl, ?_⟩) ?_ ?_
                               rotate_left
                               · intro w'
                                 go_simp
                                 with_reducible rfl
                               rotate_left
                               · simp only [Act.put, List.setIfInBounds_toArray, List.set_cons_zero, List.set_cons_succ, i64_w, i32_w]
                                 rfl
                               refine pure_ (i := 57) (N := some 171) (v := ?_) (a' := ?_) #[true, true, true, true, true, true, true, true, true, true, true, true, true, true, true, true, true, true, true, true, true, true, true, true, true, true, true, true, true, true, true, true, true, true, true, true, true, true, true, true, true, true, true, true, true, true, true, true, true, true, true, true, true, true, true, true, true, true, false, false, false, false, false, false, false, false] rfl rfl (any_of HT_.out (by kernel_rfl)) (fun _ _ _ h => h) (Or.inl ⟨by rfl, ?_⟩) ?_ ?_
                               rotate_left
                               · intro w'
                                 go_simp
                                 with_reducible rfl
                               rotate_left
                               · simp only [Act.put, List.setIfInBounds_toArray, List.set_cons_zero, List.set_cons_succ, i64_w, i32_w]
                                 rfl
                               refine take_ (i := 58) (N := some 172) (v := ?_) (a' := ?_) #[true, true, true, true, true, true, true, true, true, true, true, true, true, true, true, true, true, true, true, true, true, true, true, true, true, true, true, true, true, true, true, true, true, true, true, true, true, true, true, true, true, true, true, true, true, true, true, true, true, true, true, true, true, true, true, true, true, true, true, false, false, false, false, false, false, false] rfl rfl (take_ofW HT_.out HW_.out (by kernel_rfl)) (fun _ _ _ h => h) (Or.inl ⟨by rfl, ?_⟩) hHeld ?_ ?_
                               rotate_left
                               · rintro w' ⟨s0, s1, s2, s3, s4, s5, s6, s7, s8, s9⟩
                                 go_simp
                                 with_reducible rfl
                               rotate_left
                               · simp only [Act.put, List.setIfInBounds_toArray, List.set_cons_zero, List.set_cons_succ, i64_w, i32_w]
                                 rfl
                               refine one_ (i := 59) (N := some 173) #[true, true, true, true, true, true, true, true, true, true, true, true, true, true, true, true, true, true, true, true, true, true, true, true, true, true, true, true, true, true, true, true, true, true, true, true, true, true, true, true, true, true, true, true, true, true, true, true, true, true, true, true, true, true, true, true, true, true, true, true, false, false, false, false, false, false] rfl rfl (one_of HT_.out (by kernel_rfl)) (by decide) (fun K hK => ?_)
                               refine goes_ Try.func31 (by kernel_rfl) rfl #[.agg #[.int .i64 t172, .int .i64 t173, .int .i64 t174]] (by rfl) rfl rfl (by (try simp only [List.map_toArray, List.map_cons, List.map_nil]); first | done | rfl | (simp only [List.length_drop, List.length_take]; rfl)) ?_
                               with_reducible refine (impl_DoughOk.calls t172 t173 t174 true _ A66.out).mono ?_
                               rintro e w82 ⟨rfl, hb⟩
                               have HS6_ := (hb.cell (World.block_lt_of_cell? _ _ (hHeld.2.2.2.2.2.2.1))).trans (hHeld.2.2.2.2.2.2.1)
                               have HS7_ := (hb.cell (World.block_lt_of_cell? _ _ (hHeld.2.2.2.2.2.2.2.1))).trans (hHeld.2.2.2.2.2.2.2.1)
                               have HS8_ := (hb.cell (World.block_lt_of_cell? _ _ (hHeld.2.2.2.2.2.2.2.2.1))).trans (hHeld.2.2.2.2.2.2.2.2.1)
                               have HS9_ := (hb.cell (World.block_lt_of_cell? _ _ (hHeld.2.2.2.2.2.2.2.2.2))).trans (hHeld.2.2.2.2.2.2.2.2.2)
                               refine ⟨_, rfl, ?_⟩
                               have n0_ := Aside0.mk (Kd.R_below (by (with_reducible repeat (first | apply Kd.R_alloc | apply Kd.R_drewN | apply Kd.R_drew)); exact HO_7.out) hb)
                               have n1_ := Aside0.mk (blk_below (g := gb175) (o := .cells #[.int .i64 t172, .int .i64 t173, .int .i64 t174] 44 (0, 0)) (by (with_reducible repeat (first | refine blk_drewN ?_ _ | refine blk_drew ?_ | refine blk_alloc ?_ _)); exact BK175.out) hb)
                               have n2_ := Aside0.mk (blk_below (g := gb198) (o := .cells #[.int .i64 (wrap64 (t172 - 1)), .int .i64 t173, .int .i64 t174] 44 (0, 0)) (by (with_reducible repeat (first | refine blk_drewN ?_ _ | refine blk_drew ?_ | refine blk_alloc ?_ _)); exact BK198.out) hb)
                               have n3_ := Aside0.mk (below_step (by repeat (first | (with_reducible first | exact HB.out | apply below_alloc | apply pw_below_drewN | apply below_drew1 | refine below_set ?_ GE175.out | refine below_set ?_ GE198.out) | exact HB.out)) hb)
                               clear HO_7
                               clear BK175
                               clear BK198
                               clear HB
                               have HO_7 := n0_
                               have BK175 := n1_
                               have BK198 := n2_
                               have HB := n3_
                               clear n0_ n1_ n2_ n3_
                               (try clear hb)
                               (try clear hb2)
                               (try clear hk)
                               (try clear hi)
                               refine hK.out _ _ ⟨(blk_cell BK198.out 0).trans rfl, (blk_cell BK198.out 1).trans rfl, (blk_cell BK198.out 2).trans rfl, (blk_cell BK175.out 0).trans rfl, (blk_cell BK175.out 1).trans rfl, (blk_cell BK175.out 2).trans rfl, HS6_, HS7_, HS8_, HS9_⟩ (fun hHeld => ?_)
                               clear hK K
                               refine norm_ (a' := ?_) ?_ ?_
                               rotate_left
                               · show Act.put _ (some 173) _ = _
                                 simp only [Act.put, List.setIfInBounds_toArray, List.set_cons_zero, List.set_cons_succ, i64_w, i32_w]
                                 rfl
                               refine pure_ (i := 60) (N := some 174) (v := ?_) (a' := ?_) #[true, true, true, true, true, true, true, true, true, true, true, true, true, true, true, true, true, true, true, true, true, true, true, true, true, true, true, true, true, true, true, true, true, true, true, true, true, true, true, true, true, true, true, true, true, true, true, true, true, true, true, true, true, true, true, true, true, true, true, true, true, false, false, false, false, false] rfl rfl (any_of HT_.out (by kernel_rfl)) (fun _ _ _ h => h) (Or.inl ⟨by rfl, ?_⟩) ?_ ?_
                               rotate_left
                               · intro w'
                                 go_simp
                                 with_reducible rfl
                               rotate_left
                               · simp only [Act.put, List.setIfInBounds_toArray, List.set_cons_zero, List.set_cons_succ, i64_w, i32_w]
                                 rfl
                               refine pure_ (i := 61) (N := some 175) (v := ?_) (a' := ?_) #[true, true, true, true, true, true, true, true, true, true, true, true, true, true, true, true, true, true, true, true, true, true, true, true, true, true, true, true, true, true, true, true, true, true, true, true, true, true, true, true, true, true, true, true, true, true, true, true, true, true, true, true, true, true, true, true, true, true, true, true, true, true, false, false, false, false] rfl rfl (any_of HT_.out (by kernel_rfl)) (fun _ _ _ h => h) (Or.inl ⟨by rfl, ?_⟩) ?_ ?_
                               rotate_left
                               · intro w'
                                 go_simp
                                 with_reducible rfl
                               rotate_left
                               · simp only [Act.put, List.setIfInBounds_toArray, List.set_cons_zero, List.set_cons_succ, i64_w, i32_w]
                                 rfl
                               refine one_ (i := 62) (N := some 176) #[true, true, true, true, true, true, true, true, true, true, true, true, true, true, true, true, true, true, true, true, true, true, true, true, true, true, true, true, true, true, true, true, true, true, true, true, true, true, true, true, true, true, true, true, true, true, true, true, true, true, true, true, true, true, true, true, true, true, true, true, true, true, true, false, false, false] rfl rfl (one_of HT_.out (by kernel_rfl)) (by decide) (fun K hK => ?_)
                               refine goes_ Try.func28 (by kernel_rfl) rfl #[.int .i64 1000, .int .i64 655] (by rfl) rfl rfl (by (try simp only [List.map_toArray, List.map_cons, List.map_nil]); first | done | rfl | (simp only [List.length_drop, List.length_take]; rfl)) ?_
                               with_reducible refine (impl_PartOf.calls 1000 655 t207 _ A68.out).mono ?_
                               rintro e w' ⟨rfl, ⟨nd, rfl⟩⟩
                               refine ⟨_, rfl, ?_⟩
                               refine hK.out _ _ ⟨(blk_cell BK198.out 0).trans rfl, (blk_cell BK198.out 1).trans rfl, (blk_cell BK198.out 2).trans rfl, (blk_cell BK175.out 0).trans rfl, (blk_cell BK175.out 1).trans rfl, (blk_cell BK175.out 2).trans rfl, hHeld.2.2.2.2.2.2.1, hHeld.2.2.2.2.2.2.2.1, hHeld.2.2.2.2.2.2.2.2.1, hHeld.2.2.2.2.2.2.2.2.2⟩ (fun hHeld => ?_)
                               clear hK K
                               refine norm_ (a' := ?_) ?_ ?_
                               rotate_left
                               · show Act.put _ (some 176) _ = _
                                 simp only [Act.put, List.setIfInBounds_toArray, List.set_cons_zero, List.set_cons_succ, i64_w, i32_w]
                                 rfl
                               refine pure_ (i := 63) (N := some 177) (v := ?_) (a' := ?_) #[true, true, true, true, true, true, true, true, true, true, true, true, true, true, true, true, true, true, true, true, true, true, true, true, true, true, true, true, true, true, true, true, true, true, true, true, true, true, true, true, true, true, true, true, true, true, true, true, true, true, true, true, true, true, true, true, true, true, true, true, true, true, true, true, false, false] rfl rfl (any_of HT_.out (by kernel_rfl)) (fun _ _ _ h => h) (Or.inl ⟨by rfl, ?_⟩) ?_ ?_
                               rotate_left
                               · intro w'
                                 go_simp
                                 with_reducible rfl
                               rotate_left
                               · simp only [Act.put, List.setIfInBounds_toArray, List.set_cons_zero, List.set_cons_succ, i64_w, i32_w]
                                 rfl
                               refine pure_ (i := 64) (N := some 178) (v := ?_) (a' := ?_) #[true, true, true, true, true, true, true, true, true, true, true, true, true, true, true, true, true, true, true, true, true, true, true, true, true, true, true, true, true, true, true, true, true, true, true, true, true, true, true, true, true, true, true, true, true, true, true, true, true, true, true, true, true, true, true, true, true, true, true, true, true, true, true, true, true, false] rfl rfl (any_of HT_.out (by kernel_rfl)) (fun _ _ _ h => h) (Or.inl ⟨by rfl, ?_⟩) ?_ ?_
                               rotate_left
                               · intro w'
                                 go_simp
                                 with_reducible rfl
                               rotate_left
                               · simp only [Act.put, List.setIfInBounds_toArray, List.set_cons_zero, List.set_cons_succ, i64_w, i32_w]
                                 rfl
                               refine pure_ (i := 65) (N := some 2) (v := ?_) (a' := ?_) #[true, true, true, true, true, true, true, true, true, true, true, true, true, true, true, true, true, true, true, true, true, true, true, true, true, true, true, true, true, true, true, true, true, true, true, true, true, true, true, true, true, true, true, true, true, true, true, true, true, true, true, true, true, true, true, true, true, true, true, true, true, true, true, true, true, true] rfl rfl (any_of HT_.out (by kernel_rfl)) (fun _ _ _ h => h) (Or.inl ⟨by rfl, ?_⟩) ?_ ?_
                               rotate_left
                               · intro w'
                                 go_simp
                                 with_reducible rfl
                               rotate_left
                               · simp only [Act.put, List.setIfInBounds_toArray, List.set_cons_zero, List.set_cons_succ, i64_w, i32_w]
                                 rfl
                               refine done_ (done_of HT_.out (by kernel_rfl)) ?_
                               try go_wp2
                               go_ret
                               exact ⟨by first | rfl | (simp [errW_none, errW_some] <;> rfl) | (simp [*, errW_none, errW_some] <;> rfl), by repeat (first | (with_reducible first | exact HB.out | apply below_alloc | apply pw_below_drewN | apply below_drew1 | refine below_set ?_ GE175.out | refine below_set ?_ GE198.out) | exact HB.out)⟩
                             · replace c67 := Bool.eq_false_iff.mpr c67
                               subst c67
                               have H1 : (some false) = some true := by rw [if_neg (show ¬ (false = true) by decide)] at H; exact H
                               clear H
                               have H := H1
                               clear H1
                               exact absurd H (by simp)
                           · rw [if_neg c65] at H
                             have c65b0 : (t205 == 0) = false := beq_eq_false_iff_ne.mpr c65
                             have c65b1 : (t205 != 0) = true := bne_iff_ne.mpr c65
                             exact absurd H (by simp)
                         · rw [if_neg c63] at H
                           have c63b0 : (t204 == 1) = false := beq_eq_false_iff_ne.mpr c63
                           have c63b1 : (t204 != 1) = true := bne_iff_ne.mpr c63
                           exact absurd H (by simp)
                       · rw [if_neg c61] at H
                         have c61b0 : (t203 == (-1)) = false := beq_eq_false_iff_ne.mpr c61
                         have c61b1 : (t203 != (-1)) = true := bne_iff_ne.mpr c61
                         exact absurd H (by simp)
                     · rw [if_neg c59] at H
                       have c59b0 : decide ((wrap64 ((wrap64 (20 * t177)) - 501)) < (wrap64 (1000 * t197))) = false := decide_eq_false c59
                       clear c59
                       exact absurd H (by simp)
                   · rw [if_neg c58] at H
                     have c58b0 : decide ((wrap64 (1000 * t197)) ≤ (wrap64 ((wrap64 (20 * t177)) + 500))) = false := decide_eq_false c58
                     clear c58
                     exact absurd H (by simp)
                 · rw [if_neg c57] at H
                   have c57b0 : decide ((wrap64 ((wrap64 (t176 * 9)) - 2)) ≤ t196) = false := decide_eq_false c57
                   clear c57
                   exact absurd H (by simp)
               · rw [if_neg c56] at H
                 have c56b0 : (t196 == (wrap64 ((wrap64 ((wrap64 ((rd t179 0) + (rd t179 1))) + (rd t179 2))) + (rd t179 3)))) = false := beq_eq_false_iff_ne.mpr c56
                 have c56b1 : (t196 != (wrap64 ((wrap64 ((wrap64 ((rd t179 0) + (rd t179 1))) + (rd t179 2))) + (rd t179 3)))) = true := bne_iff_ne.mpr c56
                 exact absurd H (by simp)
             · rw [if_neg c55] at H
               exact absurd H (by simp)
           · rw [if_neg c54] at H
             exact absurd H (by simp)
         · rw [if_neg c53] at H
           exact absurd H (by simp)
       · rw [if_neg c52] at H
         exact absurd H (by simp)

/-- THE ONE PURE STATEMENT of laws_FnDoughs: yours. -/
def laws_FnDoughs.Pure : Prop := ∀ (l0 : List Int), l0.length ≤ maxLen → l0.length * 1 ≤ 140737488351232 → (∀ x ∈ l0, (Lit.int .u8 x).wf = true) → ∃ k, laws_FnDoughs.f k l0 = some true
theorem laws_FnDoughs.walk (P : laws_FnDoughs.Pure) (a0 : Option Addr) (len0 cap0 : Nat) (z0 : List Int) (w : World) (w0 : (a0 = none ∧ len0 = 0 ∧ cap0 = 0 ∧ z0 = []) ∨ ∃ x, a0 = some x ∧ len0 ≤ cap0 ∧ cap0 ≤ maxLen ∧ z0.length = cap0 ∧ (∀ i, i < z0.length → w.cell? (x.add i) = some (.int .u8 (z0.getD i 0))) ∧ ∀ n ∈ z0, (Lit.int .u8 n).wf = true) (y0 : len0 * 1 ≤ 140737488351232) :
  Calls Try.prog 6 #[.slice a0 len0 cap0] w fun e w' => e = .returned (.bool true) ∧ Below w.heap.size w w' := by
 obtain ⟨l0, rfl, hr0, hm0, hw0, hc0⟩ := ReadsInt.ofRowC w0
 obtain ⟨k, h⟩ := P l0 hm0 y0 hw0
 refine (laws_FnDoughs.calls k _ _ l0 w (Kd.C_of_reads (d := (0 : Int)) (h1 := fun _ => rfl) hr0) hc0 h).mono ?_
 rintro e w' ⟨rfl, hd⟩
 exact ⟨rfl, hd⟩

end Go.Proofs.Ythonmildlahjdaa.PFnDoughs

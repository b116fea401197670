/- What is proved: the closure of impl.SplitFields answers whether a letter is a blank, and strings.FieldsFunc over it hands back the fields; no condition but a string of at most 2^32 bytes. -/
import Derived.Test.YtdfgnfbcfnkncaaDoorProg
import Derived.Test.YtdfgnfbcfnkncaaDoorWWords
import Derived.Test.YtdfgnfbcfnkncaaDoorShelfTwo
import Derived.Lib.Walk
import Derived.Lib.AppendIntMem
import Derived.WalkKit
import Derived.Below
set_option linter.unusedVariables false
set_option linter.unusedSimpArgs false
namespace Go.Proofs.YtdfgnfbcfnkncaaDoor.Hand
open Go.RowKit Go.Lib Go.Proofs.YtdfgnfbcfnkncaaDoorW.PrintWords

theorem blank_calls (x : Nat) (hx : x ≤ 1114111) (w : World) : Calls Tryd.prog 35 #[.int .i32 (x : Int)] w fun e w' => e = .returned (.bool (x == 32)) ∧ ∃ q, w' = w.drewN q := by
  by_cases h : x = 32
  · subst h
    go_enter Tryd.func35, Tryd.ntmps35
    go_wp2
    go_ret
    exact ⟨rfl, 0, rfl⟩
  · have h1 : ((x : Int) == 32) = false := beq_eq_false_iff_ne.mpr (by omega)
    have h2 : decide ((x : Int) = 32) = false := decide_eq_false (by omega)
    have h3 : (x == 32) = false := beq_eq_false_iff_ne.mpr h
    rw [h3]
    go_enter Tryd.func35, Tryd.ntmps35
    go_wp2
    go_ret
    exact ⟨rfl, 0, rfl⟩
theorem fields_calls (s : ByteArray) (hs : s.size ≤ 4294967296) (w : World) :
    Calls Tryd.prog 34 #[.string s, .func (.func 35) #[] #[]] w fun e w' => ∃ A, e = .returned (.slice (some ⟨A, 0, none⟩) (goFieldsP (fun c => c == 32) s).length (goFieldsP (fun c => c == 32) s).length) ∧ w.heap.size ≤ A ∧
      w'.ownsRow w.heap.size 9 1 (.slice (some ⟨A, 0, none⟩) (goFieldsP (fun c => c == 32) s).length (goFieldsP (fun c => c == 32) s).length) (goFieldsP (fun c => c == 32) s).length ((goFieldsP (fun c => c == 32) s).map Value.string) ∧ Below w.heap.size w w' :=
  Tryd.strings_FieldsFunc_runes 35 #[] (enters_of Tryd.func35 (by kernel_rfl) rfl) (fun c => c == 32) s w hs (fun W x hx hb => blank_calls x hx W)
end Go.Proofs.YtdfgnfbcfnkncaaDoor.Hand

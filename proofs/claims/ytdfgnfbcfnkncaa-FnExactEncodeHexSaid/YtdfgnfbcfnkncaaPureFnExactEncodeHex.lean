/- What is proved: read as plain functions on numbers and lists, the law FnExactEncodeHex answers true at every input of its kinds; no condition is added. -/
import Derived.Test.YtdfgnfbcfnkncaaPFnExactEncodeHexx1
import Derived.Test.YtdfgnfbcfnkncaaPlain
set_option linter.unusedVariables false
set_option linter.unusedSimpArgs false
set_option maxRecDepth 20000
namespace Go.Proofs.Ytdfgnfbcfnkncaa.Pure
open Go.RowKit Go.Proofs.Ytdfgnfbcfnkncaa.PFnExactEncodeHex Go.Proofs.YtdfgnfbcfnkncaaW.PrintWords Go.Proofs.YtdfgnfbcfnkncaaW.PrintLast Go.Proofs.YtdfgnfbcfnkncaaW.PrintMore Go.Proofs.Ytdfgnfbcfnkncaa.Plain
def pHexD (v : Int) : Int := if v < 10 then 48 + v else 87 + v
/-- Two figures for each byte from here on. -/
def pHex (a : ByteArray) : Nat → Nat → List Int
  | 0, _ => []
  | d + 1, j => pHexD (bt a (j : Int) / 16) :: pHexD (bt a (j : Int) % 16) :: pHex a d (j + 1)
theorem pHex_length (a : ByteArray) (d : Nat) : ∀ j, (pHex a d j).length = 2 * d := by
  induction d with
  | zero => intro j; rfl
  | succ d ih => intro j; simp only [pHex, List.length_cons, ih]; omega
theorem tab_hex {v : Int} (h : 0 ≤ v ∧ v < 16) : bt (⟨#[48, 49, 50, 51, 52, 53, 54, 55, 56, 57, 97, 98, 99, 100, 101, 102]⟩ : ByteArray) v = pHexD v := by
  obtain ⟨n, rfl⟩ := Int.eq_ofNat_of_zero_le h.1
  have hn : n < 16 := by omega
  have : ∀ i : Fin 16, bt (⟨#[48, 49, 50, 51, 52, 53, 54, 55, 56, 57, 97, 98, 99, 100, 101, 102]⟩ : ByteArray) ((i.val : Nat) : Int) = pHexD ((i.val : Nat) : Int) := by decide
  exact this ⟨n, hn⟩
theorem spec_l01Figure_eq {v : Int} (h : 0 ≤ v ∧ v < 16) : spec_l01Figure.f v = some (pHexD v) := by
  unfold spec_l01Figure.f pHexD
  by_cases h1 : v < 10
  · rw [if_pos h1, if_pos h1, w64 (by omega) (by omega)]
    congr 1
    omega
  · rw [if_neg h1, if_neg h1, w64 (n := 97 + v) (by omega) (by omega), w64 (n := 97 + v - 10) (by omega) (by omega)]
    congr 1
    omega
theorem spec_EncodeHex_l0 (a : ByteArray) (hn : a.size ≤ 20000) (d : Nat) : ∀ (j : Nat) (acc : List Int), j + d = a.size → acc.length = 2 * j → Ev (fun k => spec_EncodeHex.l0 k a acc j) (strOfNums (acc ++ pHex a d j), true) := by
  induction d with
  | zero =>
    intro j acc hj hl
    refine ev_succ ?_
    simp only [spec_EncodeHex.l0]
    exact ev_ifn (by omega) (ev_const (by simp [pHex]))
  | succ d ih =>
    intro j acc hj hl
    have hb := bt_range a (j : Int)
    refine ev_succ ?_
    simp only [spec_EncodeHex.l0]
    rw [w64 (n := bt a (j : Int)) (by omega) (by omega), Int.tdiv_eq_ediv_of_nonneg hb.1, Int.tmod_eq_emod_of_nonneg hb.1, w64 (n := bt a (j : Int) / 16) (by omega) (by omega), spec_l01Figure_eq (by omega), spec_l01Figure_eq (by omega), wnext (n := a.size) (by omega) (by omega)]
    simp only [Option.bind_some, List.length_cons, List.length_nil]
    refine ev_ifp (by omega) (ev_ifp (by omega) (ev_ifp (by omega) (ev_eq (ih (j + 1) _ (by omega) (by simp; omega)) ?_)))
    simp only [pHex, List.append_assoc, List.cons_append, List.nil_append]
theorem spec_EncodeHex_ev (a : ByteArray) : Ev (fun k => spec_EncodeHex.f k a) (if (a.size : Int) > 20000 then ((⟨#[]⟩ : ByteArray), false) else (strOfNums (pHex a a.size 0), true)) := by
  unfold spec_EncodeHex.f
  by_cases h : (a.size : Int) > 20000
  · rw [if_pos h]
    exact ev_ifp h (Ev.now _)
  · rw [if_neg h]
    exact ev_ifn h (ev_eq (spec_EncodeHex_l0 a (by omega) a.size 0 [] (by omega) rfl) (by simp))
theorem impl_inHex_l0 (a : ByteArray) (hn : a.size ≤ 20000) (d : Nat) : ∀ (j : Nat) (acc : List Int), j + d = a.size → acc.length = 2 * j → Ev (fun k => impl_inHex.l0 k a acc (a.size : Int) j) (strOfNums (acc ++ pHex a d j)) := by
  induction d with
  | zero =>
    intro j acc hj hl
    refine ev_succ ?_
    simp only [impl_inHex.l0]
    exact ev_ifn (by omega) (ev_const (by simp [pHex]))
  | succ d ih =>
    intro j acc hj hl
    have hb := bt_range a (j : Int)
    refine ev_succ ?_
    simp only [impl_inHex.l0]
    rw [Go.u8_and15 _ hb.1 (by omega), tab_hex (v := bt a (j : Int) / 16) (by omega), tab_hex (v := bt a (j : Int) % 16) (by omega), wnext (n := a.size) (by omega) (by omega)]
    simp only [Option.bind_some, List.length_cons, List.length_nil]
    refine ev_ifp (by omega) (ev_ifp (by omega) (ev_ifp (by omega) (ev_ifp (by omega) (ev_ifp (by omega) (ev_ifp (by omega) (ev_ifp (by omega) (ev_ifp (by omega) (ev_eq (ih (j + 1) _ (by omega) (by simp; omega)) ?_))))))))
    simp only [pHex, List.append_assoc, List.cons_append, List.nil_append]
theorem impl_inHex_ev (a : ByteArray) (hn : a.size ≤ 20000) : Ev (fun k => impl_inHex.f k a) (strOfNums (pHex a a.size 0)) := by
  unfold impl_inHex.f
  exact ev_eq (impl_inHex_l0 a hn a.size 0 [] (by omega) rfl) (by simp)
theorem impl_EncodeHex_ev (a : ByteArray) : Ev (fun k => impl_EncodeHex.f k a) (if (a.size : Int) > 20000 then ((⟨#[]⟩ : ByteArray), false) else (strOfNums (pHex a a.size 0), true)) := by
  unfold impl_EncodeHex.f
  by_cases h : (a.size : Int) > 20000
  · rw [if_pos h]
    exact ev_ifp h (Ev.now _)
  · rw [if_neg h]
    exact ev_ifn h (Ev.bind (impl_inHex_ev a (by omega)) (Ev.now _))
theorem FnExactEncodeHex : laws_FnExactEncodeHex.Pure := by
  intro a _
  refine Ev.rounds (g := fun k => laws_FnExactEncodeHex.f k a) ?_
  unfold laws_FnExactEncodeHex.f
  by_cases h : (a.size : Int) > 1048576
  · exact ev_ifp h (Ev.now _)
  · exact ev_ifn h (Ev.bind (spec_EncodeHex_ev a) (Ev.bind (impl_EncodeHex_ev a) (ev_ifp rfl (ev_ifn (by simp) (Ev.now _)))))
end Go.Proofs.Ytdfgnfbcfnkncaa.Pure

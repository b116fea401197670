/- Arguments that are structs of whole numbers, or slices of such structs, opened to plain numbers and lists; no condition beyond the row's own reading. -/
import Derived.Test.YtamdbkilpllfoaaWWords
import Derived.Lib.SmallJoins
import Derived.Deep.SlicePairs
import Derived.SizedLaws
import Derived.ChangeSame
set_option linter.unusedVariables false
namespace Go.Proofs.Ytamdbkilpllfoaa.Open
open Go.Joins Go.ChangeShapes Go.WideShapes Go.RowKit Go.Deep Go.Proofs.YtamdbkilpllfoaaW.PrintWords
section
variable {H : Type} {enc : TypeId × Value → H} {P : Program} {w : World} {base : Nat} {spare : Nat → Bool} {held : Bool}
/-- A struct of two whole numbers, by value. -/
theorem open_ints2 {r : Reach} {b0 : Nat} {t : TypeId} {f0 f1 : Field} {v : Value} {d : DataW H} {p : List MemPlace} (hs : P.underlying t = some (.struct #[f0, f1])) (hone : oneCellFields P #[f0, f1] = true) (hC : P.cellsOf t = 2)
    (u0 : P.underlying f0.type = some (.int .i64)) (u1 : P.underlying f1.type = some (.int .i64)) (hv : Value.okWide P w r b0 t v) (h : DataW.Trod enc P w base spare held t v d p) :
    ∃ x0 x1 : Int, v = .agg #[.int .i64 x0, .int .i64 x1] ∧ (Lit.int .i64 x0).wf = true ∧ (Lit.int .i64 x1).wf = true := by
  obtain ⟨v0, v1, y0, y1, n, rfl, _, _, h0, h1⟩ := open_agg2 hs hone hC hv h
  obtain ⟨x0, e0, _, w0⟩ := DataW.trod_int u0 h0
  obtain ⟨x1, e1, _, w1⟩ := DataW.trod_int u1 h1
  simp only [List.cons.injEq, and_true] at e0 e1
  exact ⟨x0, x1, by rw [e0, e1], w0, w1⟩
/-- A struct of three whole numbers, by value. -/
theorem open_ints3 {r : Reach} {b0 : Nat} {t : TypeId} {f0 f1 f2 : Field} {v : Value} {d : DataW H} {p : List MemPlace} (hs : P.underlying t = some (.struct #[f0, f1, f2])) (hone : oneCellFields P #[f0, f1, f2] = true) (hC : P.cellsOf t = 3)
    (u0 : P.underlying f0.type = some (.int .i64)) (u1 : P.underlying f1.type = some (.int .i64)) (u2 : P.underlying f2.type = some (.int .i64)) (hv : Value.okWide P w r b0 t v) (h : DataW.Trod enc P w base spare held t v d p) :
    ∃ x0 x1 x2 : Int, v = .agg #[.int .i64 x0, .int .i64 x1, .int .i64 x2] ∧ (Lit.int .i64 x0).wf = true ∧ (Lit.int .i64 x1).wf = true ∧ (Lit.int .i64 x2).wf = true := by
  obtain ⟨v0, v1, v2, y0, y1, y2, n, rfl, _, _, h0, h1, h2⟩ := open_agg3 hs hone hC hv h
  obtain ⟨x0, e0, _, w0⟩ := DataW.trod_int u0 h0
  obtain ⟨x1, e1, _, w1⟩ := DataW.trod_int u1 h1
  obtain ⟨x2, e2, _, w2⟩ := DataW.trod_int u2 h2
  simp only [List.cons.injEq, and_true] at e0 e1 e2
  exact ⟨x0, x1, x2, by rw [e0, e1, e2], w0, w1, w2⟩
/-- A slice of structs of two whole numbers reads as a list of pairs. -/
theorem open_pairs {W : World} {t e : TypeId} {f0 f1 : Field} {a : Option Addr} {len cap : Nat} {d : DataW H} {ps : List MemPlace} {ts : List TypeId} {ds : List (DataW H)} {j : Nat} (hsz : (DataW.weightsEach P ts ds).all (· ≤ reachBytes) = true) (htj : ts[j]? = some t) (hdj : ds[j]? = some d)
    (ht : P.underlying t = some (.slice e)) (he : P.underlying e = some (.struct #[f0, f1])) (ce : P.cellsOf e = 2) (o0 : f0.offset = 0) (o1 : f1.offset = 1) (c0 : P.cellsOf f0.type = 1) (c1 : P.cellsOf f1.type = 1)
    (u0 : P.underlying f0.type = some (.int .i64)) (u1 : P.underlying f1.type = some (.int .i64)) (hB : P.bytesOf e = 16) (h : DataW.Trod enc P W base spare held t (.slice a len cap) d ps) :
    ∃ zs : List (Int × Int), len = zs.length ∧ zs.length ≤ cap ∧ zs.length ≤ maxLen ∧ zs.length * 16 ≤ 140737488351232 ∧ (∀ x ∈ zs, (Lit.int .i64 x.1).wf = true ∧ (Lit.int .i64 x.2).wf = true) ∧
      (0 < zs.length → ∃ ad, a = some ad ∧ ∀ i p, zs[i]? = some p → W.cell? (ad.add (i * 2)) = some (.int .i64 p.1) ∧ W.cell? (ad.add (i * 2 + 1)) = some (.int .i64 p.2)) := by
  obtain ⟨fuel, hf⟩ := h
  rcases open_slice_pairs ht he ce o0 o1 c0 c1 hf with ⟨hcs, _⟩ | ⟨ad, l, c, m, n, V0, V1, D0, D1, P0, P1, hcs, _, hl, hm, hmm, hx, hi⟩
  · simp [Value.cells] at hcs
    obtain ⟨rfl, rfl, rfl⟩ := hcs
    exact ⟨[], rfl, by simp, by simp, by simp, by simp, fun h => absurd h (by simp)⟩
  · simp [Value.cells] at hcs
    obtain ⟨rfl, rfl, rfl⟩ := hcs
    have hlm : len ≤ m := by rw [hmm]; split <;> omega
    have each : ∀ i, i < len → ∃ p : Int × Int, W.cell? (ad.add (i * 2)) = some (.int .i64 p.1) ∧ W.cell? (ad.add (i * 2 + 1)) = some (.int .i64 p.2) ∧ (Lit.int .i64 p.1).wf = true ∧ (Lit.int .i64 p.2).wf = true := by
      intro i hil
      obtain ⟨g0, g1, t0, t1⟩ := hi i (by omega)
      obtain ⟨x0, e0, _, w0⟩ := DataW.trod_int u0 t0
      obtain ⟨x1, e1, _, w1⟩ := DataW.trod_int u1 t1
      simp only [List.cons.injEq, and_true] at e0 e1
      exact ⟨(x0, x1), by rw [g0, e0], by rw [g1, e1], w0, w1⟩
    obtain ⟨q, hq⟩ := choose_lt each
    have hz : ((List.range len).map q).length = len := by simp
    refine ⟨(List.range len).map q, hz.symm, by rw [hz]; exact hl, by rw [hz]; omega, ?_, ?_, fun _ => ⟨ad, rfl, fun i p hp => ?_⟩⟩
    · obtain ⟨hx, _⟩ := Prod.mk.inj hx
      subst hx
      have z := sized_slice hsz htj hdj ht
      rw [hB] at z
      rw [hz]
      simp only [List.length_map, List.length_range] at z
      exact Nat.le_trans (Nat.mul_le_mul_right _ (by omega)) z
    · intro x hx
      obtain ⟨i, hil, rfl⟩ := List.mem_map.1 hx
      exact ⟨(hq i (List.mem_range.1 hil)).2.2.1, (hq i (List.mem_range.1 hil)).2.2.2⟩
    · obtain ⟨hil, rfl⟩ := List.getElem?_eq_some_iff.1 hp
      have hil' : i < len := by simpa using hil
      simp only [List.getElem_map, List.getElem_range]
      exact ⟨(hq i hil').1, (hq i hil').2.1⟩
end
/-- Such pairs as the elements of a printed kind. -/
theorem C_of_pairs {α : Type} {d : Kd α} {w : World} {a : Option Addr} {zs : List (Int × Int)} (mk : Int × Int → α) (hs : d.sz = 2) (hK : ∀ p, d.K w (mk p) [.int .i64 p.1, .int .i64 p.2]) (hm : zs.length ≤ maxLen)
    (h : 0 < zs.length → ∃ ad, a = some ad ∧ ∀ i p, zs[i]? = some p → w.cell? (ad.add (i * 2)) = some (.int .i64 p.1) ∧ w.cell? (ad.add (i * 2 + 1)) = some (.int .i64 p.2)) : d.C w a (zs.map mk).length (zs.map mk) := by
  refine ⟨rfl, by simp only [List.length_map]; unfold maxLen at hm; omega, fun hn => ?_⟩
  simp only [List.length_map] at hn
  obtain ⟨ad, e, hc⟩ := h hn
  refine ⟨ad, e, fun j p hj => ?_⟩
  rw [List.getElem?_map] at hj
  cases hz : zs[j]? with
  | none => rw [hz] at hj; cases hj
  | some q =>
    rw [hz] at hj
    obtain rfl := Option.some.inj hj
    obtain ⟨g0, g1⟩ := hc j q hz
    refine ⟨[.int .i64 q.1, .int .i64 q.2], by rw [hs]; rfl, hK q, fun i u hu => ?_⟩
    rw [hs]
    match i, hu with
    | 0, hu => obtain rfl := Option.some.inj hu; exact g0
    | 1, hu => obtain rfl := Option.some.inj hu; exact g1
end Go.Proofs.Ytamdbkilpllfoaa.Open

/- What is proved: impl.JoinSame over valid batches hands back, in a row of its own, the joined batches; no condition beyond the slice's reading. -/
import Derived.Test.YtjkpdpggnapmlaaHandThree
import Derived.OwnWalk
import Derived.Deep.LoopGhost
set_option linter.unusedVariables false
set_option linter.unusedSimpArgs false
namespace Go.Proofs.Ytjkpdpggnapmlaa.Hand
open Go.RowKit Go.Lib Go.Sort Go.Shelf Go.Proofs.YtjkpdpggnapmlaaW.PrintWords

theorem info39 : (Try.prog.info? 39).map (fun i => (i.zero, i.size, i.bytes)) = some (some (.agg #[.int .i64 0, .int .i64 0]), 2, 16) := by kernel_rfl
/-- What the joined row holds stays small. -/
def Small (k : Nat) (out : List (Int × Int)) : Prop := out.length ≤ k ∧ ∀ p ∈ out, (1 ≤ p.1 ∧ p.1 ≤ 500 * k) ∧ (1 ≤ p.2 ∧ p.2 ≤ 200)
theorem small_addB {k : Nat} (b : Int × Int) (hb : (1 ≤ b.1 ∧ b.1 ≤ 500) ∧ (1 ≤ b.2 ∧ b.2 ≤ 200)) : ∀ (out : List (Int × Int)) (j : Nat), out.length ≤ j → (∀ p ∈ out, (1 ≤ p.1 ∧ p.1 ≤ 500 * k) ∧ (1 ≤ p.2 ∧ p.2 ≤ 200)) →
    (addB out b).length ≤ j + 1 ∧ ∀ p ∈ addB out b, (1 ≤ p.1 ∧ p.1 ≤ 500 * (k + 1 : Nat)) ∧ (1 ≤ p.2 ∧ p.2 ≤ 200)
  | [], j, _, _ => ⟨by simp [addB], fun p hp => by
      simp only [addB, List.mem_singleton] at hp
      subst hp
      omega⟩
  | a :: t, j, hl, h => by
    have ha := h a (by simp)
    simp only [List.length_cons] at hl
    simp only [addB]
    by_cases e : a.2 = b.2
    · rw [if_pos e]
      refine ⟨by simp only [List.length_cons]; omega, fun p hp => ?_⟩
      rcases List.mem_cons.1 hp with rfl | hp
      · dsimp only; omega
      · have := h p (by simp [hp])
        omega
    · rw [if_neg e]
      obtain ⟨h1, h2⟩ := small_addB (k := k) b hb t (j - 1) (by omega) (fun p hp => h p (by simp [hp]))
      refine ⟨by simp only [List.length_cons]; omega, fun p hp => ?_⟩
      rcases List.mem_cons.1 hp with rfl | hp
      · omega
      · exact h2 p hp
theorem small_merge (zs : List (Int × Int)) (hok : zs.all okB = true) : ∀ k, k ≤ zs.length → Small k (mergeB (zs.take k)) := by
  intro k
  induction k with
  | zero => intro _; exact ⟨by simp [mergeB], fun p hp => by simp [mergeB] at hp⟩
  | succ k ih =>
    intro hk
    obtain ⟨h1, h2⟩ := ih (by omega)
    have hz := (List.all_eq_true.1 hok) zs[k] (List.getElem_mem _)
    simp only [okB, decide_eq_true_eq] at hz
    have := small_addB (k := k) zs[k] hz _ k h1 h2
    unfold mergeB at this ⊢
    rw [List.take_succ_eq_append_getElem (by omega), List.foldl_append]
    exact this
/-- The next batch, and what the row so far holds. -/
structure Bounds (k : Nat) (out : List (Int × Int)) (y : Int × Int) : Prop where
  y0 : 1 ≤ y.1 ∧ y.1 ≤ 500
  y1 : 1 ≤ y.2 ∧ y.2 ≤ 200
  small : Small k out
theorem row_bounds (zs : List (Int × Int)) (hok : zs.all okB = true) (h10 : zs.length ≤ 10) (k : Nat) (hk : k < zs.length) : Bounds k (mergeB (zs.take k)) zs[k] := by
  have hz := (List.all_eq_true.1 hok) zs[k] (List.getElem_mem _)
  simp only [okB, decide_eq_true_eq] at hz
  exact ⟨hz.1, hz.2, small_merge zs hok k (by omega)⟩
/-- IndexFunc over the made row, its closure bound to the batch's block. -/
theorem idx_calls (y0 y1 : Int) (g n cap : Nat) (out : List (Int × Int)) (w wr : World) (hn : n = out.length) (ho : wr.ownsRow w.heap.size 39 2 (.slice (some ⟨g, 0, none⟩) n cap) n (flat out)) :
    Calls Try.prog 40 #[.slice (some ⟨g, 0, none⟩) n cap, .func (.func 41) #[] #[.pointer (some ⟨wr.heap.size, 0, none⟩)]] (wr.alloc (.cells #[.int .i64 y0, .int .i64 y1] 39)) fun e w' => e = .returned (.int .i64 (Lib.idxBy (fun _ y => y.2 == y1) out ((0 : Int), (0 : Int)))) ∧
      RowKit.Below (wr.heap.size + 1) (wr.alloc (.cells #[.int .i64 y0, .int .i64 y1] 39)) w' ∧ w'.cell? ⟨wr.heap.size, 0, none⟩ = some (.int .i64 y0) ∧ w'.cell? ⟨wr.heap.size, 1, none⟩ = some (.int .i64 y1) := by
  subst hn
  have e0 : (wr.alloc (.cells #[.int .i64 y0, .int .i64 y1] 39)).cell? ⟨wr.heap.size, 0, none⟩ = some (.int .i64 y0) := by rw [cell_of_row _ _ _ _ _ (0, 0) (heap_alloc_new wr _)]; rfl
  have e1 : (wr.alloc (.cells #[.int .i64 y0, .int .i64 y1] 39)).cell? ⟨wr.heap.size, 1, none⟩ = some (.int .i64 y1) := by rw [cell_of_row _ _ _ _ _ (0, 0) (heap_alloc_new wr _)]; rfl
  have ho' := ho.alloc (.cells #[.int .i64 y0, .int .i64 y1] 39)
  have hsz : (wr.alloc (.cells #[.int .i64 y0, .int .i64 y1] 39)).heap.size = wr.heap.size + 1 := by simp
  have hr : Pairs (wr.alloc (.cells #[.int .i64 y0, .int .i64 y1] 39)) (some ⟨g, 0, none⟩) out := by
    refine ⟨?_, fun _ => ⟨_, rfl, fun i p hp => ?_⟩⟩
    · rcases ho.2 with ⟨h, _⟩ | ⟨_, _, _, h, _, _, h1, h2, _⟩
      · cases h
      · unfold maxLen at h2; omega
    · have hil := (List.getElem?_eq_some_iff.1 hp).1
      have a0 := ho'.cellAt (i * 2) (by omega)
      have a1 := ho'.cellAt (i * 2 + 1) (by omega)
      rw [flat_get0 out i p hp] at a0
      rw [flat_get1 out i p hp] at a1
      simp only [Addr.add_lit, Nat.zero_add]
      exact ⟨a0, a1⟩
  refine (indexFunc_calls (fun y => y.2 == y1) 41 #[.pointer (some ⟨wr.heap.size, 0, none⟩)] (enters_of Try.func41 (by kernel_rfl) rfl) (some ⟨g, 0, none⟩) cap out _ (fun x W hW => ?_) hr).mono fun e w' ⟨he, hb⟩ => ⟨he, hsz ▸ hb, pw_cell_below hb e0, pw_cell_below hb e1⟩
  exact same_calls x y1 wr.heap.size _ W hW (pw_cell_below hW e1) (by have := hW.size; omega)
theorem own_at2 {w wr w2 : World} {o : Obj} {g n cap : Nat} {xs : List Value} (h : wr.ownsRow w.heap.size 39 2 (.slice (some ⟨g, 0, none⟩) n cap) n xs) (hb : RowKit.Below (wr.heap.size + 1) (wr.alloc o) w2) : w2.ownsRow w.heap.size 39 2 (.slice (some ⟨g, 0, none⟩) n cap) n xs :=
  own_move (h.alloc o) (fun k hk => hb.block k (by have := (h.lt k hk).2; omega))
theorem own_cell0 {w2 : World} {base g n cap i : Nat} {q : Int × Int} {out : List (Int × Int)} (h : w2.ownsRow base 39 2 (.slice (some ⟨g, 0, none⟩) n cap) n (flat out)) (hq : out[i]? = some q) (hi : i < n) : w2.cell? ⟨g, i * 2, none⟩ = some (.int .i64 q.1) := by
  rw [h.cellAt (i * 2) (by omega), flat_get0 out i q hq]
theorem two_cells (w : World) (y0 y1 : Int) : ∀ (j : Nat) (u : Value), [Value.int .i64 y0, Value.int .i64 y1][j]? = some u → (w.alloc (.cells #[.int .i64 y0, .int .i64 y1] 39)).cell? ((⟨w.heap.size, 0, none⟩ : Addr).add j) = some u
  | 0, u, h => by
    obtain rfl := Option.some.inj h
    rw [Addr.add_lit, cell_of_row _ _ _ _ _ (0, 0) (heap_alloc_new w _)]
    rfl
  | 1, u, h => by
    obtain rfl := Option.some.inj h
    rw [Addr.add_lit, cell_of_row _ _ _ _ _ (0, 0) (heap_alloc_new w _)]
    rfl
  | j + 2, u, h => by simp at h
theorem two_one (y0 y1 : Int) : ∀ u ∈ [Value.int .i64 y0, Value.int .i64 y1], u.oneCell' = true := by
  intro u hu
  simp only [List.mem_cons, List.not_mem_nil, or_false] at hu
  rcases hu with rfl | rfl <;> rfl
theorem size2 {w wr w2 : World} {o o' : Obj} (h : RowKit.Below w.heap.size w wr) (hb : RowKit.Below (wr.heap.size + 1) (wr.alloc o) w2) : w.heap.size ≤ (w2.alloc o').heap.size := by
  have h1 := h.size
  have h2 := hb.size
  simp at h2 ⊢
  omega
/-- The state of the first loop. -/
def St1 (w : World) (zs : List (Int × Int)) (k : Nat) (g n cap : Nat) (wr : World) : Prop :=
  n = (mergeB (zs.take k)).length ∧ wr.ownsRow w.heap.size 39 2 (.slice (some ⟨g, 0, none⟩) n cap) n (flat (mergeB (zs.take k))) ∧ RowKit.Below w.heap.size w wr

theorem st1_start {w w1 : World} {zs : List (Int × Int)} (hb : RowKit.Below w.heap.size w w1) : St1 w zs 0 w1.heap.size 0 0 (w1.alloc (.cells #[] 39)) :=
  ⟨by simp [mergeB], by simpa [mergeB, flat] using World.ownsRow_lit (e := 39) (size := 2) w1 #[] 0 hb.size (by unfold maxLen; omega) rfl, hb.alloc hb.size _⟩
theorem below_two {w wr w2 : World} {o : Obj} (h : RowKit.Below w.heap.size w wr) (hb : RowKit.Below (wr.heap.size + 1) (wr.alloc o) w2) : RowKit.Below w.heap.size w w2 :=
  (h.alloc h.size o).trans (hb.mono (by have := h.size; omega))
theorem st1_new {w wr w2 w3 : World} {o o' : Obj} {zs : List (Int × Int)} {kk g n cap : Nat} {y0 y1 : Int} {v' : Value} (hs : St1 w zs kk g n cap wr) (hb : RowKit.Below (wr.heap.size + 1) (wr.alloc o) w2)
    (hy : mergeB (zs.take (kk + 1)) = addB (mergeB (zs.take kk)) (y0, y1)) (hn : ∀ p ∈ mergeB (zs.take kk), p.2 ≠ y1)
    (ho : w3.ownsRow w.heap.size 39 2 v' (n + 1) (flat (mergeB (zs.take kk)) ++ [.int .i64 y0, .int .i64 y1])) (hg : (w2.alloc o').grownBy w3 (Value.slice (some ⟨g, 0, none⟩) n cap).ownBlock) :
    ∃ g' cap', v' = .slice (some ⟨g', 0, none⟩) (n + 1) cap' ∧ St1 w zs (kk + 1) g' (n + 1) cap' w3 := by
  have hb2 := below_two hs.2.2 hb
  have hgb : w.heap.size ≤ g := (hs.2.1.lt g rfl).1
  have hb3 : RowKit.Below w.heap.size w w3 := (hb2.alloc hb2.size o').grown hg (by simp; have := hb2.size; omega) (fun k hk => by
    obtain rfl : g = k := Option.some.inj hk
    exact hgb)
  have e : flat (mergeB (zs.take kk)) ++ [.int .i64 y0, .int .i64 y1] = flat (mergeB (zs.take (kk + 1))) := by
    rw [hy, addB_new _ _ hn, flat_append]
    rfl
  rw [e] at ho
  rcases ho.2 with ⟨_, h0⟩ | ⟨g', cap', cur, rfl, _⟩
  · omega
  · exact ⟨g', cap', rfl, by rw [hy, addB_new _ _ hn, List.length_append, ← hs.1]; rfl, ho, hb3⟩
theorem st1_old {w wr w2 : World} {o : Obj} {zs : List (Int × Int)} {kk g n cap i : Nat} {y0 y1 : Int} {q : Int × Int} (hs : St1 w zs kk g n cap wr) (hb : RowKit.Below (wr.heap.size + 1) (wr.alloc o) w2)
    (hy : mergeB (zs.take (kk + 1)) = addB (mergeB (zs.take kk)) (y0, y1)) (hn : ∀ j p, j < i → (mergeB (zs.take kk))[j]? = some p → p.2 ≠ y1) (hq : (mergeB (zs.take kk))[i]? = some q) (hm : q.2 = y1) (hwr : wrap64 (q.1 + y0) = q.1 + y0) :
    St1 w zs (kk + 1) g n cap (w2.setCell ⟨g, i * 2, none⟩ (.int .i64 (wrap64 (q.1 + y0)))).drew := by
  rw [hwr]
  have hb2 := below_two hs.2.2 hb
  have hgb : w.heap.size ≤ g := (hs.2.1.lt g rfl).1
  obtain ⟨p, hp, hs2⟩ := addB_at (y0, y1) _ i ⟨q, hq, hm⟩ hn
  obtain rfl : q = p := Option.some.inj (hq.symm.trans hp)
  dsimp only at hs2
  have ho := own_at2 hs.2.1 hb
  have ho2 := (ho.stored (i * 2) (.int .i64 (q.1 + y0))).1
  rw [flat_set _ i q _ hq] at ho2
  refine ⟨by rw [hy, hs2, List.length_set]; exact hs.1, by rw [hy, hs2]; exact ho2.drew, ?_⟩
  exact (hb2.setCell (p := ⟨g, i * 2, none⟩) hgb _).drew
/-- The first k of the row are held to 500. -/
def capTo (k : Nat) (l : List (Int × Int)) : List (Int × Int) := (l.take k).map capB ++ l.drop k
theorem capTo_length (k : Nat) (l : List (Int × Int)) : (capTo k l).length = l.length := by simp [capTo]; omega
theorem capTo_get {k : Nat} {l : List (Int × Int)} {p : Int × Int} (h : l[k]? = some p) : (capTo k l)[k]? = some p := by
  have hk := (List.getElem?_eq_some_iff.1 h).1
  unfold capTo
  rw [List.getElem?_append_right (by simp; omega), List.getElem?_drop]
  rw [show k + (k - ((List.take k l).map capB).length) = k by simp; omega]
  exact h
theorem capTo_succ {k : Nat} {l : List (Int × Int)} {p : Int × Int} (h : l[k]? = some p) : (capTo k l).set k (capB p) = capTo (k + 1) l := by
  obtain ⟨hk, rfl⟩ := List.getElem?_eq_some_iff.1 h
  unfold capTo
  have e : ((l.take k).map capB).length = k := by simp; omega
  rw [List.set_append, if_neg (by omega), e, Nat.sub_self, List.drop_eq_getElem_cons hk, List.set_cons_zero, List.take_succ_eq_append_getElem hk, List.map_append]
  simp
/-- The state of the second loop. -/
def St2 (w : World) (zs : List (Int × Int)) (k : Nat) (g n cap : Nat) (wr : World) : Prop :=
  n = (mergeB zs).length ∧ wr.ownsRow w.heap.size 39 2 (.slice (some ⟨g, 0, none⟩) n cap) n (flat (capTo k (mergeB zs))) ∧ RowKit.Below w.heap.size w wr
theorem st2_start {w wr : World} {zs : List (Int × Int)} {g n cap : Nat} (h : St1 w zs zs.length g n cap wr) : St2 w zs 0 g n cap wr := by
  unfold St1 at h
  rw [List.take_length] at h
  exact h
theorem st2_cell {w wr : World} {zs : List (Int × Int)} {k g n cap : Nat} (h : St2 w zs k g n cap wr) (hk : k < n) :
    ∃ p : Int × Int, wr.cell? ⟨g, k * 2, none⟩ = some (.int .i64 p.1) ∧ wr.frozen? ⟨g, k * 2, none⟩ = false ∧ Aside ((mergeB zs)[k]? = some p) := by
  have hp : (mergeB zs)[k]? = some (mergeB zs)[k]! := by
    rw [getElem!_pos _ k (by have := h.1; omega)]
    exact List.getElem?_eq_getElem _
  exact ⟨_, own_cell0 h.2.1 (capTo_get hp) hk, h.2.1.frozenAt _, hp⟩
theorem st2_store {w wr : World} {zs : List (Int × Int)} {k g n cap : Nat} {p : Int × Int} (h : St2 w zs k g n cap wr) (hp : (mergeB zs)[k]? = some p) : St2 w zs (k + 1) g n cap (wr.setCell ⟨g, k * 2, none⟩ (.int .i64 (capB p).1)) := by
  have hgb : w.heap.size ≤ g := (h.2.1.lt g rfl).1
  have ho := (h.2.1.stored (k * 2) (.int .i64 (capB p).1)).1
  rw [flat_set _ k p _ (capTo_get hp)] at ho
  have e : (capTo k (mergeB zs)).set k ((capB p).1, p.2) = capTo (k + 1) (mergeB zs) := capTo_succ hp
  rw [e] at ho
  exact ⟨h.1, ho, h.2.2.setCell (p := ⟨g, k * 2, none⟩) hgb _⟩
/-- A batch whose minutes are small. -/
structure SB where
  v : Int × Int
  ok : 0 ≤ v.2 ∧ v.2 ≤ 1000
instance : Inhabited SB := ⟨⟨(0, 0), by decide⟩⟩
def encS (x : SB) : List Value := encB x.v
def cmpS (x y : SB) : Int := cmpB x.v y.v
theorem ltS (x y : SB) : ltOf cmpS x y = decide (x.v.2 < y.v.2) := by
  obtain ⟨x, hx⟩ := x
  obtain ⟨y, hy⟩ := y
  have e : cmpB x y = x.2 - y.2 := by unfold cmpB wrap64; omega
  show decide (cmpB x y < 0) = decide (x.2 < y.2)
  rw [e]
  exact decide_eq_decide.2 (by omega)
theorem swoS : SWO (ltOf cmpS) where
  irrefl x := by rw [ltS]; simp
  trans x y z h1 h2 := by simp only [ltS, decide_eq_true_eq] at h1 h2 ⊢; omega
  ntrans x y z h1 h2 := by simp only [ltS, decide_eq_false_iff_not] at h1 h2 ⊢; omega
theorem sort_callsS (blk off cap : Nat) (d : Array SB) (w : World) (hH : HoldsK encS 2 w blk off d) (hblk : blk < w.heap.size) (h12 : d.size ≤ 12) :
    Calls Try.prog 42 #[.slice (some ⟨blk, off, none⟩) d.size cap, .func (.func 43) #[] #[]] w fun e w' => e = .returned (.tuple #[]) ∧ ∃ n os, w' = sortWorldK encS 2 w blk off n (Sort.insertionSort (ltOf cmpS) d 0 d.size) os :=
  AnyQ.slices_SortFunc_small Try.sortBatch 2 Try.isAgg39 Try.sizeOf39 encS (fun _ => rfl) (fun x v hv => by simp [encS, encB] at hv; rcases hv with rfl | rfl <;> rfl) cmpS 43 #[] blk off cap d w (enters_of Try.func43 (by kernel_rfl) rfl)
    (fun _ _ _ _ x y => cmpB_calls x.v y.v _) hH hblk h12 bitsLen_calls
theorem flatK_eq (d : Array SB) : (flatK encS 2 d).toList = flat (d.toList.map (·.v)) := by
  apply List.ext_getElem?
  intro t
  have hl : (flatK encS 2 d).toList.length = d.size * 2 := by rw [Array.length_toList, size_flatK]
  by_cases ht : t < d.size * 2
  · have h1 : (flatK encS 2 d).toList[t]? = some (flatK encS 2 d)[t]! := by
      rw [Array.getElem?_toList, getElem!_pos _ t (by rw [size_flatK]; exact ht)]
      exact Array.getElem?_eq_getElem _
    rw [h1, get_flatK _ _ _ t ht]
    have hi : t / 2 < d.size := by omega
    have hp : (d.toList.map (·.v))[t / 2]? = some d[t / 2]!.v := by
      rw [List.getElem?_map, Array.getElem?_toList, getElem!_pos d _ hi, Array.getElem?_eq_getElem hi]
      rfl
    rcases (show t = t / 2 * 2 ∨ t = t / 2 * 2 + 1 by omega) with e | e
    · have := flat_get0 _ _ _ hp
      rw [← e] at this
      rw [this, show t % 2 = 0 by omega]
      rfl
    · have := flat_get1 _ _ _ hp
      rw [← e] at this
      rw [this, show t % 2 = 1 by omega]
      rfl
  · rw [List.getElem?_eq_none (by omega), List.getElem?_eq_none (by rw [flat_length]; simp; omega)]
theorem putCells_take (F cur : Array Value) (h : F.size ≤ cur.size) : (putCells id 0 F cur).toList.take F.size = F.toList := by
  apply List.ext_getElem?
  intro j
  by_cases hj : j < F.size
  · rw [List.getElem?_take_of_lt hj, Array.getElem?_toList, Array.getElem?_toList]
    simp [putCells, hj, show j < cur.size by omega]
  · rw [List.getElem?_take_eq_none (by omega), List.getElem?_eq_none (by simp; omega)]
/-- What JoinSame hands back. -/
def Joined (w : World) (zs : List (Int × Int)) (w' : World) (g n cap : Nat) : Prop :=
  n = (pJoinFrom zs 200 1).length ∧ w'.ownsRow w.heap.size 39 2 (.slice (some ⟨g, 0, none⟩) n cap) n (flat (pJoinFrom zs 200 1)) ∧ RowKit.Below w.heap.size w w'
theorem capTo_all (l : List (Int × Int)) : capTo l.length l = l.map capB := by simp [capTo]
theorem sort_made (zs : List (Int × Int)) (n g cap : Nat) (w wr : World) (h : St2 w zs n g n cap wr) (hm : Small zs.length (mergeB zs)) (h10 : zs.length ≤ 10) (hok : zs.all okB = true) :
    Calls Try.prog 42 #[.slice (some ⟨g, 0, none⟩) n cap, .func (.func 43) #[] #[]] wr fun e w' => e = .returned (.tuple #[]) ∧ Joined w zs w' g n cap := by
  obtain ⟨rfl, ho, hb⟩ := h
  rw [capTo_all] at ho
  have hz : ∀ p ∈ zs, (1 ≤ p.1 ∧ p.1 ≤ 500) ∧ (1 ≤ p.2 ∧ p.2 ≤ 200) := fun p hp => by
    have := (List.all_eq_true.1 hok) p hp
    simpa only [okB, decide_eq_true_eq] using this
  have hr : ∀ p ∈ (mergeB zs).map capB, 0 ≤ p.2 ∧ p.2 ≤ 1000 := fun p hp => by
    obtain ⟨q, hq, rfl⟩ := List.mem_map.1 hp
    have := (hm.2 q hq).2
    simp only [capB]
    omega
  generalize hd : (((mergeB zs).map capB).pmap (fun p h => SB.mk p h) hr).toArray = d
  have hdl : d.toList.map (·.v) = (mergeB zs).map capB := by subst hd; simp [List.map_pmap]
  have hds : d.size = (mergeB zs).length := by subst hd; simp
  have hg := ho.lt g rfl
  rcases ho.2 with ⟨hh, _⟩ | ⟨g', cap', cur, hv, hbg, hcur, hnc, hcm, hcs, htake⟩
  · cases hh
  cases hv
  have hH : HoldsK encS 2 wr g 0 d := by
    intro j hj
    rw [size_flatK] at hj
    refine ⟨?_, ho.frozenAt _⟩
    rw [Nat.zero_add, ho.cellAt j (by omega), ← hdl, ← flatK_eq, Array.getElem?_toList, getElem!_pos _ j (by rw [size_flatK]; exact hj)]
    exact Array.getElem?_eq_getElem _
  have hc := sort_callsS g 0 cap d wr hH hg.2 (by have := hm.1; omega)
  rw [hds] at hc
  refine hc.mono ?_
  rintro e w' ⟨rfl, m, os, rfl⟩
  obtain ⟨hP, hS⟩ := insertionSort_holds (lt := ltOf cmpS) swoS d 0 d.size (Nat.zero_le _) (Nat.le_refl _)
  rw [hds] at hP hS
  generalize hd' : insertionSort (ltOf cmpS) d 0 (mergeB zs).length = d' at hP hS ⊢
  have hsz : d'.size = (mergeB zs).length := hP.1.trans hds
  have hperm : (d'.toList.map (·.v)).Perm ((mergeB zs).map capB) := by
    have h3 := hP.2.2
    rw [← hds, Array.extract_size, ← hP.1, Array.extract_size] at h3
    rw [← hdl]
    exact h3.map _
  have hsorted : (d'.toList.map (·.v)).Pairwise (fun a b => a.2 ≤ b.2) := by
    rw [List.pairwise_map, List.pairwise_iff_getElem]
    intro i j hi hj hij
    have := hS i j (Nat.zero_le _) hij (by simpa [hsz] using hj)
    rw [ltS, decide_eq_false_iff_not] at this
    rw [getElem!_pos d' i (by simpa using hi), getElem!_pos d' j (by simpa using hj)] at this
    simp only [Array.getElem_toList]
    omega
  have hfin := joined_eq zs _ hz hperm hsorted
  have hlen : (pJoinFrom zs 200 1).length = (mergeB zs).length := by rw [← hfin, List.length_map, Array.length_toList, hsz]
  have hheap : (sortWorldK encS 2 wr g 0 m d' os).heap[g]? = some (.cells (putCells id 0 (flatK encS 2 d') cur) 39 (0, 0)) := by
    unfold sortWorldK putRowK
    rw [heap_grow_old _ _ (by simpa using hg.2)]
    simp [putRow, mapBlock, Sort.ahead, Array.getElem?_modify, hcur, onCells]
  have hgrown : wr.grownBy (sortWorldK encS 2 wr g 0 m d' os) (some g) := by
    refine ⟨rfl, rfl, rfl, by simp [sortWorldK, putRowK], fun k hk hne => ?_⟩
    unfold sortWorldK putRowK
    rw [heap_grow_old _ _ (by simpa using hk)]
    have : g ≠ k := fun e => hne (by rw [e])
    simp [putRow, mapBlock, Sort.ahead, Array.getElem?_modify, this]
  refine ⟨rfl, hlen.symm, ⟨by rw [flat_length, hlen], .inr ⟨g, cap, _, rfl, hbg, hheap, hnc, hcm, by simp [putCells, hcs], ?_⟩⟩, hb.grown hgrown hb.size (fun k hk => by obtain rfl := Option.some.inj hk; exact hbg)⟩
  have hF : (flatK encS 2 d').size = (mergeB zs).length * 2 := by rw [size_flatK, hsz]
  rw [← hF, putCells_take _ _ (by rw [hF, hcs]; exact Nat.mul_le_mul_right _ hnc), flatK_eq, hfin]
/-- Its ending. -/
def JoinedEnd (w : World) (zs : List (Int × Int)) (e : Ending) (w' : World) : Prop := ∃ g n cap : Nat, e = .returned (.slice (some ⟨g, 0, none⟩) n cap) ∧ Joined w zs w' g n cap

set_option maxHeartbeats 2000000 in
theorem join_yes (A : Option Addr) (c : Nat) (zs : List (Int × Int)) (w : World) (hr : Pairs w A zs) (h : (decide (zs.length ≤ 10) && zs.all okB) = true) :
    Calls Try.prog 24 #[.slice A zs.length c] w (JoinedEnd w zs) := by
  have hb := batchesOk_calls A c zs w hr
  rw [h] at hb
  have HR : Aside (Pairs w A zs) := hr
  have HOK : Aside (zs.all okB = true) := by simp only [Bool.and_eq_true] at h; exact h.2
  have h10 : zs.length ≤ 10 := by simp only [Bool.and_eq_true, decide_eq_true_eq] at h; exact h.1
  clear h hr
  obtain ⟨i39, hi39, hz39, hs39, hb39⟩ := info_parts info39
  have hmf : ∀ (fn : Fn) (first cap : Array Value) (w : World), (Instr.makeFunc fn first cap).run Try.prog w = .ok (.func fn first cap) w := fun _ _ _ _ => rfl
  go_enter Try.func24, Try.ntmps24
  go_wp2_with (first | (go_at_call 12; refine hb.mono ?_; rintro e w1 ⟨rfl, hb1⟩))
  go_loopg [3, 14] zs.length (fun gg v s14 wr => ∃ kk g n cap : Nat, kk ≤ zs.length ∧ zs.length - kk ≤ gg ∧ s14 = .int .i64 kk ∧ v = .slice (some ⟨g, 0, none⟩) n cap ∧ Aside (St1 w zs kk g n cap wr))
  case atStart =>
    exact ⟨0, w1.heap.size, 0, 0, Nat.zero_le _, by omega, rfl, rfl, st1_start hb1⟩
  case round =>
    obtain ⟨kk, g, n, cap, hkk, hg, rfl, rfl, HS⟩ := hrel
    by_cases hlt : kk < zs.length
    · have hltz : (kk : Int) < (zs.length : Int) := by omega
      obtain ⟨ad, rfl, hcells⟩ := HR.out.2 (by omega)
      have hy0 := hcells kk zs[kk] (List.getElem?_eq_getElem hlt)
      have c0 := pw_cell_below HS.out.2.2 hy0.1
      have c1 := pw_cell_below HS.out.2.2 hy0.2
      clear hcells hy0
      have hy : Aside (mergeB (zs.take (kk + 1)) = addB (mergeB (zs.take kk)) zs[kk]) := by
        show _ = _
        unfold mergeB
        rw [List.take_succ_eq_append_getElem hlt, List.foldl_append]
        rfl
      have HB := row_bounds zs HOK.out h10 kk hlt
      generalize zs[kk] = y at c0 c1 hy HB
      obtain ⟨y0, y1⟩ := y
      have hidx := idx_calls y0 y1 g n cap (mergeB (zs.take kk)) w wr HS.out.1 HS.out.2.1
      dsimp only at c0 c1 hidx
      rcases idx_cases y1 (mergeB (zs.take kk)) with ⟨hi, hno⟩ | ⟨i, hil, hi, hp, hno⟩
      · rw [hi] at hidx
        have HN : Aside (∀ p ∈ mergeB (zs.take kk), p.2 ≠ y1) := hno
        clear hi hno
        go_wp2_with (first | (go_at_call 40; refine hidx.mono ?_; rintro e w2 ⟨rfl, hb2, d0, d1⟩; have HO : Aside (w2.ownsRow w.heap.size 39 2 (.slice (some ⟨g, 0, none⟩) n cap) n (flat (mergeB (zs.take kk)))) := own_at2 HS.out.2.1 hb2) | (at_builtin; refine wpList_append_own _ rfl (.tmp 23) (.tmp 25) 25 rfl w.heap.size 39 i39 (.agg #[.int .i64 0, .int .i64 0]) 2 16 Try.underlying25 hi39 hz39 hs39 hb39 rfl (by decide) _ _ _ rfl (HO.out.alloc _) ⟨w2.heap.size, 0, none⟩ 1 1 [.int .i64 y0, .int .i64 y1] rfl rfl (two_cells w2 y0 y1) (two_one y0 y1) (by have := HB.small.1; have := HS.out.1; unfold maxLen; omega) (by have := HB.small.1; have := HS.out.1; omega) (size2 HS.out.2.2 hb2) ?_))
        intro v' w3 hown' hgrow hnil
        obtain ⟨g', cap', rfl, HS'⟩ := st1_new HS.out hb2 hy.out HN.out hown' hgrow
        have HS2 : Aside (St1 w zs (kk + 1) g' (n + 1) cap' w3) := HS'
        clear hown' hgrow hnil HS' hb2 d0 d1
        go_wp2
        go_roundg (zs.length - (kk + 1))
        case measure => omega
        case rel => exact ⟨kk + 1, g', n + 1, cap', by omega, by omega, by go_num, rfl, HS2⟩
      · rw [hi] at hidx
        have HN : Aside (∀ j p, j < i → (mergeB (zs.take kk))[j]? = some p → p.2 ≠ y1) := hno
        obtain ⟨q, hq, hqm⟩ := hp
        have HQ : Aside ((mergeB (zs.take kk))[i]? = some q) := hq
        have hiln : i < n := by have := HS.out.1; omega
        have hil0 : (0 : Int) ≤ (i : Int) := by omega
        have hili : (i : Int) < (n : Int) := by omega
        have hq0 := (HB.small.2 q (List.mem_of_getElem? hq)).1
        clear hi hno hq hil
        go_wp2_with (first | (go_at_call 40; refine hidx.mono ?_; rintro e w2 ⟨rfl, hb2, d0, d1⟩; have HO : Aside (w2.ownsRow w.heap.size 39 2 (.slice (some ⟨g, 0, none⟩) n cap) n (flat (mergeB (zs.take kk)))) := own_at2 HS.out.2.1 hb2; have x0 : w2.cell? ⟨g, i * 2, none⟩ = some (.int .i64 q.1) := own_cell0 HO.out HQ.out hiln; have x1 : w2.frozen? ⟨g, i * 2, none⟩ = false := HO.out.frozenAt _))
        go_region
        go_wp2
        go_roundg (zs.length - (kk + 1))
        case measure => omega
        case rel => exact ⟨kk + 1, g, n, cap, by omega, by omega, by go_num, rfl, st1_old HS.out hb2 hy.out HN.out HQ.out hqm (by have := HB.y0; dsimp only at this; unfold wrap64; omega)⟩
    · have hltz : ¬ (kk : Int) < (zs.length : Int) := by omega
      obtain rfl : kk = zs.length := by omega
      have HT : Aside (St2 w zs 0 g n cap wr) := st2_start HS.out
      have HM : Aside (Small zs.length (mergeB zs)) := by
        have := small_merge zs HOK.out zs.length (Nat.le_refl _)
        rw [List.take_length] at this
        exact this
      have hn63 : (n : Int) ≤ 9223372036854775807 := by have := HM.out.1; have := HT.out.1; omega
      clear HS hb
      go_wp2
      go_loopg [40] n (fun gg s40 wr => ∃ k2 : Nat, k2 ≤ n ∧ n - k2 ≤ gg ∧ s40 = .int .i64 k2 ∧ Aside (St2 w zs k2 g n cap wr))
      case atStart => exact ⟨0, Nat.zero_le _, by omega, rfl, HT⟩
      case round =>
        clear HT
        obtain ⟨k2, hk2, hg2, rfl, HT⟩ := hrel
        by_cases hlt2 : k2 < n
        · have hltz2 : (k2 : Int) < (n : Int) := by omega
          have hn0 : (0 : Int) ≤ (k2 : Int) := by omega
          obtain ⟨p, x0, x1, hp⟩ := st2_cell HT.out hlt2
          go_wp2
          go_roundg (n - (k2 + 1))
          case measure => omega
          case rel => exact ⟨k2 + 1, by omega, by omega, by go_num, st2_store HT.out hp.out⟩
        · have hltz2 : ¬ (k2 : Int) < (n : Int) := by omega
          obtain rfl : k2 = n := by omega
          have hs := sort_made zs k2 g cap w wr HT.out HM.out h10 HOK.out
          go_wp2_with (first | (go_at_call 42; refine hs.mono ?_; rintro e w4 ⟨rfl, hj⟩))
          go_ret
          exact ⟨_, _, _, rfl, hj⟩
end Go.Proofs.Ytjkpdpggnapmlaa.Hand

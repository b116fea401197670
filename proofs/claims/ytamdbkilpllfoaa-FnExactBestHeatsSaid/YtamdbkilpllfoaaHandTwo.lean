/- What is proved: slices.Contains over whole numbers answers whether the number stands in the list; no condition beyond the slice's reading. -/
import Derived.Test.YtamdbkilpllfoaaHand
import Derived.OwnWalk
import Derived.OneCell
import Derived.Deep.LoopGhost
set_option linter.unusedVariables false
set_option linter.unusedSimpArgs false
namespace Go.Proofs.Ytamdbkilpllfoaa.Hand
open Go.RowKit Go.Lib Go.Proofs.YtamdbkilpllfoaaW.PrintWords

theorem cells_of_C {w : World} {A : Option Addr} {zs : List Int} (hr : Kd.C (Kd.int .i64) w A zs.length zs) (h : 0 < zs.length) :
    ∃ ad, A = some ad ∧ ∀ j (hj : j < zs.length), w.cell? (ad.add j) = some (.int .i64 zs[j]) := by
  obtain ⟨ad, rfl, hat⟩ := hr.2.2 h
  refine ⟨ad, rfl, fun j hj => ?_⟩
  obtain ⟨cs, hcs, hK, hu⟩ := hat j zs[j] (List.getElem?_eq_getElem hj)
  have hK' : cs = [.int .i64 zs[j]] := hK
  subst hK'
  have := hu 0 _ rfl
  rw [show j * (Kd.int .i64).sz + 0 = j from by show j * 1 + 0 = j; omega] at this
  exact this
def IdxEnd (zs : List Int) (x : Int) (w : World) (e : Ending) (w' : World) : Prop := ∃ r : Int, e = .returned (.int .i64 r) ∧ (0 ≤ r ↔ x ∈ zs) ∧ w' = w
set_option maxHeartbeats 1000000 in
theorem index_calls (A : Option Addr) (c : Nat) (zs : List Int) (x : Int) (w : World) (hr : Kd.C (Kd.int .i64) w A zs.length zs) :
    Calls Try.prog 84 #[.slice A zs.length c, .int .i64 x] w (IdxEnd zs x w) := by
  have HR : Aside (Kd.C (Kd.int .i64) w A zs.length zs) := hr
  have hbig : zs.length ≤ 9223372036854775807 := hr.2.1
  clear hr
  go_enter Try.func84, Try.ntmps84
  go_wp2
  go_loopg [5, 8] zs.length (fun gg _ s8 wr => ∃ kk : Nat, kk ≤ zs.length ∧ zs.length - kk ≤ gg ∧ s8 = .int .i64 kk ∧ wr = w ∧ Aside (∀ j (hj : j < zs.length), j < kk → zs[j] ≠ x))
  case atStart => exact ⟨0, Nat.zero_le _, by omega, rfl, rfl, fun j _ hj => absurd hj (Nat.not_lt_zero _)⟩
  case round =>
    obtain ⟨kk, hkk, hg, rfl, rfl, AN⟩ := hrel
    by_cases hlt : kk < zs.length
    · have hltz : (kk : Int) < (zs.length : Int) := by omega
      obtain ⟨ad, rfl, hcells⟩ := cells_of_C HR.out (by omega)
      have hc := hcells kk hlt
      clear hcells
      generalize hy : zs[kk] = y at hc
      have HY : Aside (zs[kk] = y) := hy
      clear hy
      by_cases he : x = y
      · subst he
        go_wp2
        go_ret
        exact ⟨kk, rfl, ⟨fun _ => by have := HY.out; rw [← this]; exact List.getElem_mem _, fun _ => by omega⟩, rfl⟩
      · have hb : decide (x = y) = false := decide_eq_false he
        go_wp2
        go_roundg (zs.length - (kk + 1))
        case measure => omega
        case rel =>
          refine ⟨kk + 1, by omega, by omega, by go_num, rfl, (show Aside _ from fun j hj hjk => ?_)⟩
          by_cases e : j = kk
          · subst e
            rw [HY.out]
            exact fun h => he h.symm
          · exact AN.out j hj (by omega)
    · have hltz : ¬ (kk : Int) < (zs.length : Int) := by omega
      obtain rfl : kk = zs.length := by omega
      go_wp2
      go_ret
      refine ⟨-1, rfl, ⟨fun h => by omega, fun h => ?_⟩, rfl⟩
      obtain ⟨j, hj, rfl⟩ := List.mem_iff_getElem.1 h
      exact absurd rfl (AN.out j hj hj)
theorem contains_calls (A : Option Addr) (c : Nat) (zs : List Int) (x : Int) (w : World) (hr : Kd.C (Kd.int .i64) w A zs.length zs) :
    Calls Try.prog 79 #[.slice A zs.length c, .int .i64 x] w fun e w' => e = .returned (.bool (decide (x ∈ zs))) ∧ w = w' := by
  have hi := index_calls A c zs x w hr
  clear hr
  by_cases h : x ∈ zs
  · rw [decide_eq_true h]
    have hi2 : Calls Try.prog 84 #[.slice A zs.length c, .int .i64 x] w fun e w' => ∃ r : Int, e = .returned (.int .i64 r) ∧ 0 ≤ r ∧ w = w' := hi.mono fun e w' ⟨r, he, hr, hw⟩ => ⟨r, he, hr.2 h, hw.symm⟩
    clear hi h
    go_enter Try.func79, Try.ntmps79
    go_wp2_with (go_at_call 84; refine hi2.mono ?_; rintro e w' ⟨r, rfl, hr, rfl⟩)
    go_ret
    exact ⟨rfl, rfl⟩
  · rw [decide_eq_false h]
    have hi2 : Calls Try.prog 84 #[.slice A zs.length c, .int .i64 x] w fun e w' => ∃ r : Int, e = .returned (.int .i64 r) ∧ decide (0 ≤ r) = false ∧ w = w' := hi.mono fun e w' ⟨r, he, hr, hw⟩ => ⟨r, he, decide_eq_false fun h0 => h (hr.1 h0), hw.symm⟩
    clear hi h
    go_enter Try.func79, Try.ntmps79
    go_wp2_with (go_at_call 84; refine hi2.mono ?_; rintro e w' ⟨r, rfl, hr, rfl⟩)
    go_ret
    exact ⟨rfl, rfl⟩

/-! The search for the best order: what it computes. -/
abbrev BS := Option (List Int) × Int
def stepO (cost : List Int → Option Int) (s : BS) (o : List Int) : Option BS :=
  (cost o).map fun c => match s.1 with
    | none => (some o, c)
    | some b => if c < s.2 then (some o, c) else (some b, s.2)
def kidsF (g : Int → BS → Option BS) (l : List Int) : Nat → Nat → BS → Option BS
  | 0, _, s => some s
  | r + 1, i, s => (if (i : Int) ∈ l then some s else g i s).bind (kidsF g l r (i + 1))
def ordO (cost : List Int → Option Int) (n : Nat) : Nat → List Int → BS → Option BS
  | 0, l, s => stepO cost s l
  | d + 1, l, s => kidsF (fun i s => ordO cost n d (l ++ [i]) s) l n 0 s

/-- Where the call's own variables lie. -/
structure Env where
  w : World
  A : Option Addr
  c : Nat
  hs : List Int
  s : Int
  b0 : Nat
  b1 : Nat
  b2 : Nat
  b3 : Nat
  b4 : Nat
  b5 : Nat
  b6 : Nat
  b7 : Nat
  b8 : Nat
/-- In which order they were made. -/
structure EnvOk (E : Env) : Prop where
  hb : E.w.heap.size ≤ E.b0
  h0 : E.b0 < E.b1
  h1 : E.b1 < E.b2
  h2 : E.b2 < E.b3
  h3 : E.b3 < E.b4
  h4 : E.b4 < E.b5
  h5 : E.b5 < E.b6
  h6 : E.b6 < E.b7
  h7 : E.b7 < E.b8
  len : E.hs.length ≤ 8
  reads : Kd.C (Kd.int .i64) E.w E.A E.hs.length E.hs
  cap : E.hs.length ≤ E.c
def ptr (b : Nat) : Value := .pointer (some ⟨b, 0, none⟩)
/-- The variable that holds the best order so far. -/
def BestIs (E : Env) (o : Option (List Int)) (W : World) : Prop :=
  match o with
  | none => W.heap[E.b3]? = some (.cells #[.slice none 0 0] 22 (0, 0))
  | some o => ∃ g cap, W.heap[E.b3]? = some (.cells #[.slice (some ⟨g, 0, none⟩) o.length cap] 22 (0, 0)) ∧ W.ownsRow (E.b8 + 1) 3 1 (.slice (some ⟨g, 0, none⟩) o.length cap) o.length (o.map (Value.int .i64))
/-- What holds of the world while orders are tried: st is the best so far, l what stands in the row. -/
structure Inv (E : Env) (st : BS) (l : List Int) (W : World) : Prop where
  below : Below E.w.heap.size E.w W
  c0 : W.heap[E.b0]? = some (.cells #[.slice E.A E.hs.length E.c] 22 (0, 0))
  c1 : W.heap[E.b1]? = some (.cells #[.int .i64 E.s] 3 (0, 0))
  c2 : W.heap[E.b2]? = some (.cells #[.func (.func 73) #[] #[ptr E.b0, ptr E.b1]] 23 (0, 0))
  c5 : W.heap[E.b5]? = some (.cells #[.int .i64 (E.hs.length : Int)] 3 (0, 0))
  c6 : W.heap[E.b6]? = some (.cells #[.func (.func 81) #[] #[ptr E.b2, ptr E.b3, ptr E.b4]] 80 (0, 0))
  c7 : W.heap[E.b7]? = some (.cells #[.func (.func 85) #[] #[ptr E.b5, ptr E.b6, ptr E.b7]] 80 (0, 0))
  c4 : W.heap[E.b4]? = some (.cells #[.int .i64 st.2] 3 (0, 0))
  best : BestIs E st.1 W
  row : W.ownsRow E.b8 3 1 (.slice (some ⟨E.b8, 0, none⟩) l.length E.hs.length) l.length (l.map (Value.int .i64))
theorem BestIs.move {E : Env} {o : Option (List Int)} {W W' : World} (h : BestIs E o W) (hm : ∀ k, k = E.b3 ∨ E.b8 < k → k < W.heap.size → W'.heap[k]? = W.heap[k]?) : BestIs E o W' := by
  unfold BestIs at h ⊢
  cases o with
  | none => rw [hm E.b3 (Or.inl rfl) (lt_of_block h)]; exact h
  | some o =>
    obtain ⟨g, cap, hb, ho⟩ := h
    refine ⟨g, cap, by rw [hm E.b3 (Or.inl rfl) (lt_of_block hb)]; exact hb, own_move ho fun k hk => ?_⟩
    have := ho.lt k hk
    exact hm k (Or.inr (by omega)) this.2
/-- Whatever is made anew leaves all as it was. -/
theorem Inv.grow {E : Env} {st : BS} {l : List Int} {W W' : World} (h : Inv E st l W) (hok : EnvOk E) (hb : Below W.heap.size W W') : Inv E st l W' where
  below := h.below.trans (hb.mono h.below.size)
  c0 := blk_below h.c0 hb
  c1 := blk_below h.c1 hb
  c2 := blk_below h.c2 hb
  c5 := blk_below h.c5 hb
  c6 := blk_below h.c6 hb
  c7 := blk_below h.c7 hb
  c4 := blk_below h.c4 hb
  best := h.best.move fun k _ hk => hb.block k hk
  row := own_move h.row fun k hk => hb.block k (h.row.lt k hk).2
/-- The row has been written. -/
theorem Inv.rowed {E : Env} {st : BS} {l l' : List Int} {W W' : World} (h : Inv E st l W) (hok : EnvOk E) (hg : W.grownBy W' (some E.b8)) (hr : W'.ownsRow E.b8 3 1 (.slice (some ⟨E.b8, 0, none⟩) l'.length E.hs.length) l'.length (l'.map (Value.int .i64))) : Inv E st l' W' := by
  obtain ⟨hb, h0, h1, h2, h3, h4, h5, h6, h7, _, _, _⟩ := hok
  have mv : ∀ {k : Nat} {o : Obj}, W.heap[k]? = some o → k ≠ E.b8 → W'.heap[k]? = some o := fun hk hne => (hg.block _ (lt_of_block hk) (fun e => hne (Option.some.inj e))).trans hk
  exact ⟨h.below.grown hg h.below.size (fun k hk => by obtain rfl := Option.some.inj hk; omega), mv h.c0 (by omega), mv h.c1 (by omega), mv h.c2 (by omega), mv h.c5 (by omega), mv h.c6 (by omega), mv h.c7 (by omega), mv h.c4 (by omega),
    h.best.move fun k hk hlt => hg.block k hlt (fun e => by obtain rfl := Option.some.inj e; omega), hr⟩
theorem own_prefix {w : World} {base g cap : Nat} {xs ys : List Value} (h : w.ownsRow base 3 1 (.slice (some ⟨g, 0, none⟩) (xs ++ ys).length cap) (xs ++ ys).length (xs ++ ys)) : w.ownsRow base 3 1 (.slice (some ⟨g, 0, none⟩) xs.length cap) xs.length xs := by
  refine ⟨by simp, .inr ?_⟩
  rcases h.2 with ⟨h0, _⟩ | ⟨g', cap', cur, hv, hb, hc, hn, hm, hs, ht⟩
  · cases h0
  · cases hv
    rw [List.length_append] at hn
    refine ⟨g, cap, cur, rfl, hb, hc, by omega, hm, hs, ?_⟩
    have : cur.toList.take (xs.length * 1) = (cur.toList.take ((xs ++ ys).length * 1)).take (xs.length * 1) := by rw [List.take_take]; congr 1; simp
    rw [this, ht, Nat.mul_one, List.take_left]
/-- A longer row holds the shorter, too. -/
theorem Inv.shorter {E : Env} {st : BS} {l m : List Int} {W : World} (h : Inv E st (l ++ m) W) : Inv E st l W :=
  ⟨h.below, h.c0, h.c1, h.c2, h.c5, h.c6, h.c7, h.c4, h.best, by
    have := h.row
    rw [List.map_append] at this
    have e : (l ++ m).length = (l.map (Value.int .i64) ++ m.map (Value.int .i64)).length := by simp
    rw [e] at this
    have r := own_prefix this
    rw [List.length_map] at r
    exact r⟩
end Go.Proofs.Ytamdbkilpllfoaa.Hand

/- What is proved: impl.orders' closure, which calls itself, tries every order that begins with what stands in the row, first to last; OrderCost's own contract is a hypothesis here. -/
import Derived.Test.YtamdbkilpllfoaaHandThree
import Derived.Deep.RegionLaw
set_option linter.unusedVariables false
set_option linter.unusedSimpArgs false
namespace Go.Proofs.Ytamdbkilpllfoaa.Hand
open Go.RowKit Go.Lib Go.Proofs.YtamdbkilpllfoaaW.PrintWords

theorem one_news (w : World) (i : Int) : ∀ (j : Nat) (u : Value), [Value.int .i64 i][j]? = some u → (w.alloc (.cells #[.int .i64 i] 3)).cell? ((⟨w.heap.size, 0, none⟩ : Addr).add j) = some u
  | 0, u, h => by
    obtain rfl := Option.some.inj h
    rw [Addr.add_lit, cell_of_row _ _ _ _ _ (0, 0) (heap_alloc_new w _)]
    rfl
  | j + 1, u, h => by simp at h
theorem one_one (i : Int) : ∀ u ∈ [Value.int .i64 i], u.oneCell' = true := by
  intro u hu
  obtain rfl := List.mem_singleton.1 hu
  rfl
theorem row_spare {E : Env} {st : BS} {l : List Int} {W : World} {o : Obj} (h : Inv E st l W) (hl : l.length < E.hs.length) (i : Int) :
    ∀ j, j < [Value.int .i64 i].length → ((W.alloc o).cell? ⟨E.b8, 0 + l.length * 1 + j, none⟩).isSome = true ∧ (W.alloc o).frozen? ⟨E.b8, 0 + l.length * 1 + j, none⟩ = false := by
  intro j hj
  obtain rfl : j = 0 := by simpa using hj
  rcases h.row.2 with ⟨h0, _⟩ | ⟨g, cap, cur, hv, hb, hc, hn, hm, hs, ht⟩
  · cases h0
  · cases hv
    have hc2 := blk_alloc hc o
    have e : 0 + l.length * 1 + 0 = l.length := by omega
    rw [e, cell_of_row _ _ _ _ _ (0, 0) hc2]
    refine ⟨?_, frozen_of_row _ _ _ _ _ hc2⟩
    rw [Array.getElem?_eq_getElem (by omega)]
    rfl
/-- The row with one more. -/
theorem Inv.push {E : Env} {st : BS} {l : List Int} {W : World} (h : Inv E st l W) (hok : EnvOk E) (hl : l.length < E.hs.length) (i : Int) (o : Obj) :
    Inv E st (l ++ [i]) ((W.alloc o).drew.setCells E.b8 l.length [Value.int .i64 i]) := by
  have h1 := h.grow hok ((Below.refl W.heap.size W).alloc (Nat.le_refl _) o).drew
  show Inv E st (l ++ [i]) ((W.alloc o).drew.setCell ⟨E.b8, l.length, none⟩ (.int .i64 i))
  refine h1.rowed hok ⟨rfl, rfl, rfl, by simp, fun k _ hk => Below.heap_setCell _ _ _ _ (fun e => hk (by rw [e]))⟩ ?_
  rcases h1.row.2 with ⟨h0, _⟩ | ⟨g, cap, cur, hv, hb, hc, hn, hm, hs, ht⟩
  · cases h0
  · cases hv
    refine ⟨by simp, .inr ⟨E.b8, E.hs.length, cur.setIfInBounds l.length (.int .i64 i), rfl, hb, heap_setCell_same _ _ _ _ _ _ hc, by simp; omega, hm, by simpa using hs, ?_⟩⟩
    rw [Array.toList_setIfInBounds]
    simp only [List.length_append, List.length_cons, List.length_nil, Nat.mul_one, Nat.zero_add, List.map_append, List.map_cons, List.map_nil] at ht ⊢
    rw [List.take_succ_eq_append_getElem (by simp; omega), List.take_set_of_le (Nat.le_refl _), ht]
    simp
theorem kids_step {g : Int → BS → Option BS} {l : List Int} {n i : Nat} {s st' : BS} (h : kidsF g l (n - i) i s = some st') (hi : i < n) : ∃ s2, (if (i : Int) ∈ l then some s else g i s) = some s2 ∧ kidsF g l (n - (i + 1)) (i + 1) s2 = some st' := by
  obtain ⟨r, hr⟩ : ∃ r, n - i = r + 1 := ⟨n - i - 1, by omega⟩
  rw [hr] at h
  obtain ⟨s2, h1, h2⟩ := Option.bind_eq_some_iff.1 h
  exact ⟨s2, h1, by rw [show n - (i + 1) = r by omega]; exact h2⟩
set_option maxHeartbeats 4000000 in
theorem extend_calls {E : Env} (hok : EnvOk E) {cost : List Int → Option Int} (hc : CostC E cost) : ∀ (d : Nat) (l : List Int) (st st' : BS) (W : World), l.length + d = E.hs.length → Inv E st l W → ordO cost E.hs.length d l st = some st' →
    Calls Try.prog 85 #[.slice (some ⟨E.b8, 0, none⟩) l.length E.hs.length, .pointer (some ⟨E.b5, 0, none⟩), .pointer (some ⟨E.b6, 0, none⟩), .pointer (some ⟨E.b7, 0, none⟩)] W fun e w' => e = .returned (.tuple #[]) ∧ Inv E st' l w' := by
  intro d
  induction d with
  | zero =>
    intro l st st' W hl h hs
    have hk := leaf_calls hok hc h hs
    have c5 := cell_of_one h.c5
    have c6 := cell_of_one h.c6
    have hl' : l.length = E.hs.length := by omega
    rw [hl'] at hk ⊢
    clear h hs hc hok hl hl'
    go_enter Try.func85, Try.ntmps85
    go_wp2_with (go_at_call 81; refine hk.mono ?_; rintro e w1 ⟨rfl, HJ⟩)
    refine bodyPost_ret (results_none rfl _ _ _) rfl ?_
    exact ⟨rfl, HJ⟩
  | succ d ih =>
    intro l st st' W hl h hs
    have HE : Aside (EnvOk E) := hok
    have HI : Aside (Inv E st l W) := h
    have HK : Aside (kidsF (fun i s => ordO cost E.hs.length d (l ++ [i]) s) l E.hs.length 0 st = some st') := hs
    have hlt : ((l.length : Int) == (E.hs.length : Int)) = false := beq_eq_false_iff_ne.mpr (by omega)
    obtain ⟨i3, hi3, hz3, hs3, hb3⟩ := info_parts info3
    have c5 := cell_of_one h.c5
    have h8 := hok.len
    clear h hs hok
    go_enter Try.func85, Try.ntmps85
    go_wp2
    go_loopg [14] E.hs.length (fun gg s14 wr => ∃ (i : Nat) (s1 : BS), i ≤ E.hs.length ∧ E.hs.length - i ≤ gg ∧ s14 = .int .i64 i ∧ Aside (Inv E s1 l wr) ∧ Aside (kidsF (fun i s => ordO cost E.hs.length d (l ++ [i]) s) l (E.hs.length - i) i s1 = some st'))
    case atStart => exact ⟨0, st, Nat.zero_le _, by omega, rfl, HI, HK⟩
    case round =>
      clear HI HK
      obtain ⟨i, s1, hi, hg, rfl, HI, HK⟩ := hrel
      have hcon := contains_calls (some ⟨E.b8, 0, none⟩) E.hs.length l (i : Int) wr (HI.out.readsRow HE.out)
      by_cases hlt2 : i < E.hs.length
      · have hltz : (i : Int) < (E.hs.length : Int) := by omega
        obtain ⟨s2, hs2, hrest⟩ := kids_step HK.out hlt2
        have HR : Aside (kidsF (fun i s => ordO cost E.hs.length d (l ++ [i]) s) l (E.hs.length - (i + 1)) (i + 1) s2 = some st') := hrest
        clear hrest
        by_cases hin : (i : Int) ∈ l
        · rw [decide_eq_true hin] at hcon
          rw [if_pos hin] at hs2
          obtain rfl := Option.some.inj hs2
          clear hin hs2
          go_wp2_with (go_at_call 79; refine hcon.mono ?_; rintro e w1 ⟨rfl, rfl⟩)
          go_roundg (E.hs.length - (i + 1))
          case measure => omega
          case rel => exact ⟨i + 1, s1, by omega, by omega, by go_num, HI, HR⟩
        · rw [decide_eq_false hin] at hcon
          rw [if_neg hin] at hs2
          have hll : l.length < E.hs.length := by omega
          have hsub : ∀ W', Inv E s1 (l ++ [(i : Int)]) W' → Calls Try.prog 85 #[.slice (some ⟨E.b8, 0, none⟩) (l.length + 1) E.hs.length, .pointer (some ⟨E.b5, 0, none⟩), .pointer (some ⟨E.b6, 0, none⟩), .pointer (some ⟨E.b7, 0, none⟩)] W' fun e w' => e = .returned (.tuple #[]) ∧ Aside (Inv E s2 l w') := fun W' hW => by
            have := ih (l ++ [(i : Int)]) s1 s2 W' (by simp; omega) hW hs2
            rw [List.length_append] at this
            exact this.mono fun e w' ⟨he, hw⟩ => ⟨he, hw.shorter⟩
          clear hin hs2
          have c7 := cell_of_one HI.out.c7
          have c71 : (wr.alloc (.cells #[.int .i64 (i : Int)] 3)).cell? ⟨E.b7, 0, none⟩ = some (.func (.func 85) #[] #[ptr E.b5, ptr E.b6, ptr E.b7]) := cell_of_one (blk_alloc HI.out.c7 _)
          have c72 : ((wr.alloc (.cells #[.int .i64 (i : Int)] 3)).drew.setCells E.b8 l.length [.int .i64 (i : Int)]).cell? ⟨E.b7, 0, none⟩ = some (.func (.func 85) #[] #[ptr E.b5, ptr E.b6, ptr E.b7]) := cell_of_one (HI.out.push HE.out hll i _).c7
          go_wp2_with (go_at_call 79; refine hcon.mono ?_; rintro e w1 ⟨rfl, rfl⟩)
          go_region_law (first | (refine step_append_room rfl (.tmp 22) (.tmp 24) 22 rfl 3 i3 1 Try.underlying22 hi3 hs3 E.b8 0 l.length E.hs.length (by simp [Act.eval, Act.put]) ⟨wr.heap.size, 0, none⟩ 1 1 [.int .i64 (i : Int)] (by simp [Act.eval, Act.put]) rfl (one_news wr i) (one_one i) (by omega) (row_spare HI.out hll i) ?_) | (go_simp; go_at_call 85; refine (hsub _ (HI.out.push HE.out hll i _)).mono ?_; rintro e w2 ⟨rfl, HJ⟩))
          all_goals
            clear c7 c71 c72 hsub
            go_wp2
            go_roundg (E.hs.length - (i + 1))
            case measure => omega
            case rel => exact ⟨i + 1, s2, by omega, by omega, by go_num, HJ, HR⟩
      · have hltz : ¬ (i : Int) < (E.hs.length : Int) := by omega
        obtain rfl : i = E.hs.length := by omega
        have e0 := HK.out
        rw [Nat.sub_self] at e0
        obtain rfl := Option.some.inj e0
        clear e0 hcon
        go_wp2
        go_end0
        exact ⟨rfl, HI.out⟩
end Go.Proofs.Ytamdbkilpllfoaa.Hand

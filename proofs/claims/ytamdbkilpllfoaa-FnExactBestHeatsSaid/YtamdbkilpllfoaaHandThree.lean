/- What is proved: the closures of impl.BestHeats and impl.leastOrder: what an order costs, and whether it is the best so far; OrderCost's own contract is a hypothesis here. -/
import Derived.Test.YtamdbkilpllfoaaHandTwo
import Derived.Lib.SliceRun
set_option linter.unusedVariables false
set_option linter.unusedSimpArgs false
namespace Go.Proofs.Ytamdbkilpllfoaa.Hand
open Go.RowKit Go.Lib Go.Proofs.YtamdbkilpllfoaaW.PrintWords

/-- OrderCost's contract. -/
def CostC (E : Env) (cost : List Int → Option Int) : Prop :=
  ∀ (o : List Int) (r : Int) (W : World) (A1 : Option Addr) (c1 : Nat), Kd.C (Kd.int .i64) W E.A E.hs.length E.hs → Kd.C (Kd.int .i64) W A1 o.length o → o.length ≤ c1 → cost o = some r →
    Calls Try.prog 44 #[.slice E.A E.hs.length E.c, .slice A1 o.length c1, .int .i64 E.s] W fun e w' => e = .returned (.int .i64 r) ∧ Below W.heap.size W w'
/-- The row as a list. -/
theorem Inv.readsRow {E : Env} {st : BS} {l : List Int} {W : World} (h : Inv E st l W) (hok : EnvOk E) : Kd.C (Kd.int .i64) W (some ⟨E.b8, 0, none⟩) l.length l := by
  obtain ⟨_, _, _, _, _, _, _, _, _, _, _, _⟩ := hok
  have hcap : l.length ≤ 9223372036854775807 := by
    rcases h.row.2 with ⟨h0, _⟩ | ⟨_, _, _, hv, _, _, hn, hm, _⟩
    · cases h0
    · unfold maxLen at hm; omega
  refine ⟨rfl, hcap, fun _ => ⟨_, rfl, fun j p hj => ⟨[.int .i64 p], rfl, rfl, fun i u hu => ?_⟩⟩⟩
  have hjl := (List.getElem?_eq_some_iff.1 hj).1
  match i, hu with
  | 0, hu =>
    obtain rfl := Option.some.inj hu
    show W.cell? ((⟨E.b8, 0, none⟩ : Addr).add (j * 1 + 0)) = _
    rw [Addr.add_lit, h.row.cellAt _ (by omega), List.getElem?_map, Nat.mul_one]
    show Option.map (Value.int IntKind.i64) l[0 + (j + 0)]? = _
    rw [Nat.zero_add, Nat.add_zero, hj]
    rfl
theorem Inv.len {E : Env} {st : BS} {l : List Int} {W : World} (h : Inv E st l W) : l.length ≤ E.hs.length := by
  rcases h.row.2 with ⟨h0, _⟩ | ⟨_, _, _, hv, _, _, hn, hm, _⟩
  · cases h0
  · cases hv; exact hn
set_option maxHeartbeats 1000000 in
theorem cost_calls {E : Env} (hok : EnvOk E) {cost : List Int → Option Int} (hc : CostC E cost) {st : BS} {l : List Int} {W : World} (h : Inv E st l W) {r : Int} (hr : cost l = some r) :
    Calls Try.prog 73 #[.slice (some ⟨E.b8, 0, none⟩) l.length E.hs.length, .pointer (some ⟨E.b0, 0, none⟩), .pointer (some ⟨E.b1, 0, none⟩)] W fun e w' => e = .returned (.int .i64 r) ∧ Below W.heap.size W w' := by
  have hk := hc l r W (some ⟨E.b8, 0, none⟩) E.hs.length (Kd.C_below hok.reads h.below) (h.readsRow hok) h.len hr
  have c0 := cell_of_one h.c0
  have c1 := cell_of_one h.c1
  clear hc h hr hok
  obtain ⟨w, A, c, hs, s, b0, b1, b2, b3, b4, b5, b6, b7, b8⟩ := E
  dsimp only at hk c0 c1 ⊢
  go_enter Try.func73, Try.ntmps73
  go_wp2_with (go_at_call 44; refine hk.mono ?_; rintro e w' ⟨rfl, hb⟩)
  go_ret
  exact ⟨rfl, hb⟩
/-- The best so far behind an order that costs r. -/
theorem stepO_some {cost : List Int → Option Int} {st st' : BS} {l : List Int} (h : stepO cost st l = some st') : ∃ r, cost l = some r ∧ ((st.1 = none ∨ (st.1 ≠ none ∧ r < st.2)) ∧ st' = (some l, r) ∨ (st.1 ≠ none ∧ ¬ r < st.2) ∧ st' = st) := by
  unfold stepO at h
  cases hc : cost l with
  | none => rw [hc] at h; cases h
  | some r =>
    rw [hc] at h
    have h := Option.some.inj h
    refine ⟨r, rfl, ?_⟩
    obtain ⟨o, m⟩ := st
    cases o with
    | none => exact Or.inl ⟨Or.inl rfl, h.symm⟩
    | some b =>
      dsimp only at h
      by_cases e : r < m
      · rw [if_pos e] at h
        exact Or.inl ⟨Or.inr ⟨by simp, e⟩, h.symm⟩
      · rw [if_neg e] at h
        exact Or.inr ⟨⟨by simp, e⟩, h.symm⟩
theorem info3 : (Try.prog.info? 3).map (fun i => (i.zero, i.size, i.bytes)) = some (some (.int .i64 0), 1, 8) := by kernel_rfl
/-- The best so far has been replaced: what the row holds was copied, and two variables were written. -/
theorem Inv.stored {E : Env} {st : BS} {l : List Int} {w1 w3 : World} {v' : Value} {o : Obj} {r : Int} {g : Nat} (hok : EnvOk E) (h : Inv E st l w1) (hg : (w1.alloc o).grownBy w3 (some g)) (hge : g = w1.heap.size)
    (ho : w3.ownsRow (E.b8 + 1) 3 1 v' l.length (l.map (Value.int .i64))) (hv : ¬ v' = .slice none 0 0) :
    Inv E (some l, r) l ((w3.setCell ⟨E.b3, 0, none⟩ v').setCell ⟨E.b4, 0, none⟩ (.int .i64 r)) := by
  subst hge
  have mv : ∀ {k : Nat} {x : Obj}, w1.heap[k]? = some x → w3.heap[k]? = some x := fun {k x} hk => by
    have hlt := lt_of_block hk
    exact (hg.block _ (by simp; omega) (fun e => by have := Option.some.inj e; omega)).trans ((Below.heap_alloc w1 o k hlt).trans hk)
  obtain ⟨hb, h0, h1, h2, h3, h4, h5, h6, h7, _, _, _⟩ := hok
  have ob : ∀ k, v'.ownBlock = some k → E.b8 + 1 ≤ k := fun k hk => (ho.lt k hk).1
  obtain ⟨g2, cap2, rfl⟩ : ∃ g2 cap2, v' = .slice (some ⟨g2, 0, none⟩) l.length cap2 := by
    rcases ho.2 with ⟨e, _⟩ | ⟨g2, cap2, _, e, _⟩
    · exact absurd e hv
    · exact ⟨g2, cap2, e⟩
  have hg2 := ob g2 rfl
  have st1 : ∀ {k : Nat} {x : Obj}, w3.heap[k]? = some x → k ≠ E.b3 → k ≠ E.b4 → ((w3.setCell ⟨E.b3, 0, none⟩ (.slice (some ⟨g2, 0, none⟩) l.length cap2)).setCell ⟨E.b4, 0, none⟩ (.int .i64 r)).heap[k]? = some x := fun hk n3 n4 => by
    rw [Below.heap_setCell _ _ _ _ n4, Below.heap_setCell _ _ _ _ n3]
    exact hk
  obtain ⟨vb, hvb⟩ : ∃ vb, w1.heap[E.b3]? = some (.cells #[vb] 22 (0, 0)) := by
    have := h.best
    unfold BestIs at this
    split at this
    · exact ⟨_, this⟩
    · obtain ⟨_, _, e, _⟩ := this
      exact ⟨_, e⟩
  have own3 : ∀ {base g n cap : Nat} {xs : List Value}, g ≠ E.b3 → g ≠ E.b4 → w3.ownsRow base 3 1 (.slice (some ⟨g, 0, none⟩) n cap) n xs → ((w3.setCell ⟨E.b3, 0, none⟩ (.slice (some ⟨g2, 0, none⟩) l.length cap2)).setCell ⟨E.b4, 0, none⟩ (.int .i64 r)).ownsRow base 3 1 (.slice (some ⟨g, 0, none⟩) n cap) n xs := fun {base g n cap xs} n3 n4 hh =>
    ownsRow_setCell_other (a := ⟨E.b4, 0, none⟩) (ownsRow_setCell_other (a := ⟨E.b3, 0, none⟩) hh (fun e => n3 (Option.some.inj (show some g = some E.b3 from e))) _) (fun e => n4 (Option.some.inj (show some g = some E.b4 from e))) _
  have hbel : Below E.w.heap.size E.w w3 := (h.below.alloc h.below.size o).grown hg (by simp; have := h.below.size; omega) (fun k hk => by obtain rfl := Option.some.inj hk; exact h.below.size)
  refine ⟨(hbel.setCell (p := ⟨E.b3, 0, none⟩) (by show _ ≤ E.b3; omega) _).setCell (p := ⟨E.b4, 0, none⟩) (by show _ ≤ E.b4; omega) _, st1 (mv h.c0) (by omega) (by omega), st1 (mv h.c1) (by omega) (by omega), st1 (mv h.c2) (by omega) (by omega), st1 (mv h.c5) (by omega) (by omega), st1 (mv h.c6) (by omega) (by omega), st1 (mv h.c7) (by omega) (by omega), ?_, ?_, ?_⟩
  · refine one_setCell (v := .int .i64 st.2) ?_
    rw [Below.heap_setCell _ _ _ _ (by show E.b4 ≠ E.b3; omega)]
    exact mv h.c4
  · refine ⟨g2, cap2, ?_, own3 (by omega) (by omega) ho⟩
    rw [Below.heap_setCell _ _ _ _ (by show E.b3 ≠ E.b4; omega)]
    exact one_setCell (mv hvb)
  · refine own3 (by omega) (by omega) (own_move h.row fun k hk => ?_)
    obtain rfl : E.b8 = k := Option.some.inj hk
    have hlt : E.b8 < w1.heap.size := (h.row.lt E.b8 rfl).2
    exact (hg.block _ (by simp; omega) (fun e => by have := Option.some.inj e; omega)).trans (Below.heap_alloc w1 o _ hlt)
/-- The variable's value. -/
def bestV (E : Env) (o : Option (List Int)) (v : Value) : Prop := (o = none ∧ v = .slice none 0 0) ∨ (o ≠ none ∧ ∃ a n c, v = .slice (some a) n c)
theorem Inv.bestV {E : Env} {st : BS} {l : List Int} {W : World} (h : Inv E st l W) : ∃ v, W.heap[E.b3]? = some (.cells #[v] 22 (0, 0)) ∧ bestV E st.1 v := by
  have hb := h.best
  unfold BestIs at hb
  split at hb
  · rename_i e
    exact ⟨_, hb, Or.inl ⟨e, rfl⟩⟩
  · rename_i o e
    obtain ⟨g, cap, hb, _⟩ := hb
    exact ⟨_, hb, Or.inr ⟨by rw [e]; simp, _, _, _, rfl⟩⟩
theorem row_news {E : Env} {st : BS} {l : List Int} {W : World} (h : Inv E st l W) : ∀ (j : Nat) (u : Value), (l.map (Value.int .i64))[j]? = some u → W.cell? ((⟨E.b8, 0, none⟩ : Addr).add j) = some u := fun j u hu => by
  have hj : j < l.length := by have := (List.getElem?_eq_some_iff.1 hu).1; simpa using this
  rw [Addr.add_lit, h.row.cellAt _ (by omega), Nat.zero_add]
  exact hu
theorem size_row {E : Env} {st : BS} {l : List Int} {W : World} {o : Obj} (h : Inv E st l W) : E.b8 + 1 ≤ (W.alloc o).heap.size := by
  have : E.b8 < W.heap.size := (h.row.lt E.b8 rfl).2
  simp
  omega
theorem own_empty {E : Env} {st : BS} {l : List Int} {W : World} (h : Inv E st l W) (hok : EnvOk E) : (W.alloc (.cells #[] 3)).ownsRow (E.b8 + 1) 3 1 (.slice (some ⟨W.heap.size, 0, none⟩) 0 0) 0 [] := by
  have : E.b8 < W.heap.size := (h.row.lt E.b8 rfl).2
  exact World.ownsRow_lit (e := 3) (size := 1) W #[] 0 (by omega) (by unfold maxLen; omega) rfl
theorem row_news_alloc {E : Env} {st : BS} {l : List Int} {W : World} {o : Obj} (h : Inv E st l W) : ∀ (j : Nat) (u : Value), (l.map (Value.int .i64))[j]? = some u → (W.alloc o).cell? ((⟨E.b8, 0, none⟩ : Addr).add j) = some u := fun j u hu =>
  pw_cell_below ((Below.refl W.heap.size W).alloc (Nat.le_refl _) o) (row_news h j u hu)
theorem own_shape {w : World} {base n : Nat} {v : Value} {xs : List Value} (ho : w.ownsRow base 3 1 v n xs) (hv : ¬ v = .slice none 0 0) : ∃ g cap, v = .slice (some ⟨g, 0, none⟩) n cap := by
  rcases ho.2 with ⟨e, _⟩ | ⟨g, cap, _, e, _⟩
  · exact absurd e hv
  · exact ⟨g, cap, e⟩
theorem leaf_cells {E : Env} {st : BS} {l : List Int} {w1 w3 : World} {o : Obj} {vb v : Value} (hok : EnvOk E) (h : Inv E st l w1) (hvb : w1.heap[E.b3]? = some (.cells #[vb] 22 (0, 0))) (hg : (w1.alloc o).grownBy w3 (Value.slice (some ⟨w1.heap.size, 0, none⟩) 0 0).ownBlock) :
    w3.cell? ⟨E.b3, 0, none⟩ = some vb ∧ w3.frozen? ⟨E.b3, 0, none⟩ = false ∧ (w3.setCell ⟨E.b3, 0, none⟩ v).cell? ⟨E.b4, 0, none⟩ = some (.int .i64 st.2) ∧ (w3.setCell ⟨E.b3, 0, none⟩ v).frozen? ⟨E.b4, 0, none⟩ = false := by
  have mv : ∀ {k : Nat} {x : Obj}, w1.heap[k]? = some x → w3.heap[k]? = some x := fun {k x} hk => by
    have hlt := lt_of_block hk
    exact (hg.block _ (by simp; omega) (fun e => by have : k = w1.heap.size := Option.some.inj e; omega)).trans ((Below.heap_alloc w1 o k hlt).trans hk)
  have h4 : (w3.setCell ⟨E.b3, 0, none⟩ v).heap[E.b4]? = some (.cells #[.int .i64 st.2] 3 (0, 0)) := by
    rw [Below.heap_setCell _ _ _ _ (by show E.b4 ≠ E.b3; have := hok.h3; omega)]
    exact mv h.c4
  exact ⟨cell_of_one (mv hvb), free_of_one (mv hvb), cell_of_one h4, free_of_one h4⟩
set_option maxHeartbeats 2000000 in
theorem leaf_calls {E : Env} (hok : EnvOk E) {cost : List Int → Option Int} (hc : CostC E cost) {st st' : BS} {l : List Int} {W : World} (h : Inv E st l W) (hs : stepO cost st l = some st') :
    Calls Try.prog 81 #[.slice (some ⟨E.b8, 0, none⟩) l.length E.hs.length, .pointer (some ⟨E.b2, 0, none⟩), .pointer (some ⟨E.b3, 0, none⟩), .pointer (some ⟨E.b4, 0, none⟩)] W fun e w' => e = .returned (.tuple #[]) ∧ Inv E st' l w' := by
  obtain ⟨r, hr, hcase⟩ := stepO_some hs
  have hk := cost_calls hok hc h hr
  have c2 := cell_of_one h.c2
  obtain ⟨i3, hi3, hz3, hs3, hb3⟩ := info_parts info3
  have hlen : l.length ≤ 8 := by have := h.len; have := hok.len; omega
  have HI : Aside (Inv E st l W) := h
  have HE : Aside (EnvOk E) := hok
  have hk2 : Calls Try.prog 73 #[.slice (some ⟨E.b8, 0, none⟩) l.length E.hs.length, .pointer (some ⟨E.b0, 0, none⟩), .pointer (some ⟨E.b1, 0, none⟩)] W fun e w1 => e = .returned (.int .i64 r) ∧ Aside (Inv E st l w1) := hk.mono fun e w1 ⟨he, hb⟩ => ⟨he, h.grow hok hb⟩
  clear hc h hok hr hs hk
  have hq0 : ∀ (w : World), (binOp .eql 22 (.slice none 0 0) (.slice none 0 0)).run Try.prog w = .ok (.bool true) w := fun w => Lib.run_eql_slice_nil w 22 3 none 0 0 0 0 Try.underlying22
  have hq : ∀ (w : World) (ad : Addr) (n c : Nat), (binOp .eql 22 (.slice (some ad) n c) (.slice none 0 0)).run Try.prog w = .ok (.bool false) w := fun w ad n c => Lib.run_eql_slice_nil w 22 3 (some ad) n c 0 0 Try.underlying22
  rcases hcase with ⟨hw, rfl⟩ | ⟨⟨hn, hlt⟩, rfl⟩
  · rcases hw with hw | ⟨hn, hlt⟩
    · go_enter Try.func81, Try.ntmps81
      go_wp2_with (first | (go_at_call 73; refine hk2.mono ?_; rintro e w1 ⟨rfl, HJ⟩; obtain ⟨vb, hvb, hvv⟩ := HJ.out.bestV; rcases hvv with ⟨_, rfl⟩ | ⟨h0, _⟩; rotate_left; exact absurd hw h0; have d3 := cell_of_one hvb; have d4 := cell_of_one HJ.out.c4) | (at_builtin; refine wpList_append_own _ rfl (.tmp 16) (.tmp 17) 22 rfl (E.b8 + 1) 3 i3 (.int .i64 0) 1 8 Try.underlying22 hi3 hz3 hs3 hb3 rfl (by decide) _ 0 [] rfl (own_empty HJ.out HE.out) ⟨E.b8, 0, none⟩ l.length E.hs.length (l.map (Value.int .i64)) rfl (by simp) (row_news_alloc HJ.out) (ints_oneCell .i64 l) (by unfold maxLen; omega) (by omega) (size_row HJ.out) ?_))
      intro v' w3 hown' hgrow hnil
      have HO := Aside0.mk hown'
      have HG := Aside0.mk hgrow
      have HV : Aside0 (¬ v' = .slice none 0 0) := ⟨hnil⟩
      clear hown' hgrow hnil d3 d4
      obtain ⟨g2, cap2, rfl⟩ := own_shape HO.out HV.out
      obtain ⟨x3, f3, x4, f4⟩ := leaf_cells (v := .slice (some ⟨g2, 0, none⟩) l.length cap2) HE.out HJ.out hvb HG.out
      go_wp2
      go_end0
      exact ⟨rfl, Inv.stored HE.out HJ.out HG.out rfl HO.out HV.out⟩
    · have hd : decide (r < st.2) = true := decide_eq_true hlt
      go_enter Try.func81, Try.ntmps81
      go_wp2_with (first | (go_at_call 73; refine hk2.mono ?_; rintro e w1 ⟨rfl, HJ⟩; obtain ⟨vb, hvb, hvv⟩ := HJ.out.bestV; rcases hvv with ⟨h0, _⟩ | ⟨_, ad, n, cap, rfl⟩; exact absurd h0 hn; have d3 := cell_of_one hvb; have d4 := cell_of_one HJ.out.c4) | (at_builtin; refine wpList_append_own _ rfl (.tmp 16) (.tmp 17) 22 rfl (E.b8 + 1) 3 i3 (.int .i64 0) 1 8 Try.underlying22 hi3 hz3 hs3 hb3 rfl (by decide) _ 0 [] rfl (own_empty HJ.out HE.out) ⟨E.b8, 0, none⟩ l.length E.hs.length (l.map (Value.int .i64)) rfl (by simp) (row_news_alloc HJ.out) (ints_oneCell .i64 l) (by unfold maxLen; omega) (by omega) (size_row HJ.out) ?_))
      intro v' w3 hown' hgrow hnil
      have HO := Aside0.mk hown'
      have HG := Aside0.mk hgrow
      have HV : Aside0 (¬ v' = .slice none 0 0) := ⟨hnil⟩
      clear hown' hgrow hnil d3 d4
      obtain ⟨g2, cap2, rfl⟩ := own_shape HO.out HV.out
      obtain ⟨x3, f3, x4, f4⟩ := leaf_cells (v := .slice (some ⟨g2, 0, none⟩) l.length cap2) HE.out HJ.out hvb HG.out
      go_wp2
      go_end0
      exact ⟨rfl, Inv.stored HE.out HJ.out HG.out rfl HO.out HV.out⟩
  · -- the best stays
    have hd : decide (r < st'.2) = false := decide_eq_false hlt
    go_enter Try.func81, Try.ntmps81
    go_wp2_with (go_at_call 73; refine hk2.mono ?_; rintro e w1 ⟨rfl, HJ⟩; obtain ⟨vb, hvb, hvv⟩ := HJ.out.bestV; rcases hvv with ⟨h0, _⟩ | ⟨_, ad, n, cap, rfl⟩; exact absurd h0 hn; have d3 := cell_of_one hvb; have d4 := cell_of_one HJ.out.c4)
    go_end0
    exact ⟨rfl, HJ.out⟩
end Go.Proofs.Ytamdbkilpllfoaa.Hand

/- What is proved: read as plain functions on numbers and lists, the law FnOvens answers true at every input of its kinds; no condition is added. -/
import Derived.Test.YtjkpdpggnapmlaaPFnOvensx4
import Derived.Test.YtjkpdpggnapmlaaPlain
set_option linter.unusedVariables false
set_option linter.unusedSimpArgs false
set_option maxRecDepth 20000
namespace Go.Proofs.Ytjkpdpggnapmlaa.Pure
open Go.RowKit Go.Proofs.Ytjkpdpggnapmlaa.PFnOvens Go.Proofs.YtjkpdpggnapmlaaW.PrintWords Go.Proofs.YtjkpdpggnapmlaaW.PrintLast Go.Proofs.YtjkpdpggnapmlaaW.PrintMore Go.Proofs.Ytjkpdpggnapmlaa.Plain
def pr_impl_Batch (xs : List S39) : List (Int × Int) := xs.map fun s => (s.f0, s.f1)
theorem pr_impl_Batch_length (xs : List S39) : (pr_impl_Batch xs).length = xs.length := by simp [pr_impl_Batch]
theorem rd_impl_Batch (xs : List S39) (j : Nat) (h : j < xs.length) : rd_T39 xs (j : Int) = xs[j] := by simp [rd_T39, List.getD_eq_getElem?_getD, List.getElem?_eq_getElem h]
theorem pr_impl_Batch_drop (xs : List S39) (j : Nat) (h : j < xs.length) : (pr_impl_Batch xs).drop j = ((xs[j]).f0, (xs[j]).f1) :: (pr_impl_Batch xs).drop (j + 1) := by
  rw [List.drop_eq_getElem_cons (by rw [pr_impl_Batch_length]; exact h)]
  simp [pr_impl_Batch]
theorem pr_impl_Batch_get (xs : List S39) (j : Nat) (h : j < xs.length) : (pr_impl_Batch xs)[j]'(by rw [pr_impl_Batch_length]; exact h) = ((xs[j]).f0, (xs[j]).f1) := by simp [pr_impl_Batch]
theorem pr_impl_Batch_ok {p : Int × Int → Bool} {xs : List S39} (h : (pr_impl_Batch xs).all p = true) (j : Nat) (hj : j < xs.length) : p ((xs[j]).f0, (xs[j]).f1) = true := by
  have := List.all_eq_true.1 h _ (List.getElem_mem (by rw [pr_impl_Batch_length]; exact hj : j < (pr_impl_Batch xs).length))
  rwa [pr_impl_Batch_get xs j hj] at this
theorem impl_BatchesOk_eq (xs : List S39) : impl_BatchesOk.f xs = some (pBatchesOk (pr_impl_Batch xs)) := by
  unfold impl_BatchesOk.f pBatchesOk pAllOk
  rw [pr_impl_Batch_length]
  congr 2
  unfold pr_impl_Batch
  rw [List.all_map]
  rfl
theorem impl_in_eq (a b c : Int) : impl_in.f a b c = some (decide (b ≤ a ∧ a ≤ c)) := by
  unfold impl_in.f
  by_cases h : b ≤ a <;> simp [h]
theorem impl_batchOk_eq (a b : Int) : impl_batchOk.f a b = some (pBatchOk a b) := by
  unfold impl_batchOk.f pBatchOk
  simp only [impl_in_eq, Option.bind_some, decide_eq_true_eq]
  by_cases h : 1 ≤ a ∧ a ≤ 500 <;> simp [h]
theorem impl_up_eq {a b : Int} (h : 0 ≤ a ∧ a ≤ 1000000000) (h2 : 1 ≤ b ∧ b ≤ 1000000) : impl_up.f a b = some (pUp a b) := by
  unfold impl_up.f
  rw [if_neg (by omega), up_arith h h2]
theorem impl_LoadsOf_eq (a b r : Int) : impl_LoadsOf.f a b r = some (pLoadsOf a b r) := by
  unfold impl_LoadsOf.f pLoadsOf
  simp only [impl_batchOk_eq, impl_in_eq, Option.bind_some, decide_eq_true_eq]
  by_cases h : pBatchOk a b = true
  · by_cases h2 : 1 ≤ r ∧ r ≤ 500
    · have h3 := h
      simp only [pBatchOk, decide_eq_true_eq] at h3
      rw [if_pos h, if_pos h2, if_pos ⟨h, h2⟩, impl_up_eq (by omega) (by omega)]
      rfl
    · rw [if_pos h, if_neg h2, if_neg (fun c => h2 c.2)]
  · rw [if_neg h, if_neg (fun c => h c.1)]
theorem impl_OvenTime_l0 (xs : List S39) (r l : Int) (hn : xs.length ≤ 10) (hr : 1 ≤ r ∧ r ≤ 500) (hl : 0 ≤ l ∧ l ≤ 60) (hok : (pr_impl_Batch xs).all (fun p => pBatchOk p.1 p.2) = true) (d : Nat) : ∀ (j : Nat) (acc : Int), j + d = xs.length → 0 ≤ acc → acc ≤ 130000 * j → Ev (fun k => impl_OvenTime.l0 k r l acc xs (xs.length : Int) j) (acc + pOven r l ((pr_impl_Batch xs).drop j)) := by
  induction d with
  | zero =>
    intro j acc hj h0 h1
    refine ev_succ ?_
    simp only [impl_OvenTime.l0]
    rw [List.drop_of_length_le (by rw [pr_impl_Batch_length]; omega)]
    exact ev_ifn (by omega) (ev_const (by simp [pOven]))
  | succ d ih =>
    intro j acc hj h0 h1
    refine ev_succ ?_
    simp only [impl_OvenTime.l0, impl_LoadsOf_eq, Option.bind_some]
    have g := pr_impl_Batch_ok (p := fun p => pBatchOk p.1 p.2) hok j (by omega)
    have g2 := oven1_range (p := ((xs[j]).f0, (xs[j]).f1)) g hr hl
    have g3 := pBatchOk_range (p := ((xs[j]).f0, (xs[j]).f1)) g
    dsimp only at g g2 g3
    rw [pr_impl_Batch_drop xs j (by omega), rd_impl_Batch xs j (by omega), wnext (n := xs.length) (by omega) (by omega), pLoadsOf_ok g hr, w64 (n := (xs[j]).f1 + l) (by omega) (by omega), w64 (n := pUp (xs[j]).f0 r * ((xs[j]).f1 + l)) (by omega) (by omega), w64 (n := acc + pUp (xs[j]).f0 r * ((xs[j]).f1 + l)) (by omega) (by omega)]
    exact ev_ifp (by omega) (ev_ifp (by omega) (ev_ifp (by omega) (ev_eq (ih (j + 1) _ (by omega) (by omega) (by omega)) (by simp only [pOven]; omega))))
theorem impl_OvenTime_ev (xs : List S39) (r l : Int) : Ev (fun k => impl_OvenTime.f k xs r l) (pOvenTime (pr_impl_Batch xs) r l) := by
  unfold impl_OvenTime.f pOvenTime
  simp only [impl_in_eq, impl_BatchesOk_eq, Option.bind_some]
  by_cases h : pBatchesOk (pr_impl_Batch xs) = true
  · refine ev_ifp h ?_
    by_cases h2 : 1 ≤ r ∧ r ≤ 500
    · refine ev_ifp (decide_eq_true h2) (ev_succ ?_)
      simp only [impl_OvenTime.j0]
      by_cases h3 : 0 ≤ l ∧ l ≤ 60
      · have q := pBatchesOk_split h
        rw [pr_impl_Batch_length] at q
        rw [if_pos ⟨h, h2, h3⟩, decide_eq_true h3]
        exact ev_ifn (by decide) (ev_eq (impl_OvenTime_l0 xs r l q.1 h2 h3 q.2 xs.length 0 0 (by omega) (by omega) (by omega)) (by simp))
      · rw [if_neg (fun c => h3 c.2.2), decide_eq_false h3]
        exact ev_ifp (by simp) (Ev.now _)
    · rw [if_neg (fun c => h2 c.2.1)]
      refine ev_ifn (by simp [h2]) (ev_succ ?_)
      simp only [impl_OvenTime.j0]
      exact ev_ifp (by simp) (Ev.now _)
  · rw [if_neg (fun c => h c.1)]
    refine ev_ifn h (ev_succ ?_)
    simp only [impl_OvenTime.j0]
    exact ev_ifp (by simp) (Ev.now _)
theorem impl_LeastRoom_l0 (xs : List S39) (l m : Int) (n : Nat) : ∀ r : Int, 1 ≤ r → r ≤ 501 → 501 - r < n → Ev (fun k => impl_LeastRoom.l0 k xs l m r) (pRoomL (pr_impl_Batch xs) l m n r) := by
  induction n with
  | zero => intro r h0 h1 h2; omega
  | succ n ih =>
    intro r h0 h1 h2
    refine ev_succ ?_
    simp only [impl_LeastRoom.l0]
    unfold pRoomL
    by_cases h : r ≤ 500
    · rw [if_pos h]
      refine ev_ifp h (Ev.bind (impl_OvenTime_ev xs r l) ?_)
      by_cases h3 : pOvenTime (pr_impl_Batch xs) r l ≤ m
      · rw [if_pos h3]
        exact ev_ifp h3 (Ev.now _)
      · rw [if_neg h3, w64 (n := r + 1) (by omega) (by omega)]
        exact ev_ifn h3 (ih _ (by omega) (by omega) (by omega))
    · rw [if_neg h]
      exact ev_ifn h (Ev.now _)
theorem impl_LeastRoom_ev (xs : List S39) (l m : Int) : Ev (fun k => impl_LeastRoom.f k xs l m) (pLeastRoom (pr_impl_Batch xs) l m) := by
  unfold impl_LeastRoom.f pLeastRoom
  simp only [impl_in_eq, Option.bind_some]
  refine Ev.bind (impl_OvenTime_ev xs 500 l) ?_
  by_cases h : pOvenTime (pr_impl_Batch xs) 500 l < 0
  · rw [if_pos (.inl h)]
    refine ev_ifp h (ev_succ ?_)
    simp only [impl_LeastRoom.j0]
    exact ev_ifp (by simp) (Ev.now _)
  · refine ev_ifn h (ev_succ ?_)
    simp only [impl_LeastRoom.j0]
    by_cases h2 : 0 ≤ m ∧ m ≤ 100000
    · rw [if_neg (show ¬ (pOvenTime (pr_impl_Batch xs) 500 l < 0 ∨ ¬ (0 ≤ m ∧ m ≤ 100000)) by omega), decide_eq_true h2]
      exact ev_ifn (by decide) (impl_LeastRoom_l0 xs l m 502 1 (by omega) (by omega) (by omega))
    · rw [if_pos (.inr h2), decide_eq_false h2]
      exact ev_ifp (by simp) (Ev.now _)
theorem impl_EmptyPlaces_l0 (xs : List S39) (r : Int) (hn : xs.length ≤ 10) (hr : 1 ≤ r ∧ r ≤ 500) (hok : (pr_impl_Batch xs).all (fun p => pBatchOk p.1 p.2) = true) (d : Nat) : ∀ (j : Nat) (acc : Int), j + d = xs.length → 0 ≤ acc → acc ≤ 500 * j → Ev (fun k => impl_EmptyPlaces.l0 k r acc xs (xs.length : Int) j) (acc + pEmpty r ((pr_impl_Batch xs).drop j)) := by
  induction d with
  | zero =>
    intro j acc hj h0 h1
    refine ev_succ ?_
    simp only [impl_EmptyPlaces.l0]
    rw [List.drop_of_length_le (by rw [pr_impl_Batch_length]; omega)]
    exact ev_ifn (by omega) (ev_const (by simp [pEmpty]))
  | succ d ih =>
    intro j acc hj h0 h1
    refine ev_succ ?_
    simp only [impl_EmptyPlaces.l0, impl_LoadsOf_eq, Option.bind_some]
    have g := pr_impl_Batch_ok (p := fun p => pBatchOk p.1 p.2) hok j (by omega)
    have g2 := empty1_range (p := ((xs[j]).f0, (xs[j]).f1)) g hr
    have g3 := pBatchOk_range (p := ((xs[j]).f0, (xs[j]).f1)) g
    dsimp only at g g2 g3
    rw [pr_impl_Batch_drop xs j (by omega), rd_impl_Batch xs j (by omega), wnext (n := xs.length) (by omega) (by omega), pLoadsOf_ok g hr, w64 (n := pUp (xs[j]).f0 r * r) (by omega) (by omega), w64 (n := pUp (xs[j]).f0 r * r - (xs[j]).f0) (by omega) (by omega), w64 (n := acc + (pUp (xs[j]).f0 r * r - (xs[j]).f0)) (by omega) (by omega)]
    exact ev_ifp (by omega) (ev_ifp (by omega) (ev_ifp (by omega) (ev_eq (ih (j + 1) _ (by omega) (by omega) (by omega)) (by simp only [pEmpty]; omega))))
theorem impl_EmptyPlaces_ev (xs : List S39) (r : Int) : Ev (fun k => impl_EmptyPlaces.f k xs r) (pEmptyPlaces (pr_impl_Batch xs) r) := by
  unfold impl_EmptyPlaces.f pEmptyPlaces
  simp only [impl_in_eq, impl_BatchesOk_eq, Option.bind_some]
  by_cases h : pBatchesOk (pr_impl_Batch xs) = true
  · refine ev_ifp h (ev_succ ?_)
    simp only [impl_EmptyPlaces.j0]
    by_cases h2 : 1 ≤ r ∧ r ≤ 500
    · have q := pBatchesOk_split h
      rw [pr_impl_Batch_length] at q
      rw [if_pos ⟨h, h2⟩, decide_eq_true h2]
      exact ev_ifn (by decide) (ev_eq (impl_EmptyPlaces_l0 xs r q.1 h2 q.2 xs.length 0 0 (by omega) (by omega) (by omega)) (by simp))
    · rw [if_neg (fun c => h2 c.2), decide_eq_false h2]
      exact ev_ifp (by simp) (Ev.now _)
  · rw [if_neg (fun c => h c.1)]
    refine ev_ifn h (ev_succ ?_)
    simp only [impl_EmptyPlaces.j0]
    exact ev_ifp (by simp) (Ev.now _)
theorem laws_big_eq (xs : List Int) : laws_big.f xs = some (decide ((xs.length : Int) > 1048576)) := rfl
theorem spec_l01Byte_some (b : List Int) (i h : Int) (hb : b.length ≤ 4611686018427387904) (hi : 0 ≤ i) : ∃ x i' h', spec_l01Byte.f b i h = some (x, i', h') ∧ (0 ≤ x ∧ x ≤ 255) ∧ 0 ≤ i' := by
  unfold spec_l01Byte.f
  by_cases h1 : i < b.length
  · rw [if_pos h1, if_pos hi, w64 (n := i + 1) (by omega) (by omega)]
    exact ⟨_, _, _, rfl, and255 _, by omega⟩
  · rw [if_neg h1]
    exact ⟨_, _, _, rfl, and255 _, hi⟩
theorem spec_l01Below_some (b : List Int) (i h n : Int) (hb : b.length ≤ 4611686018427387904) (hi : 0 ≤ i) : ∃ r i' h', spec_l01Below.f b i h n = some (r, i', h') ∧ 0 ≤ r ∧ (1 ≤ n → r < n) ∧ 0 ≤ i' := by
  unfold spec_l01Below.f
  by_cases h1 : n ≤ 0
  · rw [if_pos h1]
    exact ⟨_, _, _, rfl, by omega, by omega, hi⟩
  · rw [if_neg h1]
    obtain ⟨x, i1, h1', e1, p1, q1⟩ := spec_l01Byte_some b i h hb hi
    by_cases h2 : n ≤ 256
    · rw [if_pos h2, e1]
      simp only [Option.bind_some]
      rw [if_neg (show ¬ n = 0 by omega)]
      have := tmod_range p1.1 (show 1 ≤ n by omega)
      exact ⟨_, _, _, rfl, this.1, fun _ => this.2, q1⟩
    · rw [if_neg h2, e1]
      simp only [Option.bind_some]
      obtain ⟨y, i2, h2', e2, p2, q2⟩ := spec_l01Byte_some b i1 h1' hb q1
      rw [e2]
      simp only [Option.bind_some]
      obtain ⟨z, i3, h3', e3, p3, q3⟩ := spec_l01Byte_some b i2 h2' hb q2
      rw [e3]
      simp only [Option.bind_some]
      obtain ⟨v, i4, h4', e4, p4, q4⟩ := spec_l01Byte_some b i3 h3' hb q3
      rw [e4]
      simp only [Option.bind_some]
      rw [if_neg (show ¬ n = 0 by omega)]
      have h0 : 0 ≤ wrap64 (wrap64 (wrap64 (wrap64 (x * 16777216) + wrap64 (y * 65536)) + wrap64 (z * 256)) + v) := by
        rw [w64 (n := x * 16777216) (by omega) (by omega), w64 (n := y * 65536) (by omega) (by omega), w64 (n := z * 256) (by omega) (by omega), w64 (n := x * 16777216 + y * 65536) (by omega) (by omega), w64 (n := x * 16777216 + y * 65536 + z * 256) (by omega) (by omega), w64 (by omega) (by omega)]
        omega
      have := tmod_range h0 (show 1 ≤ n by omega)
      exact ⟨_, _, _, rfl, this.1, fun _ => this.2, q4⟩
def pBakeOk (p : Int × Int) : Bool := decide ((1 ≤ p.1 ∧ p.1 ≤ 60) ∧ (15 ≤ p.2 ∧ p.2 ≤ 40))
theorem spec_l07List_l0 (b : List Int) (hb : b.length ≤ 4611686018427387904) (n : Nat) (hn : n ≤ 6) (d : Nat) : ∀ (j : Nat) (out : List S39) (i h : Int), j + d = n → 0 ≤ i → out.length = j → (pr_impl_Batch out).all pBakeOk = true → ∃ ys i' h', Ev (fun k => spec_l07List.l0 k out n j b i h) (ys, i', h') ∧ 0 ≤ i' ∧ ys.length = n ∧ (pr_impl_Batch ys).all pBakeOk = true := by
  induction d with
  | zero =>
    intro j out i h hj hi ho hok
    refine ⟨out, i, h, ev_succ ?_, hi, by omega, hok⟩
    simp only [spec_l07List.l0]
    exact ev_ifn (by omega) (Ev.now _)
  | succ d ih =>
    intro j out i h hj hi ho hok
    obtain ⟨x, i1, h1, e1, p1, p1', q1⟩ := spec_l01Below_some b i h 60 hb hi
    obtain ⟨y, i2, h2, e2, p2, p2', q2⟩ := spec_l01Below_some b i1 h1 6 hb q1
    have p1'' := p1' (by omega)
    have p2'' := p2' (by omega)
    obtain ⟨ys, i', h', hE, r1, r2, r3⟩ := ih (j + 1) (out ++ [(⟨1 + x, 15 + 5 * y⟩ : S39)]) i2 h2 (by omega) q2 (by simp [ho]) (by
      simp only [pr_impl_Batch, List.map_append, List.all_append, List.map_cons, List.map_nil, List.all_cons, List.all_nil, Bool.and_true, Bool.and_eq_true] at hok ⊢
      refine ⟨hok, ?_⟩
      simp only [pBakeOk, decide_eq_true_eq]
      omega)
    refine ⟨ys, i', h', ev_succ ?_, r1, r2, r3⟩
    simp only [spec_l07List.l0, e1, e2, Option.bind_some]
    rw [w64 (n := 1 + x) (by omega) (by omega), w64 (n := 5 * y) (by omega) (by omega), w64 (n := 15 + 5 * y) (by omega) (by omega), wnext (n := n) (by omega) (by omega)]
    exact ev_ifp (by omega) (ev_ifp (by omega) hE)
theorem spec_l07List_ev (b : List Int) (i h : Int) (hb : b.length ≤ 4611686018427387904) (hi : 0 ≤ i) : ∃ ys i' h', Ev (fun k => spec_l07List.f k b i h) (ys, i', h') ∧ 0 ≤ i' ∧ ys.length ≤ 6 ∧ (pr_impl_Batch ys).all pBakeOk = true := by
  unfold spec_l07List.f
  obtain ⟨x, i1, h1, e1, p1, p1', q1⟩ := spec_l01Below_some b i h 7 hb hi
  have p1'' := p1' (by omega)
  obtain ⟨n, hn⟩ := Int.eq_ofNat_of_zero_le p1
  obtain ⟨ys, i', h', hE, r1, r2, r3⟩ := spec_l07List_l0 b hb n (by omega) n 0 [] i1 h1 (by omega) q1 rfl rfl
  refine ⟨ys, i', h', ?_, r1, by omega, r3⟩
  simp only [e1, Option.bind_some, hn]
  exact hE
theorem spec_l01New_l0 (xs : List Int) (hn : xs.length ≤ 4611686018427387904) (d : Nat) : ∀ (j : Nat) (h : Int), j + d = xs.length → ∃ h', Ev (fun k => spec_l01New.l0 k xs h j) (xs, 0, h') := by
  induction d with
  | zero =>
    intro j h hj
    refine ⟨h, ev_at 1 fun k => ?_⟩
    simp only [spec_l01New.l0]
    rw [if_neg (by omega)]
  | succ d ih =>
    intro j h hj
    by_cases h4 : (j : Int) < 4000
    · obtain ⟨h', he⟩ := ih (j + 1) (Go.bits .and .i64 (wrap64 ((wrap64 ((wrap64 (h * 131)) + (wrap64 (rd xs j)))) + 7)) 1073741823) (by omega)
      refine ⟨h', Ev.step (f := fun k => spec_l01New.l0 k xs (Go.bits .and .i64 (wrap64 ((wrap64 ((wrap64 (h * 131)) + (wrap64 (rd xs j)))) + 7)) 1073741823) ((j + 1 : Nat) : Int)) (fun k => ?_) he⟩
      simp only [spec_l01New.l0]
      rw [if_pos (by omega), if_pos h4, if_pos (by omega), wnext (n := xs.length) (by omega) hn]
    · refine ⟨h, ev_at 1 fun k => ?_⟩
      simp only [spec_l01New.l0]
      rw [if_pos (by omega), if_neg h4]
theorem spec_l01New_ev (xs : List Int) (hn : xs.length ≤ 4611686018427387904) : ∃ h, Ev (fun k => spec_l01New.f k xs) (xs, 0, h) := by
  unfold spec_l01New.f
  exact spec_l01New_l0 xs hn xs.length 0 _ (by omega)
theorem spec_DrawBatches_ev (xs : List Int) (hb : xs.length ≤ 4611686018427387904) : ∃ a, Ev (fun k => spec_DrawBatches.f k xs) a ∧ a.length ≤ 6 ∧ (pr_impl_Batch a).all pBakeOk = true := by
  obtain ⟨h, hN⟩ := spec_l01New_ev xs hb
  unfold spec_DrawBatches.f
  obtain ⟨a, i1, h1, e1, q1, l1, o1⟩ := spec_l07List_ev xs 0 h hb (by omega)
  exact ⟨a, Ev.bind hN (Ev.bind e1 (Ev.now _)), l1, o1⟩
theorem laws_at_some (xs : List Int) (a : Int) (hb : xs.length ≤ 1048576) (ha : 0 ≤ a ∧ a ≤ 1000) (hx : ∀ x ∈ xs, (Lit.int .u8 x).wf = true) : ∃ v, laws_at.f xs a = some v ∧ 0 ≤ v ∧ v ≤ 255 := by
  unfold laws_at.f
  by_cases h : (xs.length : Int) = 0
  · rw [if_pos h]
    exact ⟨0, rfl, by omega, by omega⟩
  · rw [if_neg h, w64 (n := a * 5) (by omega) (by omega), w64 (n := a * 5 + 1) (by omega) (by omega)]
    have h2 := tmod_range (x := a * 5 + 1) (n := (xs.length : Int)) (by omega) (by omega)
    rw [if_pos h2.1, if_pos h2.2]
    obtain ⟨j, hj⟩ := Int.eq_ofNat_of_zero_le h2.1
    rw [hj] at h2 ⊢
    have hj2 : j < xs.length := by omega
    rw [rd_nat xs j hj2]
    have h3 := wf8 (hx _ (List.getElem_mem hj2))
    exact ⟨_, rfl, by rw [w64 (by omega) (by omega)]; exact h3⟩
open Go.Proofs.Ytjkpdpggnapmlaa.Hand (sumM addB mergeB sumM_append pJoinFrom mem_joinFrom rising_joinFrom joinFrom_length)
theorem sumM_range (m : Int) : ∀ xs : List (Int × Int), pAllOk xs = true → 0 ≤ sumM m xs ∧ sumM m xs ≤ 500 * xs.length
  | [], _ => by simp [sumM]
  | p :: t, h => by
    simp only [pAllOk, List.all_cons, Bool.and_eq_true] at h
    have h1 := pBatchOk_range h.1
    have h2 := sumM_range m t h.2
    simp only [sumM, List.length_cons]
    split <;> omega
def mkB (l : List (Int × Int)) : List S39 := l.map fun p => ⟨p.1, p.2⟩
theorem impl_JoinSame_eq (xs : List S39) : impl_JoinSame.f xs = some (if pBatchesOk (pr_impl_Batch xs) = true then mkB (pJoinFrom (pr_impl_Batch xs) 200 1) else []) := by
  have h := impl_BatchesOk_eq xs
  unfold impl_BatchesOk.f at h
  unfold impl_JoinSame.f
  rw [Option.some.inj h]
  rfl
theorem bake_ok : ∀ {xs : List (Int × Int)}, xs.all pBakeOk = true → pAllOk xs = true
  | [], _ => rfl
  | p :: t, h => by
    simp only [List.all_cons, Bool.and_eq_true, pBakeOk, decide_eq_true_eq] at h
    have := bake_ok h.2
    simp only [pAllOk, List.all_cons, Bool.and_eq_true] at this ⊢
    refine ⟨?_, this⟩
    simp only [pBatchOk, decide_eq_true_eq]
    omega
def sumL : List (Int × Int) → Int
  | [] => 0
  | p :: t => p.1 + sumL t
def sumU (r : Int) : List (Int × Int) → Int
  | [] => 0
  | p :: t => pUp p.1 r + sumU r t
theorem sumL_range : ∀ (xs : List (Int × Int)), xs.all pBakeOk = true → 0 ≤ sumL xs ∧ sumL xs ≤ 60 * xs.length
  | [], _ => by simp [sumL]
  | p :: t, h => by
    simp only [List.all_cons, Bool.and_eq_true, pBakeOk, decide_eq_true_eq] at h
    have := sumL_range t h.2
    simp only [sumL, List.length_cons]
    omega
theorem sumU_range {r : Int} (hr : 1 ≤ r) : ∀ (xs : List (Int × Int)), xs.all pBakeOk = true → 0 ≤ sumU r xs ∧ sumU r xs ≤ 60 * xs.length
  | [], _ => by simp [sumU]
  | p :: t, h => by
    simp only [List.all_cons, Bool.and_eq_true, pBakeOk, decide_eq_true_eq] at h
    have := sumU_range hr t h.2
    have h2 := pUp_props (a := p.1) (b := r) (by omega) hr
    simp only [sumU, List.length_cons]
    omega
theorem pEmpty_eq (r : Int) : ∀ (xs : List (Int × Int)), pEmpty r xs = sumU r xs * r - sumL xs
  | [] => by simp [pEmpty, sumU, sumL]
  | p :: t => by
    simp only [pEmpty, sumU, sumL, pEmpty_eq r t, Int.add_mul]
    omega
theorem pEmpty_nonneg {r : Int} (hr : 1 ≤ r ∧ r ≤ 500) : ∀ (xs : List (Int × Int)), pAllOk xs = true → 0 ≤ pEmpty r xs
  | [], _ => by simp [pEmpty]
  | p :: t, h => by
    simp only [pAllOk, List.all_cons, Bool.and_eq_true] at h
    have h1 := empty1_range h.1 hr
    have h2 := pEmpty_nonneg hr t h.2
    simp only [pEmpty]
    omega
theorem sumM_le : ∀ (xs : List (Int × Int)) (m : Int), xs.all pBakeOk = true → 0 ≤ sumM m xs ∧ sumM m xs ≤ sumL xs
  | [], m, _ => by simp [sumM, sumL]
  | p :: t, m, h => by
    simp only [List.all_cons, Bool.and_eq_true, pBakeOk, decide_eq_true_eq] at h
    have := sumM_le t m h.2
    simp only [sumM, sumL]
    split <;> omega
/-- The sum over the minutes m, m + 1, .. (d of them). -/
def sumT (xs : List (Int × Int)) : Nat → Int → Int
  | 0, _ => 0
  | d + 1, m => sumM m xs + sumT xs d (m + 1)
theorem sumT_cons (p : Int × Int) (t : List (Int × Int)) (d : Nat) : ∀ m, sumT (p :: t) d m = (if m ≤ p.2 ∧ p.2 < m + d then p.1 else 0) + sumT t d m := by
  induction d with
  | zero => intro m; simp only [sumT]; rw [if_neg (by omega)]; rfl
  | succ d ih =>
    intro m
    simp only [sumT, sumM, ih (m + 1)]
    by_cases e : p.2 = m
    · rw [if_pos e, if_neg (by omega), if_pos (by omega)]
      omega
    · rw [if_neg e]
      by_cases e2 : m + 1 ≤ p.2 ∧ p.2 < m + 1 + d
      · rw [if_pos e2, if_pos (by omega)]
        omega
      · rw [if_neg e2, if_neg (by omega)]
        omega
theorem sumT_all : ∀ (xs : List (Int × Int)), xs.all pBakeOk = true → sumT xs 200 1 = sumL xs
  | [], _ => by
    have : ∀ d m, sumT [] d m = 0 := by
      intro d
      induction d with
      | zero => intro m; rfl
      | succ d ih => intro m; simp [sumT, sumM, ih]
    rw [this]
    rfl
  | p :: t, h => by
    simp only [List.all_cons, Bool.and_eq_true, pBakeOk, decide_eq_true_eq] at h
    rw [sumT_cons, sumT_all t h.2, if_pos (by omega)]
    rfl
theorem sumL_join (xs : List (Int × Int)) (h : ∀ m, 0 ≤ sumM m xs ∧ sumM m xs ≤ 500) (d : Nat) : ∀ m, sumL (pJoinFrom xs d m) = sumT xs d m := by
  induction d with
  | zero => intro m; rfl
  | succ d ih =>
    intro m
    have hm := h m
    simp only [pJoinFrom, sumT]
    by_cases c : sumM m xs > 0
    · rw [if_pos c]
      simp only [sumL, ih]
      unfold mn
      split <;> omega
    · rw [if_neg c, ih]
      omega
theorem join_len_cons (p : Int × Int) (t : List (Int × Int)) (d : Nat) : ∀ m, ((m ≤ p.2 → (pJoinFrom (p :: t) d m).length ≤ (pJoinFrom t d m).length + 1) ∧ (p.2 < m → (pJoinFrom (p :: t) d m).length = (pJoinFrom t d m).length)) := by
  induction d with
  | zero => intro m; exact ⟨fun _ => by simp [pJoinFrom], fun _ => rfl⟩
  | succ d ih =>
    intro m
    obtain ⟨h1, h2⟩ := ih (m + 1)
    constructor
    · intro hm
      simp only [pJoinFrom]
      by_cases e : p.2 = m
      · have := h2 (by omega)
        split <;> split <;> (try simp only [List.length_cons]) <;> omega
      · have := h1 (by omega)
        have es : sumM m (p :: t) = sumM m t := by simp [sumM, e]
        rw [es]
        split <;> (try simp only [List.length_cons]) <;> omega
    · intro hm
      have := h2 (by omega)
      have es : sumM m (p :: t) = sumM m t := by simp [sumM, show ¬ p.2 = m by omega]
      simp only [pJoinFrom]
      rw [es]
      split <;> (try simp only [List.length_cons]) <;> omega
theorem join_len : ∀ (xs : List (Int × Int)) (d : Nat) (m : Int), (pJoinFrom xs d m).length ≤ xs.length
  | [], d, m => by
    have : ∀ d m, pJoinFrom [] d m = [] := by
      intro d
      induction d with
      | zero => intro m; rfl
      | succ d ih => intro m; simp [pJoinFrom, sumM, ih]
    rw [this]
    simp
  | p :: t, d, m => by
    obtain ⟨h1, h2⟩ := join_len_cons p t d m
    have := join_len t d m
    simp only [List.length_cons]
    by_cases c : m ≤ p.2
    · have := h1 c
      omega
    · have := h2 (by omega)
      omega
theorem join_ok (xs : List (Int × Int)) (hx : xs.all pBakeOk = true) (hl : xs.length ≤ 6) : pBatchesOk (pJoinFrom xs 200 1) = true := by
  have h1 := join_len xs 200 1
  unfold pBatchesOk
  rw [decide_eq_true (by omega), Bool.true_and]
  unfold pAllOk
  rw [List.all_eq_true]
  intro p hp
  rw [mem_joinFrom] at hp
  have h2 := sumL_range xs hx
  have h3 := sumM_le xs p.2 hx
  obtain ⟨a, b, c⟩ := hp
  rw [c]
  simp only [pBatchOk, decide_eq_true_eq]
  unfold mn
  split <;> omega
theorem pr_mkB (l : List (Int × Int)) : pr_impl_Batch (mkB l) = l := by
  unfold pr_impl_Batch mkB
  rw [List.map_map]
  exact (List.map_congr_left (fun p _ => rfl)).trans (List.map_id _)
theorem ovens_l1 (r n e A B C : Int) (js : List S39) (hl : js.length ≤ 10) (hA : 0 ≤ A ∧ A ≤ 360) (hr : 1 ≤ r ∧ r ≤ 80) (hB : 0 ≤ B ∧ B ≤ 360) (hC : C = n) (he : e = A * r - B) (hs : sumL (pr_impl_Batch js) = B) (h0 : ∀ p ∈ pr_impl_Batch js, 0 ≤ p.1) (hok : pBatchesOk (pr_impl_Batch js) = true)
    (hri : (pr_impl_Batch js).Pairwise (fun a b => a.2 < b.2)) (d : Nat) : ∀ (j : Nat) (acc : Int), j + d = js.length → 0 ≤ acc → acc + sumL ((pr_impl_Batch js).drop j) = B → Ev (fun k => laws_FnOvens.l1 k r n e A B C js acc j) true := by
  have hAr := mul_range hA (show 0 ≤ r ∧ r ≤ 80 by omega)
  induction d with
  | zero =>
    intro j acc hj ha hb
    rw [List.drop_of_length_le (by rw [pr_impl_Batch_length]; omega)] at hb
    simp only [sumL] at hb
    refine ev_succ ?_
    simp only [laws_FnOvens.l1, impl_BatchesOk_eq, Option.bind_some]
    rw [w64 (n := A * r) (by omega) (by omega), w64 (n := A * r - B) (by omega) (by omega)]
    exact ev_ifn (by omega) (ev_ifp hC (ev_ifp he (ev_ifp (by omega) (ev_const (by rw [hok])))))
  | succ d ih =>
    intro j acc hj ha hb
    rw [pr_impl_Batch_drop js j (by omega)] at hb
    simp only [sumL] at hb
    have hnn : 0 ≤ sumL ((pr_impl_Batch js).drop (j + 1)) := by
      have : ∀ l : List (Int × Int), (∀ p ∈ l, 0 ≤ p.1) → 0 ≤ sumL l := by
        intro l
        induction l with
        | nil => intro _; simp [sumL]
        | cons a t ih =>
          intro h
          have h1 := h a (by simp)
          have h2 := ih (fun p hp => h p (by simp [hp]))
          simp only [sumL]
          omega
      exact this _ (fun p hp => h0 p (List.mem_of_mem_drop hp))
    have hj0 := h0 ((js[j]'(by omega)).f0, (js[j]'(by omega)).f1) (by rw [← pr_impl_Batch_get js j (by omega)]; exact List.getElem_mem _)
    dsimp only at hj0
    have hn := ih (j + 1) (acc + (js[j]'(by omega)).f0) (by omega) (by omega) (by omega)
    refine ev_succ ?_
    simp only [laws_FnOvens.l1]
    rw [rd_impl_Batch js j (by omega), w64 (n := acc + (js[j]'(by omega)).f0) (by omega) (by omega), wnext (n := js.length) (by omega) (by omega)]
    refine ev_ifp (by omega) (ev_ifp (by omega) ?_)
    by_cases c : (j : Int) > 0
    · obtain ⟨i, rfl⟩ : ∃ i, j = i + 1 := ⟨j - 1, by omega⟩
      rw [show wrap64 (((i + 1 : Nat) : Int) - 1) = (i : Int) by rw [w64 (by omega) (by omega)]; omega, rd_impl_Batch js i (by omega)]
      have hlt : (js[i]'(by omega)).f1 < (js[i + 1]'(by omega)).f1 := by
        have := List.pairwise_iff_getElem.1 hri i (i + 1) (by rw [pr_impl_Batch_length]; omega) (by rw [pr_impl_Batch_length]; omega) (by omega)
        rw [pr_impl_Batch_get js i (by omega), pr_impl_Batch_get js (i + 1) (by omega)] at this
        exact this
      exact ev_ifp c (ev_ifp (by omega) (ev_ifp (by omega) (ev_ifn (by omega) hn)))
    · exact ev_ifn c hn
theorem ovens_l0 (ys : List S39) (r load n e : Int) (hl : ys.length ≤ 6) (hx : (pr_impl_Batch ys).all pBakeOk = true) (hr : 1 ≤ r ∧ r ≤ 80) (hld : 0 ≤ load ∧ load ≤ 9)
    (cont : Ev (fun k => laws_FnOvens.l1 k r n e (sumU r (pr_impl_Batch ys)) (sumL (pr_impl_Batch ys)) (pOven r load (pr_impl_Batch ys)) (mkB (pJoinFrom (pr_impl_Batch ys) 200 1)) 0 0) true) (hb : pBatchesOk (pr_impl_Batch ys) = true) (d : Nat) :
    ∀ (j : Nat) (a b c : Int), j + d = ys.length → (0 ≤ a ∧ a + sumU r ((pr_impl_Batch ys).drop j) = sumU r (pr_impl_Batch ys)) → (0 ≤ b ∧ b + sumL ((pr_impl_Batch ys).drop j) = sumL (pr_impl_Batch ys)) → (0 ≤ c ∧ c + pOven r load ((pr_impl_Batch ys).drop j) = pOven r load (pr_impl_Batch ys)) →
      Ev (fun k => laws_FnOvens.l0 k ys r load n e a b c j) true := by
  have u1 := sumU_range hr.1 _ hx
  have u2 := sumL_range _ hx
  have u3 := pOven_range (r := r) (l := load) (by omega) (by omega) _ (bake_ok hx)
  rw [pr_impl_Batch_length] at u1 u2 u3
  induction d with
  | zero =>
    intro j a b c hj ha hb2 hc
    rw [List.drop_of_length_le (by rw [pr_impl_Batch_length]; omega)] at ha hb2 hc
    simp only [sumU, sumL, pOven] at ha hb2 hc
    obtain rfl : a = sumU r (pr_impl_Batch ys) := by omega
    obtain rfl : b = sumL (pr_impl_Batch ys) := by omega
    obtain rfl : c = pOven r load (pr_impl_Batch ys) := by omega
    refine ev_succ ?_
    simp only [laws_FnOvens.l0, impl_JoinSame_eq, Option.bind_some]
    rw [if_pos hb]
    exact ev_ifn (by omega) cont
  | succ d ih =>
    intro j a b c hj ha hb2 hc
    have hp := pr_impl_Batch_ok (p := pBakeOk) hx j (by omega)
    have hpb := pr_impl_Batch_ok (p := fun p => pBatchOk p.1 p.2) (bake_ok hx) j (by omega)
    have t1 := (sumU_range hr.1 _ (all_drop hx (j + 1))).1
    have t2 := (sumL_range _ (all_drop hx (j + 1))).1
    have t3 := (pOven_range (r := r) (l := load) (by omega) (by omega) _ (bake_ok (all_drop hx (j + 1)))).1
    rw [pr_impl_Batch_drop ys j (by omega)] at ha hb2 hc
    simp only [sumU, sumL, pOven] at ha hb2 hc
    generalize hyj : ys[j]'(by omega) = y at ha hb2 hc hp hpb
    simp only [pBakeOk, decide_eq_true_eq] at hp
    have hu := pUp_props (a := y.f0) (b := r) (by omega) hr.1
    have hm := mul_range (a := pUp y.f0 r) (b := y.f1 + load) (m := 60) (n := 50) (by omega) (by omega)
    have hm2 := mul_range (a := pUp y.f0 r) (b := r) (m := 60) (n := 80) (by omega) (by omega)
    have hm3 : (pUp y.f0 r - 1) * r = pUp y.f0 r * r - r := by rw [Int.sub_mul, Int.one_mul]
    have hn := ih (j + 1) (a + pUp y.f0 r) (b + y.f0) (c + pUp y.f0 r * (y.f1 + load)) (by omega) (by omega) (by omega) (by omega)
    refine ev_succ ?_
    simp only [laws_FnOvens.l0, impl_LoadsOf_eq, Option.bind_some]
    rw [rd_impl_Batch ys j (by omega), hyj, pLoadsOf_ok hpb (by omega)]
    rw [w64 (n := pUp y.f0 r * r) (by omega) (by omega), w64 (n := pUp y.f0 r - 1) (by omega) (by omega), w64 (n := (pUp y.f0 r - 1) * r) (by omega) (by omega), w64 (n := a + pUp y.f0 r) (by omega) (by omega), w64 (n := b + y.f0) (by omega) (by omega), w64 (n := y.f1 + load) (by omega) (by omega), w64 (n := pUp y.f0 r * (y.f1 + load)) (by omega) (by omega), w64 (n := c + pUp y.f0 r * (y.f1 + load)) (by omega) (by omega), wnext (n := ys.length) (by omega) (by omega)]
    exact ev_ifp (by omega) (ev_ifp (by omega) (ev_ifn (by omega) (ev_ifn (by omega) hn)))
/-- What LeastRoom answers. -/
theorem pRoomL_cases {xs : List (Int × Int)} {l m : Int} (n : Nat) : ∀ x : Int, 1 ≤ x → 501 - x < n → x ≤ 501 → (pRoomL xs l m n x = -1 ∧ (∀ g, x ≤ g → g ≤ 500 → ¬ pOvenTime xs g l ≤ m)) ∨ (x ≤ pRoomL xs l m n x ∧ pRoomL xs l m n x ≤ 500 ∧ pOvenTime xs (pRoomL xs l m n x) l ≤ m ∧ (∀ g, x ≤ g → g < pRoomL xs l m n x → ¬ pOvenTime xs g l ≤ m)) := by
  induction n with
  | zero => intro x h1 h2 h3; omega
  | succ n ih =>
    intro x h1 h2 h3
    unfold pRoomL
    by_cases c : x ≤ 500
    · rw [if_pos c]
      by_cases e : pOvenTime xs x l ≤ m
      · rw [if_pos e]
        exact Or.inr ⟨by omega, c, e, fun g hg hg2 => by omega⟩
      · rw [if_neg e]
        rcases ih (x + 1) (by omega) (by omega) (by omega) with ⟨a, b⟩ | ⟨a, b, c2, d⟩
        · refine Or.inl ⟨a, fun g hg hg2 => ?_⟩
          by_cases hgx : g = x
          · subst hgx; exact e
          · exact b g (by omega) hg2
        · refine Or.inr ⟨by omega, b, c2, fun g hg hg2 => ?_⟩
          by_cases hgx : g = x
          · subst hgx; exact e
          · exact d g (by omega) hg2
    · rw [if_neg c]
      exact Or.inl ⟨rfl, fun g hg hg2 => by omega⟩
theorem FnOvens : laws_FnOvens.Pure := by
  intro l0 hm _ hx
  refine Ev.rounds (g := fun k => laws_FnOvens.f k l0) ?_
  unfold laws_FnOvens.f
  simp only [laws_big_eq, Option.bind_some]
  by_cases h : (l0.length : Int) > 1048576
  · simp only [decide_eq_true h, if_true]
    exact Ev.now _
  · simp only [decide_eq_false h, Bool.false_eq_true, if_false]
    obtain ⟨ys, hd, la, oa⟩ := spec_DrawBatches_ev l0 (by omega)
    obtain ⟨v0, e0, b0⟩ := laws_at_some l0 0 (by omega) (by omega) hx
    obtain ⟨v1, e1, b1⟩ := laws_at_some l0 1 (by omega) (by omega) hx
    obtain ⟨v2, e2, b2⟩ := laws_at_some l0 2 (by omega) (by omega) hx
    rw [e0, e1, e2]
    simp only [Option.bind_some]
    have r0 := tmod_range (x := v0) (n := 80) (by omega) (by omega)
    have r1 := tmod_range (x := v1) (n := 10) (by omega) (by omega)
    rw [w64 (n := 1 + Int.tmod v0 80) (by omega) (by omega), w64 (n := v2 * 4) (by omega) (by omega), w64 (n := 1 + Int.tmod v0 80 + 1) (by omega) (by omega)]
    generalize hR : 1 + Int.tmod v0 80 = r
    generalize hL : Int.tmod v1 10 = load at r1 ⊢
    generalize hM : v2 * 4 = m
    have hr : 1 ≤ r ∧ r ≤ 80 := by omega
    have hload : 0 ≤ load ∧ load ≤ 9 := by omega
    have hmm : 0 ≤ m ∧ m ≤ 1020 := by omega
    clear e0 e1 e2 r0 r1 hR hL hM b0 b1 b2
    have hok := bake_ok oa
    have hb : pBatchesOk (pr_impl_Batch ys) = true := by
      unfold pBatchesOk
      rw [decide_eq_true (by rw [pr_impl_Batch_length]; omega), hok]
      rfl
    have hon := pOven_range (r := r) (l := load) (by omega) (by omega) _ hok
    have hn : pOvenTime (pr_impl_Batch ys) r load = pOven r load (pr_impl_Batch ys) := by unfold pOvenTime; rw [if_pos ⟨hb, by omega, by omega⟩]
    have han := pOvenTime_anti (xs := pr_impl_Batch ys) (l := load) (r := r) (s := r + 1) ⟨hb, by omega⟩ hr.1 (by omega) (by omega)
    have hen := pEmpty_nonneg (r := r) (by omega) _ hok
    have he : pEmptyPlaces (pr_impl_Batch ys) r = pEmpty r (pr_impl_Batch ys) := by unfold pEmptyPlaces; rw [if_pos ⟨hb, by omega⟩]
    have h500 : 0 ≤ pOvenTime (pr_impl_Batch ys) 500 load := by
      unfold pOvenTime
      rw [if_pos ⟨hb, by omega, by omega⟩]
      exact (pOven_range (by omega) (by omega) _ hok).1
    have hk : pLeastRoom (pr_impl_Batch ys) load m = pRoomL (pr_impl_Batch ys) load m 502 1 := by unfold pLeastRoom; rw [if_neg (by omega)]
    have hkc := pRoomL_cases (xs := pr_impl_Batch ys) (l := load) (m := m) 502 1 (by omega) (by omega) (by omega)
    have fin : Ev (fun k => laws_FnOvens.j1 k ys r load (pOven r load (pr_impl_Batch ys)) (pEmpty r (pr_impl_Batch ys)) false) true := by
      refine ev_succ ?_
      simp only [laws_FnOvens.j1]
      refine ev_ifn (by decide) (ovens_l0 ys r load _ _ la oa hr hload ?_ hb ys.length 0 0 0 0 (by omega) (by simp) (by simp) (by simp))
      have u1 := sumU_range hr.1 _ oa
      have u2 := sumL_range _ oa
      have hjl := join_len (pr_impl_Batch ys) 200 1
      rw [pr_impl_Batch_length] at u1 u2 hjl
      have hs : sumL (pJoinFrom (pr_impl_Batch ys) 200 1) = sumL (pr_impl_Batch ys) := by
        rw [sumL_join _ (fun q => by have := sumM_le _ q oa; omega), sumT_all _ oa]
      refine ovens_l1 r _ _ _ _ _ (mkB (pJoinFrom (pr_impl_Batch ys) 200 1)) (by unfold mkB; rw [List.length_map]; omega) (by omega) hr (by omega) rfl (pEmpty_eq r _) (by rw [pr_mkB]; exact hs) ?_ (by rw [pr_mkB]; exact join_ok _ oa (by rw [pr_impl_Batch_length]; exact la)) (by rw [pr_mkB]; exact rising_joinFrom _ _ _) _ 0 0 (by rw [Nat.zero_add]) (by omega) (by rw [List.drop_zero, pr_mkB, hs]; omega)
      intro p hp
      rw [pr_mkB, mem_joinFrom] at hp
      rw [hp.2.2]
      unfold mn
      split <;> omega
    refine Ev.bind hd (Ev.bind (impl_OvenTime_ev ys r load) (Ev.bind (impl_LeastRoom_ev ys load m) (Ev.bind (impl_EmptyPlaces_ev ys r) (ev_ifn (by omega) (Ev.bind (impl_OvenTime_ev ys (r + 1) load) (ev_ifn (by omega) (ev_succ ?_)))))))
    rw [hn, hk, he]
    simp only [laws_FnOvens.j0]
    refine ev_ifn (by simp; omega) ?_
    have ht := impl_OvenTime_ev ys 500 load
    rcases hkc with ⟨k1, k2⟩ | ⟨k1, k2, k3, k4⟩
    · rw [k1]
      refine ev_ifn (by omega) (ev_ifp (by omega) (Ev.bind ht ?_))
      rw [decide_eq_false (k2 500 (by omega) (by omega))]
      exact fin
    · generalize pRoomL (pr_impl_Batch ys) load m 502 1 = kk at k1 k2 k3 k4 ⊢
      refine ev_ifp (by omega) (Ev.bind (impl_OvenTime_ev ys kk load) (ev_ifn (by omega) ?_))
      by_cases c : kk > 1
      · rw [w64 (n := kk - 1) (by omega) (by omega)]
        exact ev_ifp c (Ev.bind (impl_OvenTime_ev ys (kk - 1) load) (ev_ifn (k4 (kk - 1) (by omega) (by omega)) (ev_ifn (by omega) fin)))
      · exact ev_ifn c (ev_ifn (by omega) fin)
end Go.Proofs.Ytjkpdpggnapmlaa.Pure

/- What is proved: impl.orders, impl.leastOrder and impl.BestHeats over valid heats: the first of all orders that costs least, in a row of its own; OrderCost's own contract is a hypothesis here. -/
import Derived.Test.YtamdbkilpllfoaaHandFour
import Derived.Deep.RegionWith
import Derived.Laws.EntriesVeiled
set_option linter.unusedVariables false
set_option linter.unusedSimpArgs false
namespace Go.Proofs.Ytamdbkilpllfoaa.Hand
open Go.RowKit Go.Lib Go.Proofs.YtamdbkilpllfoaaW.PrintWords

def rowZ (n : Nat) : Array Value := madeCells (Value.int .i64 0).cells (n * 1)
theorem rowZ_size (n : Nat) : (rowZ n).size = n := by unfold rowZ; rw [size_madeCells]; omega
theorem make_row (n : Nat) (hn : n ≤ 8) (w : World) : (Instr.makeSlice 22 (.int .i64 0) (.int .i64 (n : Int))).run Try.prog w = .ok (.slice (some ⟨w.heap.size, 0, none⟩) 0 n) (w.alloc (.cells (rowZ n) 3)) := by
  obtain ⟨i3, hi3, hz3, hs3, hb3⟩ := info_parts info3
  have := run_make (P := Try.prog) w 22 3 i3 (.int .i64 0) Try.underlying22 hi3 hz3 .i64 .i64 0 (n : Int) (Int.le_refl _) (by omega) (by rw [hb3]; omega) (by omega)
  rw [hs3, Int.toNat_natCast] at this
  exact this
def envAt (w : World) (A : Option Addr) (c : Nat) (hs : List Int) (s : Int) (b0 b1 b2 b3 b4 : Nat) (W : World) : Env := ⟨w, A, c, hs, s, b0, b1, b2, b3, b4, W.heap.size, W.heap.size + 1, W.heap.size + 1 + 1, W.heap.size + 1 + 1 + 1⟩
/-- What stands ahead of the search. -/
structure Pre (w : World) (A : Option Addr) (c : Nat) (hs : List Int) (s : Int) (b0 b1 b2 b3 b4 : Nat) (W : World) : Prop where
  below : Below w.heap.size w W
  c0 : W.heap[b0]? = some (.cells #[.slice A hs.length c] 22 (0, 0))
  c1 : W.heap[b1]? = some (.cells #[.int .i64 s] 3 (0, 0))
  c2 : W.heap[b2]? = some (.cells #[.func (.func 73) #[] #[ptr b0, ptr b1]] 23 (0, 0))
  c3 : W.heap[b3]? = some (.cells #[.slice none 0 0] 22 (0, 0))
  c4 : W.heap[b4]? = some (.cells #[.int .i64 0] 3 (0, 0))
  hb : w.heap.size ≤ b0
  h0 : b0 < b1
  h1 : b1 < b2
  h2 : b2 < b3
  h3 : b3 < b4
  len : hs.length ≤ 8
  reads : Kd.C (Kd.int .i64) w A hs.length hs
  cap : hs.length ≤ c
theorem Pre.ok {w : World} {A : Option Addr} {c : Nat} {hs : List Int} {s : Int} {b0 b1 b2 b3 b4 : Nat} {W : World} (h : Pre w A c hs s b0 b1 b2 b3 b4 W) : EnvOk (envAt w A c hs s b0 b1 b2 b3 b4 W) :=
  ⟨h.hb, h.h0, h.h1, h.h2, h.h3, lt_of_block h.c4, by show W.heap.size < W.heap.size + 1; omega, by show W.heap.size + 1 < W.heap.size + 1 + 1; omega, by show W.heap.size + 1 + 1 < W.heap.size + 1 + 1 + 1; omega, h.len, h.reads, h.cap⟩
def start (n : Nat) (b2 b3 b4 : Nat) (W : World) : World :=
  ((W.alloc (.cells #[.int .i64 (n : Int)] 3)).alloc (.cells #[.func (.func 81) #[] #[.pointer (some ⟨b2, 0, none⟩), .pointer (some ⟨b3, 0, none⟩), .pointer (some ⟨b4, 0, none⟩)]] 80)).alloc
    (.cells #[.func (.func 85) #[] #[.pointer (some ⟨W.heap.size, 0, none⟩), .pointer (some ⟨W.heap.size + 1, 0, none⟩), .pointer (some ⟨W.heap.size + 1 + 1, 0, none⟩)]] 80)
theorem start_inv {w : World} {A : Option Addr} {c : Nat} {hs : List Int} {s : Int} {b0 b1 b2 b3 b4 : Nat} {W : World} (h : Pre w A c hs s b0 b1 b2 b3 b4 W) :
    Inv (envAt w A c hs s b0 b1 b2 b3 b4 W) (none, 0) [] (((start hs.length b2 b3 b4 W).alloc (.cells (rowZ hs.length) 3)).drew) := by
  have hsz1 : (W.alloc (.cells #[.int .i64 (hs.length : Int)] 3)).heap.size = W.heap.size + 1 := by simp
  have hsz2 : ((W.alloc (.cells #[.int .i64 (hs.length : Int)] 3)).alloc (.cells #[.func (.func 81) #[] #[.pointer (some ⟨b2, 0, none⟩), .pointer (some ⟨b3, 0, none⟩), .pointer (some ⟨b4, 0, none⟩)]] 80)).heap.size = W.heap.size + 1 + 1 := by simp
  have hsz : (start hs.length b2 b3 b4 W).heap.size = W.heap.size + 1 + 1 + 1 := by unfold start; simp
  have old : ∀ {k : Nat} {o : Obj}, W.heap[k]? = some o → (((start hs.length b2 b3 b4 W).alloc (.cells (rowZ hs.length) 3)).drew).heap[k]? = some o := fun hk => blk_drew (blk_alloc (blk_alloc (blk_alloc (blk_alloc hk _) _) _) _)
  have n5 : (((start hs.length b2 b3 b4 W).alloc (.cells (rowZ hs.length) 3)).drew).heap[W.heap.size]? = some (.cells #[.int .i64 (hs.length : Int)] 3 (0, 0)) := blk_drew (blk_alloc (blk_alloc (blk_alloc (blk_new W _) _) _) _)
  have n6 : (((start hs.length b2 b3 b4 W).alloc (.cells (rowZ hs.length) 3)).drew).heap[W.heap.size + 1]? = some (.cells #[.func (.func 81) #[] #[ptr b2, ptr b3, ptr b4]] 80 (0, 0)) := by
    have := blk_new (W.alloc (.cells #[.int .i64 (hs.length : Int)] 3)) (.cells #[.func (.func 81) #[] #[.pointer (some ⟨b2, 0, none⟩), .pointer (some ⟨b3, 0, none⟩), .pointer (some ⟨b4, 0, none⟩)]] 80)
    rw [hsz1] at this
    exact blk_drew (blk_alloc (blk_alloc this _) _)
  have n7 : (((start hs.length b2 b3 b4 W).alloc (.cells (rowZ hs.length) 3)).drew).heap[W.heap.size + 1 + 1]? = some (.cells #[.func (.func 85) #[] #[ptr W.heap.size, ptr (W.heap.size + 1), ptr (W.heap.size + 1 + 1)]] 80 (0, 0)) := by
    have := blk_new ((W.alloc (.cells #[.int .i64 (hs.length : Int)] 3)).alloc (.cells #[.func (.func 81) #[] #[.pointer (some ⟨b2, 0, none⟩), .pointer (some ⟨b3, 0, none⟩), .pointer (some ⟨b4, 0, none⟩)]] 80)) (.cells #[.func (.func 85) #[] #[.pointer (some ⟨W.heap.size, 0, none⟩), .pointer (some ⟨W.heap.size + 1, 0, none⟩), .pointer (some ⟨W.heap.size + 1 + 1, 0, none⟩)]] 80)
    rw [hsz2] at this
    exact blk_drew (blk_alloc this _)
  have n8 : ((start hs.length b2 b3 b4 W).alloc (.cells (rowZ hs.length) 3)).ownsRow (W.heap.size + 1 + 1 + 1) 3 1 (.slice (some ⟨W.heap.size + 1 + 1 + 1, 0, none⟩) 0 hs.length) 0 [] := by
    have := World.ownsRow_made (e := 3) (size := 1) (base := W.heap.size + 1 + 1 + 1) (start hs.length b2 b3 b4 W) (rowZ hs.length) hs.length (by omega) (by have := h.len; unfold maxLen; omega) (by rw [rowZ_size]; omega)
    rw [hsz] at this
    exact this
  refine ⟨?_, old h.c0, old h.c1, old h.c2, n5, n6, n7, old h.c4, old h.c3, n8.drew⟩
  have hb := h.below
  have : W.heap.size ≤ (start hs.length b2 b3 b4 W).heap.size := by omega
  unfold start
  exact ((((hb.alloc hb.size _).alloc (by simp; have := hb.size; omega) _).alloc (by simp; have := hb.size; omega) _).alloc (by simp; have := hb.size; omega) _).drew
set_option maxHeartbeats 2000000 in
theorem orders_calls {w : World} {A : Option Addr} {c : Nat} {hs : List Int} {s : Int} {b0 b1 b2 b3 b4 : Nat} {W : World} (h : Pre w A c hs s b0 b1 b2 b3 b4 W) {cost : List Int → Option Int} (hc : CostC (envAt w A c hs s b0 b1 b2 b3 b4 W) cost) {st' : BS}
    (hst : ordO cost hs.length hs.length [] (none, 0) = some st') :
    Calls Try.prog 80 #[.int .i64 (hs.length : Int), .func (.func 81) #[] #[.pointer (some ⟨b2, 0, none⟩), .pointer (some ⟨b3, 0, none⟩), .pointer (some ⟨b4, 0, none⟩)]] W fun e w' => e = .returned (.tuple #[]) ∧ Inv (envAt w A c hs s b0 b1 b2 b3 b4 W) st' [] w' := by
  have hmk := make_row hs.length h.len
  have hext := fun W' hi => extend_calls h.ok hc hs.length [] (none, 0) st' W' (by show 0 + hs.length = hs.length; omega) hi hst
  have hmf : ∀ (fn : Fn) (first cap : Array Value) (w : World), (Instr.makeFunc fn first cap).run Try.prog w = .ok (.func fn first cap) w := fun _ _ _ _ => rfl
  clear hst
  go_enter Try.func80, Try.ntmps80
  go_wp2
  go_region_with (go_at_call 85; refine (hext _ (start_inv h)).mono ?_; rintro e w2 ⟨rfl, HJ⟩)
  all_goals go_wp2
  all_goals go_end0
  all_goals exact ⟨rfl, HJ⟩
/-- What stands ahead of leastOrder. -/
structure Pre0 (w : World) (A : Option Addr) (c : Nat) (hs : List Int) (s : Int) (b0 b1 : Nat) (W : World) : Prop where
  below : Below w.heap.size w W
  c0 : W.heap[b0]? = some (.cells #[.slice A hs.length c] 22 (0, 0))
  c1 : W.heap[b1]? = some (.cells #[.int .i64 s] 3 (0, 0))
  hb : w.heap.size ≤ b0
  h0 : b0 < b1
  len : hs.length ≤ 8
  reads : Kd.C (Kd.int .i64) w A hs.length hs
  cap : hs.length ≤ c
def start0 (b0 b1 : Nat) (W : World) : World :=
  ((W.alloc (.cells #[.func (.func 73) #[] #[.pointer (some ⟨b0, 0, none⟩), .pointer (some ⟨b1, 0, none⟩)]] 23)).alloc (.cells #[.slice none 0 0] 22)).alloc (.cells #[.int .i64 0] 3)
theorem start_pre {w : World} {A : Option Addr} {c : Nat} {hs : List Int} {s : Int} {b0 b1 : Nat} {W : World} (h : Pre0 w A c hs s b0 b1 W) :
    Pre w A c hs s b0 b1 W.heap.size (W.heap.size + 1) (W.heap.size + 1 + 1) (start0 b0 b1 W) := by
  have hsz1 : (W.alloc (.cells #[.func (.func 73) #[] #[.pointer (some ⟨b0, 0, none⟩), .pointer (some ⟨b1, 0, none⟩)]] 23)).heap.size = W.heap.size + 1 := by simp
  have hsz2 : ((W.alloc (.cells #[.func (.func 73) #[] #[.pointer (some ⟨b0, 0, none⟩), .pointer (some ⟨b1, 0, none⟩)]] 23)).alloc (.cells #[.slice none 0 0] 22)).heap.size = W.heap.size + 1 + 1 := by simp
  have n2 : (start0 b0 b1 W).heap[W.heap.size]? = some (.cells #[.func (.func 73) #[] #[ptr b0, ptr b1]] 23 (0, 0)) := blk_alloc (blk_alloc (blk_new W _) _) _
  have n3 : (start0 b0 b1 W).heap[W.heap.size + 1]? = some (.cells #[.slice none 0 0] 22 (0, 0)) := by
    have := blk_new (W.alloc (.cells #[.func (.func 73) #[] #[.pointer (some ⟨b0, 0, none⟩), .pointer (some ⟨b1, 0, none⟩)]] 23)) (.cells #[.slice none 0 0] 22)
    rw [hsz1] at this
    exact blk_alloc this _
  have n4 : (start0 b0 b1 W).heap[W.heap.size + 1 + 1]? = some (.cells #[.int .i64 0] 3 (0, 0)) := by
    have := blk_new ((W.alloc (.cells #[.func (.func 73) #[] #[.pointer (some ⟨b0, 0, none⟩), .pointer (some ⟨b1, 0, none⟩)]] 23)).alloc (.cells #[.slice none 0 0] 22)) (.cells #[.int .i64 0] 3)
    rw [hsz2] at this
    exact this
  have hb := h.below
  exact ⟨((hb.alloc hb.size _).alloc (by simp; have := hb.size; omega) _).alloc (by simp; have := hb.size; omega) _, blk_alloc (blk_alloc (blk_alloc h.c0 _) _) _, blk_alloc (blk_alloc (blk_alloc h.c1 _) _) _, n2, n3, n4, h.hb, h.h0, lt_of_block h.c1, by omega, by omega, h.len, h.reads, h.cap⟩
/-- OrderCost's contract, by its arguments. -/
def CostQ (A : Option Addr) (c : Nat) (hs : List Int) (s : Int) (cost : List Int → Option Int) : Prop :=
  ∀ (o : List Int) (r : Int) (W : World) (A1 : Option Addr) (c1 : Nat), Kd.C (Kd.int .i64) W A hs.length hs → Kd.C (Kd.int .i64) W A1 o.length o → o.length ≤ c1 → cost o = some r →
    Calls Try.prog 44 #[.slice A hs.length c, .slice A1 o.length c1, .int .i64 s] W fun e w' => e = .returned (.int .i64 r) ∧ Below W.heap.size W w'
/-- A row of the call's own. -/
def Row (w : World) (o : List Int) (v : Value) (w' : World) : Prop := w'.ownsRow w.heap.size 3 1 v o.length (o.map (Value.int .i64)) ∧ Below w.heap.size w w'
def RowEnd (w : World) (o : List Int) (e : Ending) (w' : World) : Prop := ∃ v, e = .returned v ∧ Row w o v w'
theorem own_lower {w : World} {b b' n : Nat} {v : Value} {xs : List Value} (h : w.ownsRow b 3 1 v n xs) (hb : b' ≤ b) : w.ownsRow b' 3 1 v n xs := own_weaken h hb
set_option maxHeartbeats 2000000 in
theorem least_calls {w : World} {A : Option Addr} {c : Nat} {hs : List Int} {s : Int} {b0 b1 : Nat} {W : World} (h : Pre0 w A c hs s b0 b1 W) {cost : List Int → Option Int} (hc : CostQ A c hs s cost) {o : List Int} {m : Int}
    (hst : ordO cost hs.length hs.length [] (none, 0) = some (some o, m)) :
    Calls Try.prog 72 #[.int .i64 (hs.length : Int), .func (.func 73) #[] #[.pointer (some ⟨b0, 0, none⟩), .pointer (some ⟨b1, 0, none⟩)]] W (RowEnd w o) := by
  have hk := orders_calls (start_pre h) hc hst
  have hk2 : Calls Try.prog 80 #[.int .i64 (hs.length : Int), .func (.func 81) #[] #[.pointer (some ⟨W.heap.size, 0, none⟩), .pointer (some ⟨W.heap.size + 1, 0, none⟩), .pointer (some ⟨W.heap.size + 1 + 1, 0, none⟩)]] (start0 b0 b1 W) fun e w' => e = .returned (.tuple #[]) ∧ ∃ v, w'.cell? ⟨W.heap.size + 1, 0, none⟩ = some v ∧ (∃ ad n c, v = .slice ad n c) ∧ Aside (Row w o v w') := by
    refine hk.mono fun e w' ⟨he, hi⟩ => ⟨he, ?_⟩
    obtain ⟨g, cap, hb3, ho⟩ := hi.best
    refine ⟨_, cell_of_one hb3, ⟨_, _, _, rfl⟩, own_lower ho ?_, hi.below⟩
    have h1 := h.below.size
    have h2 : (start0 b0 b1 W).heap.size = W.heap.size + 1 + 1 + 1 := by unfold start0; simp
    show w.heap.size ≤ (start0 b0 b1 W).heap.size + 1 + 1 + 1 + 1
    omega
  have hmf : ∀ (fn : Fn) (first cap : Array Value) (w : World), (Instr.makeFunc fn first cap).run Try.prog w = .ok (.func fn first cap) w := fun _ _ _ _ => rfl
  clear hst hk hc h
  unfold start0 at hk2
  go_enter Try.func72, Try.ntmps72
  go_wp2_with (go_at_call 80; refine hk2.mono ?_; rintro e w1 ⟨rfl, v, hv, ⟨ad, n, c', rfl⟩, HR⟩)
  go_ret
  exact ⟨_, rfl, HR⟩
def RowEnd2 (w : World) (o : List Int) (b : Bool) (e : Ending) (w' : World) : Prop := ∃ v, e = .returned (.tuple #[v, .bool b]) ∧ Row w o v w'
/-- areHeats' contract. -/
def AreC (A : Option Addr) (c : Nat) (hs : List Int) (b : Bool) : Prop := ∀ W : World, Kd.C (Kd.int .i64) W A hs.length hs → Calls Try.prog 68 #[.slice A hs.length c] W fun e w' => e = .returned (.bool b) ∧ Below W.heap.size W w'
/-- The two arguments, each in a variable of its own. -/
def boxed (A : Option Addr) (c : Nat) (hs : List Int) (s : Int) (w : World) : World := (w.alloc (.cells #[.slice A hs.length c] 22)).alloc (.cells #[.int .i64 s] 3)
theorem boxed_c0 (A : Option Addr) (c : Nat) (hs : List Int) (s : Int) (w : World) : (boxed A c hs s w).heap[w.heap.size]? = some (.cells #[.slice A hs.length c] 22 (0, 0)) := blk_alloc (blk_new w _) _
theorem boxed_c1 (A : Option Addr) (c : Nat) (hs : List Int) (s : Int) (w : World) : (boxed A c hs s w).heap[w.heap.size + 1]? = some (.cells #[.int .i64 s] 3 (0, 0)) := by
  have := blk_new (w.alloc (.cells #[.slice A hs.length c] 22)) (.cells #[.int .i64 s] 3)
  rw [show (w.alloc (.cells #[.slice A hs.length c] 22)).heap.size = w.heap.size + 1 by simp] at this
  exact this
theorem boxed_below (A : Option Addr) (c : Nat) (hs : List Int) (s : Int) (w : World) : Below w.heap.size w (boxed A c hs s w) := ((Below.refl _ _).alloc (Nat.le_refl _) _).alloc (by simp) _
theorem boxed_pre {A : Option Addr} {c : Nat} {hs : List Int} {s : Int} {w w3 : World} (hb : Below (boxed A c hs s w).heap.size (boxed A c hs s w) w3) (len : hs.length ≤ 8) (reads : Kd.C (Kd.int .i64) w A hs.length hs) (cap : hs.length ≤ c) (q : Nat) :
    Pre0 w A c hs s w.heap.size (w.heap.size + 1) (w3.drewN q) :=
  ⟨pw_below_drewN ((boxed_below A c hs s w).trans (hb.mono (boxed_below A c hs s w).size)) q, blk_drewN (blk_below (boxed_c0 A c hs s w) hb) q, blk_drewN (blk_below (boxed_c1 A c hs s w) hb) q, Nat.le_refl _, by omega, len, reads, cap⟩
theorem boxed_row {A : Option Addr} {c : Nat} {hs : List Int} {s : Int} {w w3 : World} (hb : Below (boxed A c hs s w).heap.size (boxed A c hs s w) w3) : Row w [] (.slice none 0 0) w3 :=
  ⟨World.ownsRow_nil _ _ _ _, (boxed_below A c hs s w).trans (hb.mono (boxed_below A c hs s w).size)⟩
set_option maxHeartbeats 2000000 in
theorem best_yes {w : World} {A : Option Addr} {c : Nat} {hs : List Int} {s : Int} (len : hs.length ≤ 8) (reads : Kd.C (Kd.int .i64) w A hs.length hs) (cap : hs.length ≤ c) (ha : AreC A c hs true) (h0 : 0 ≤ s ∧ s ≤ 350) {cost : List Int → Option Int} (hc : CostQ A c hs s cost) {o : List Int} {m : Int}
    (hst : ordO cost hs.length hs.length [] (none, 0) = some (some o, m)) : Calls Try.prog 46 #[.slice A hs.length c, .int .i64 s] w (RowEnd2 w o true) := by
  have hk := ha (boxed A c hs s w) (Kd.C_below reads (boxed_below A c hs s w))
  have hl : ∀ w3 q, Below (boxed A c hs s w).heap.size (boxed A c hs s w) w3 → Calls Try.prog 72 #[.int .i64 (hs.length : Int), .func (.func 73) #[] #[.pointer (some ⟨w.heap.size, 0, none⟩), .pointer (some ⟨w.heap.size + 1, 0, none⟩)]] (w3.drewN q) (RowEnd w o) := fun w3 q hb => least_calls (boxed_pre hb len reads cap q) hc hst
  have hin := in_calls s 0 350
  rw [decide_eq_true h0] at hin
  have hmf : ∀ (fn : Fn) (first cap : Array Value) (w : World), (Instr.makeFunc fn first cap).run Try.prog w = .ok (.func fn first cap) w := fun _ _ _ _ => rfl
  have hk2 : Calls Try.prog 68 #[.slice A hs.length c] (boxed A c hs s w) fun e w' => e = .returned (.bool true) ∧ w'.cell? ⟨w.heap.size, 0, none⟩ = some (.slice A hs.length c) ∧ w'.cell? ⟨w.heap.size + 1, 0, none⟩ = some (.int .i64 s) ∧ Aside (Below (boxed A c hs s w).heap.size (boxed A c hs s w) w') :=
    hk.mono fun e w' ⟨he, hb⟩ => ⟨he, cell_of_one (blk_below (boxed_c0 A c hs s w) hb), cell_of_one (blk_below (boxed_c1 A c hs s w) hb), hb⟩
  have HL : Aside (∀ w3 q, Below (boxed A c hs s w).heap.size (boxed A c hs s w) w3 → Calls Try.prog 72 #[.int .i64 (hs.length : Int), .func (.func 73) #[] #[.pointer (some ⟨w.heap.size, 0, none⟩), .pointer (some ⟨w.heap.size + 1, 0, none⟩)]] (w3.drewN q) (RowEnd w o)) := hl
  clear hst hc hk ha h0 reads hl
  have hk3 := hk2
  unfold boxed at hk3
  clear hk2
  go_enter Try.func46, Try.ntmps46
  go_wp2_with (first | (go_at_call 68; refine hk3.mono ?_; rintro e w3 ⟨rfl, d0, d1, HB⟩) | (go_at_call 52; refine (hin _).mono ?_; rintro e w4 ⟨rfl, q, rfl⟩) | (go_at_call 72; refine (HL.out _ _ HB.out).mono ?_; rintro e w5 ⟨v, rfl, HR⟩))
  go_ret2
  exact ⟨_, rfl, HR⟩
set_option maxHeartbeats 2000000 in
theorem best_no1 {w : World} {A : Option Addr} {c : Nat} {hs : List Int} {s : Int} (reads : Kd.C (Kd.int .i64) w A hs.length hs) (ha : AreC A c hs false) : Calls Try.prog 46 #[.slice A hs.length c, .int .i64 s] w (RowEnd2 w [] false) := by
  have hk := ha (boxed A c hs s w) (Kd.C_below reads (boxed_below A c hs s w))
  have hk2 : Calls Try.prog 68 #[.slice A hs.length c] (boxed A c hs s w) fun e w' => e = .returned (.bool false) ∧ Aside (Row w [] (.slice none 0 0) w') := hk.mono fun e w' ⟨he, hb⟩ => ⟨he, boxed_row hb⟩
  clear hk ha reads
  unfold boxed at hk2
  go_enter Try.func46, Try.ntmps46
  go_wp2_with (first | (go_at_call 68; refine hk2.mono ?_; rintro e w3 ⟨rfl, HR⟩))
  go_ret2
  exact ⟨_, rfl, HR⟩
set_option maxHeartbeats 2000000 in
theorem best_no2 {w : World} {A : Option Addr} {c : Nat} {hs : List Int} {s : Int} (reads : Kd.C (Kd.int .i64) w A hs.length hs) (ha : AreC A c hs true) (h0 : ¬ (0 ≤ s ∧ s ≤ 350)) : Calls Try.prog 46 #[.slice A hs.length c, .int .i64 s] w (RowEnd2 w [] false) := by
  have hk := ha (boxed A c hs s w) (Kd.C_below reads (boxed_below A c hs s w))
  have hk2 : Calls Try.prog 68 #[.slice A hs.length c] (boxed A c hs s w) fun e w' => e = .returned (.bool true) ∧ w'.cell? ⟨w.heap.size + 1, 0, none⟩ = some (.int .i64 s) ∧ Aside (Row w [] (.slice none 0 0) w') := hk.mono fun e w' ⟨he, hb⟩ => ⟨he, cell_of_one (blk_below (boxed_c1 A c hs s w) hb), boxed_row hb⟩
  have hin := in_calls s 0 350
  rw [decide_eq_false h0] at hin
  clear hk ha reads h0
  unfold boxed at hk2
  go_enter Try.func46, Try.ntmps46
  go_wp2_with (first | (go_at_call 68; refine hk2.mono ?_; rintro e w3 ⟨rfl, d1, HR⟩) | (go_at_call 52; refine (hin _).mono ?_; rintro e w4 ⟨rfl, q, rfl⟩))
  go_ret2
  exact ⟨_, rfl, own_move HR.out.1 (fun k _ => rfl), pw_below_drewN HR.out.2 q⟩
theorem kidsF_mono {g g' : Int → BS → Option BS} (h : ∀ i s, LeO (g i s) (g' i s)) (l : List Int) : ∀ (r i : Nat) (s : BS), LeO (kidsF g l r i s) (kidsF g' l r i s)
  | 0, _, s => LeO.refl _
  | r + 1, i, s => LeO.bind (LeO.ite (LeO.refl _) (h _ _)) (fun s2 => kidsF_mono h l r (i + 1) s2)
theorem ordO_mono {cost cost' : List Int → Option Int} (h : ∀ o, LeO (cost o) (cost' o)) (n : Nat) : ∀ (d : Nat) (l : List Int) (s : BS), LeO (ordO cost n d l s) (ordO cost' n d l s)
  | 0, l, s => LeO.map _ (h l)
  | d + 1, l, s => kidsF_mono (fun i s => ordO_mono h n d (l ++ [i]) s) l n 0 s
/-- What leastOrder answers. -/
def leastO (cost : List Int → Option Int) (n : Nat) : Option (List Int) := (ordO cost n n [] (none, 0)).bind fun s => s.1
theorem leastO_mono {cost cost' : List Int → Option Int} (h : ∀ o, LeO (cost o) (cost' o)) (n : Nat) : LeO (leastO cost n) (leastO cost' n) := LeO.bind (ordO_mono h n n [] (none, 0)) (fun s => LeO.refl _)
end Go.Proofs.Ytamdbkilpllfoaa.Hand

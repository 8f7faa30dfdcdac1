/-
  Contracts: Blocks and whose they are: what a call turns; rows and maps of an owner. The contracts of Cut (of a whole text) and of the two plains. Rows of things of a fixed size; where a key stands; the state of a tree of shapes. The contracts of is and Find of a tree of shapes. A way is followed, or a new shape is made.
-/
import Derived.Test.YtoccmiinkfhohaaGreatW4
import Derived.ArgAppend
import Derived.Laws.AppendOwnNone
import Derived.BigQuiet
import Derived.Deep.QuietTactic
import Derived.Deep.RegionLawGrows
namespace Go.Proofs.YtoccmiinkfhohaaGreat
open Go.RowKit Go.Shelf Go.Lib Go.Sort Go.Proofs Go.Maps
set_option maxHeartbeats 1000000
set_option maxRecDepth 8000

/-- no block that is still to come has an owner -/
def Norm (f : Nat → Nat) (w : World) : Prop := ∀ r, w.heap.size ≤ r → f r = 0
/-- a call that turns old blocks of the owners C alone; f, f': whose each block is, before and behind it -/
structure Turn (C : Nat → Prop) (f f' : Nat → Nat) (w w' : World) : Prop where
  os : w'.os = w.os
  tape : w'.tape = w.tape
  output : w'.output = w.output
  size : w.heap.size ≤ w'.heap.size
  agree : ∀ r, r < w.heap.size → f' r = f r
  norm : Norm f' w'
  block : ∀ r, r < w.heap.size → ¬ C (f r) → w'.heap[r]? = w.heap[r]?
theorem Turn.refl (C : Nat → Prop) {f : Nat → Nat} {w : World} (h : Norm f w) : Turn C f f w w := ⟨rfl, rfl, rfl, Nat.le_refl _, fun _ _ => rfl, h, fun _ _ _ => rfl⟩
theorem Turn.of_below (C : Nat → Prop) {f : Nat → Nat} {w w' : World} (h : Norm f w) (hb : Below w.heap.size w w') : Turn C f f w w' :=
  ⟨hb.os, hb.tape, hb.output, hb.size, fun _ _ => rfl, fun r hr => h r (Nat.le_trans hb.size hr), fun r hr _ => hb.block r hr⟩
theorem Turn.trans {C : Nat → Prop} {f f' f'' : Nat → Nat} {w w' w'' : World} (h : Turn C f f' w w') (h' : Turn C f' f'' w' w'') : Turn C f f'' w w'' :=
  ⟨h'.os.trans h.os, h'.tape.trans h.tape, h'.output.trans h.output, Nat.le_trans h.size h'.size,
    fun r hr => (h'.agree r (Nat.lt_of_lt_of_le hr h.size)).trans (h.agree r hr), h'.norm,
    fun r hr hc => (h'.block r (Nat.lt_of_lt_of_le hr h.size) (by rw [h.agree r hr]; exact hc)).trans (h.block r hr hc)⟩
theorem Turn.mono {C C' : Nat → Prop} {f f' : Nat → Nat} {w w' : World} (h : Turn C f f' w w') (hC : ∀ c, C c → C' c) : Turn C' f f' w w' :=
  ⟨h.os, h.tape, h.output, h.size, h.agree, h.norm, fun r hr hc => h.block r hr (fun hx => hc (hC _ hx))⟩
theorem Turn.below {C : Nat → Prop} {f f' : Nat → Nat} {w w' : World} (h : Turn C f f' w w') {B : Nat} (hB : B ≤ w.heap.size) (hf : ∀ r, r < B → ¬ C (f r)) : Below B w w' :=
  ⟨h.os, h.tape, h.output, h.size, fun r hr => h.block r (Nat.lt_of_lt_of_le hr hB) (hf r hr)⟩
/-- the new blocks get an owner each -/
def give (f : Nat → Nat) (w w' : World) (g : Nat → Nat) : Nat → Nat := fun r => if r < w.heap.size then f r else if r < w'.heap.size then g r else 0
theorem give_old {f : Nat → Nat} {w w' : World} {g : Nat → Nat} {r : Nat} (h : r < w.heap.size) : give f w w' g r = f r := by simp [give, h]
theorem give_new {f : Nat → Nat} {w w' : World} {g : Nat → Nat} {r : Nat} (h : w.heap.size ≤ r) (h' : r < w'.heap.size) : give f w w' g r = g r := by
  have : ¬ r < w.heap.size := by omega
  simp [give, this, h']
/-- the state before a piece of a call, with its owners, and a step that only makes blocks or turns those of C -/
theorem Turn.give {C : Nat → Prop} {f f' : Nat → Nat} {w w' w'' : World} (h : Turn C f f' w w') (g : Nat → Nat) (ho : w''.os = w'.os) (ht : w''.tape = w'.tape) (hp : w''.output = w'.output) (hs : w'.heap.size ≤ w''.heap.size)
    (hb : ∀ r, r < w'.heap.size → ¬ C (f' r) → w''.heap[r]? = w'.heap[r]?) : Turn C f (give f' w' w'' g) w w'' :=
  h.trans ⟨ho, ht, hp, hs, fun r hr => give_old hr, fun r hr => by unfold Go.Proofs.YtoccmiinkfhohaaGreat.give; rw [if_neg (by omega), if_neg (by omega)], hb⟩
theorem Turn.grown {C : Nat → Prop} {f f' : Nat → Nat} {w w' w'' : World} (h : Turn C f f' w w') (g : Nat → Nat) {k : Option Nat} (hg : w'.grownBy w'' k) (hk : ∀ r, k = some r → C (f' r)) : Turn C f (Go.Proofs.YtoccmiinkfhohaaGreat.give f' w' w'' g) w w'' :=
  h.give g hg.os hg.tape hg.output hg.size (fun r hr hc => hg.block r hr (fun e => hc (hk r e.symm)))
theorem Turn.set {C : Nat → Prop} {f f' : Nat → Nat} {w w' : World} (h : Turn C f f' w w') (b i : Nat) (u : Value) (hb : C (f' b)) : Turn C f f' w (w'.setCell ⟨b, i, none⟩ u) :=
  h.trans ⟨rfl, rfl, rfl, by simp [World.setCell], fun _ _ => rfl, fun r hr => h.norm r (by simpa [World.setCell] using hr),
    fun r _ hc => Below.heap_setCell _ _ _ _ (fun e => hc (by rw [e]; exact hb))⟩
theorem Turn.alloc {C : Nat → Prop} {f f' : Nat → Nat} {w w' : World} (h : Turn C f f' w w') (o : Obj) : Turn C f f' w (w'.alloc o) :=
  h.trans (Turn.of_below C h.norm ((Below.refl _ w').alloc (Nat.le_refl _) o))
theorem Turn.then {C : Nat → Prop} {f f' : Nat → Nat} {w w' w'' : World} (h : Turn C f f' w w') (hb : Below w'.heap.size w' w'') : Turn C f f' w w'' := h.trans (Turn.of_below C h.norm hb)
/-- a row, and whose it is -/
def RowO (w : World) (f : Nat → Nat) (c : Nat) (e : TypeId) (size : Nat) (v : Value) (n : Nat) (xs : List Value) : Prop := w.ownsRow 0 e size v n xs ∧ ∀ k, v.ownBlock = some k → f k = c
theorem own_at {w w' : World} {B e size n : Nat} {v : Value} {xs : List Value} (h : w.ownsRow B e size v n xs) (hk : ∀ k, v.ownBlock = some k → w'.heap[k]? = w.heap[k]?) : w'.ownsRow B e size v n xs := by
  refine ⟨h.1, ?_⟩
  rcases h.2 with h | ⟨g, cap, cur, rfl, hb, hg, r⟩
  · exact .inl h
  · exact .inr ⟨g, cap, cur, rfl, hb, by rw [hk g rfl]; exact hg, r⟩
theorem RowO.turn {C : Nat → Prop} {f f' : Nat → Nat} {w w' : World} {c : Nat} {e : TypeId} {size : Nat} {v : Value} {n : Nat} {xs : List Value} (h : RowO w f c e size v n xs) (ht : Turn C f f' w w') (hc : ¬ C c) : RowO w' f' c e size v n xs := by
  obtain ⟨h1, h2⟩ := h
  refine ⟨own_at h1 fun k hk => ht.block k (h1.lt k hk).2 (by rw [h2 k hk]; exact hc), fun k hk => (ht.agree k (h1.lt k hk).2).trans (h2 k hk)⟩
/-- a map of at most n entries that tells g -/
def MapG (w : World) (k : TypeId) (b n : Nat) (g : Lit → Option Int) : Prop :=
  ∃ D, w.ownsMap Tryz.prog k (plainElem Tryz.prog 3) b (Maps.size D) D ∧ TellsL D g ∧ Maps.size D ≤ n
/-- .. and whose it is -/
def MapO (w : World) (f : Nat → Nat) (c : Nat) (k : TypeId) (b n : Nat) (g : Lit → Option Int) : Prop := MapG w k b n g ∧ f b = c
theorem heapH_lt {w : World} {tb : Nat} {o : Obj} (h : w.heap[tb]? = some o) : tb < w.heap.size := (Array.getElem?_eq_some_iff.1 h).1
theorem MapG.lt {w : World} {k : TypeId} {b n : Nat} {g : Lit → Option Int} (h : MapG w k b n g) : b < w.heap.size := by
  obtain ⟨D, h1, _⟩ := h
  exact h1.lt
theorem MapG.at {w w' : World} {k : TypeId} {b n : Nat} {g : Lit → Option Int} (h : MapG w k b n g) (hb : w'.heap[b]? = w.heap[b]?) : MapG w' k b n g := by
  obtain ⟨D, ⟨es, cl, h1, h2⟩, h3⟩ := h
  exact ⟨D, ⟨es, cl, hb.trans h1, h2⟩, h3⟩
theorem MapG.made (w : World) (k : TypeId) (n : Nat) : MapG (w.alloc (.map #[] 0)) k w.heap.size n (fun _ => none) :=
  ⟨.map [], World.ownsMap_made w Tryz.prog k _, tellsL_nil, Nat.zero_le _⟩
theorem MapO.lt {w : World} {f : Nat → Nat} {c : Nat} {k : TypeId} {b n : Nat} {g : Lit → Option Int} (h : MapO w f c k b n g) : b < w.heap.size := h.1.lt
theorem MapO.turn {C : Nat → Prop} {f f' : Nat → Nat} {w w' : World} {c : Nat} {k : TypeId} {b n : Nat} {g : Lit → Option Int} (h : MapO w f c k b n g) (ht : Turn C f f' w w') (hc : ¬ C c) : MapO w' f' c k b n g :=
  ⟨h.1.at (ht.block b h.lt (by rw [h.2]; exact hc)), (ht.agree b h.lt).trans h.2⟩
/-- the map as it was, or with one pair stored -/
def MapU (y : World) (k : TypeId) (b n : Nat) (g : Lit → Option Int) (kl : Lit) (v : Int) : Prop :=
  MapG y k b n g ∨ ∃ g', MapG y k b (n + 1) g' ∧ g' kl = some v ∧ ∀ l, l ≠ kl → g' l = g l
theorem store_U {k t : TypeId} (K : Keyed Tryz.prog k) (ht : Tryz.prog.underlying t = some (.map k 3)) {b n : Nat} {g : Lit → Option Int} {key : Value} {kl : Lit} (hkey : keyOf Tryz.prog k key = some kl) (hl : WideAt.IsKeyLit kl) {v : Int} (hv : (Lit.int .i64 v).wf = true) (hn : n + 1 < maxLen) :
    ∃ U : World → World, ∀ y, MapU y k b n g kl v → (Instr.mapUpdate t (.map (some b)) key (.int .i64 v)).run Tryz.prog y = .ok () (U y) ∧ (∃ g', MapG (U y) k b (n + 1) g' ∧ g' kl = some v ∧ ∀ l, l ≠ kl → g' l = g l) ∧ y.mapTurned (U y) b := by
  have key : ∀ y : World, ∃ y' : World, MapU y k b n g kl v → (Instr.mapUpdate t (.map (some b)) key (.int .i64 v)).run Tryz.prog y = .ok () y' ∧ (∃ g', MapG y' k b (n + 1) g' ∧ g' kl = some v ∧ ∀ l, l ≠ kl → g' l = g l) ∧ y.mapTurned y' b := by
    intro y
    by_cases hU : MapU y k b n g kl v
    · have go : ∀ (m : Nat) (g0 : Lit → Option Int), MapG y k b m g0 → m < maxLen → (m + (if (g0 kl).isSome then 0 else 1) ≤ n + 1) → (∀ l, l ≠ kl → g0 l = g l) → ∃ y' : World, (Instr.mapUpdate t (.map (some b)) key (.int .i64 v)).run Tryz.prog y = .ok () y' ∧ (∃ g', MapG y' k b (n + 1) g' ∧ g' kl = some v ∧ ∀ l, l ≠ kl → g' l = g l) ∧ y.mapTurned y' b := by
        intro m g0 hG hm hsz hg0
        obtain ⟨D, h1, h2, h3⟩ := hG
        have hval : plainElem (H := Unit) Tryz.prog 3 (.int .i64 v) = some (.lit (.int .i64 v), []) := plainElem_int Tryz.underlying3 hv
        obtain ⟨y', r1, r2, r3⟩ := h1.store K ht (Nat.lt_of_le_of_lt h3 hm) hkey hval
        obtain ⟨g', q1, q2, q3⟩ := tellsL_put h1.isMap h2 kl hl v
        have hs := size_put (k := kl) (h1.tidy K) (.lit (.int .i64 v))
        rw [(h2 kl).1] at hs
        refine ⟨y', r1, ⟨g', ⟨_, ?_, q1, ?_⟩, q2, fun l hl' => (q3 l hl').trans (hg0 l hl')⟩, r3⟩
        · obtain ⟨es, cl, a1, a2, a3, a4⟩ := r2
          refine ⟨es, cl, a1, a2, ?_, a4⟩
          rw [a4]
          simp [Maps.size, length_sorted]
        · cases hb : (g0 kl).isSome <;> rw [hb] at hs hsz <;> simp at hs hsz <;> omega
      rcases hU with hU | ⟨g1, hU, hk1, hk2⟩
      · obtain ⟨y', h⟩ := go n g hU (by omega) (by split <;> omega) (fun _ _ => rfl)
        exact ⟨y', fun _ => h⟩
      · obtain ⟨y', h⟩ := go (n + 1) g1 hU hn (by rw [hk1]; simp) hk2
        exact ⟨y', fun _ => h⟩
    · exact ⟨y, fun h => absurd h hU⟩
  obtain ⟨U, hU⟩ := Classical.axiomOfChoice key
  exact ⟨U, hU⟩
theorem blk_turn {C : Nat → Prop} {f f' : Nat → Nat} {w w' : World} {c b : Nat} {o : Obj} (h : w.heap[b]? = some o ∧ f b = c) (ht : Turn C f f' w w') (hc : ¬ C c) : w'.heap[b]? = some o ∧ f' b = c := by
  have hlt := heapH_lt h.1
  exact ⟨by rw [ht.block b hlt (by rw [h.2]; exact hc)]; exact h.1, (ht.agree b hlt).trans h.2⟩
end Go.Proofs.YtoccmiinkfhohaaGreat
namespace Go.Proofs.YtoccmiinkfhohaaGreat
open Go.RowKit Go.Shelf Go.Lib Go.Sort Go.Proofs Go.Maps
set_option maxHeartbeats 1000000
set_option maxRecDepth 100000

theorem c_UCutH (s : ByteArray) (hs : s.size ≤ 1099511627776) (w : World) :
    Calls Tryz.prog 71 #[.string s, .int .i64 0, .int .i64 ((s.size / 2 : Nat) : Int)] w fun e w' => e = .returned (.string (evenB s)) ∧ w' = w := by
  have hL := Lib.hid (c_ULen s hs w)
  unfold evenB
  generalize hm : s.size / 2 = m at *
  have hm2 : m * 2 ≤ s.size := by omega
  have hm3 : s.size < m * 2 + 2 := by omega
  clear hm
  rcases Nat.eq_zero_or_pos m with h0 | h0
  · subst h0
    have e : s.extract 0 (0 * 2) = ⟨#[]⟩ := by simp; rfl
    rw [e]
    clear e
    go_enter Tryz.func71, Tryz.ntmps71
    go_wp2_with (go_at_call 72; refine hL.out.mono ?_; rintro e w1 ⟨rfl, rfl⟩)
    go_ret
    exact ⟨rfl, rfl⟩
  · have e1 : (0 : Int) ≤ (m : Int) := by omega
    have e2 : ¬ (m : Int) ≤ 0 := by omega
    have e3 : (2 : Int) * (m : Int) ≤ (s.size : Int) := by omega
    have e4 : (2 * (m : Int)).toNat = m * 2 := by omega
    go_enter Tryz.func71, Tryz.ntmps71
    go_wp2_with (go_at_call 72; refine hL.out.mono ?_; rintro e w1 ⟨rfl, rfl⟩)
    go_ret
    exact ⟨rfl, rfl⟩
theorem two_belowH (w : World) (o o' : Obj) : Below w.heap.size w ((w.alloc o).alloc o') := ((Below.refl _ w).alloc (Nat.le_refl _) o).alloc (by simp) o'
theorem c_Splain (k : KK) (hk : k.1.size ≤ 1099511627776) (w : World) :
    Calls Tryz.prog 115 #[keyV k.1 k.2] w fun e w' => e = .returned (keyV (pk k).1 (pk k).2) ∧ Below w.heap.size w w' := by
  have hL := Lib.hid (c_ULen k.1 hk)
  have hC := Lib.hid (c_UCutH k.1 hk)
  have hb := two_belowH w
  unfold keyV pk
  obtain ⟨s, n⟩ := k
  dsimp only at *
  by_cases h0 : 0 < n
  · rw [if_pos h0]
    dsimp only
    have hb0 := Lib.hid hb
    clear hb
    go_enter Tryz.func115, Tryz.ntmps115
    go_wp2
    refine bodyPost_ret (results_cell_row rfl _ _ (w.heap.size + 1) 31 #[.string ⟨#[]⟩, .int .i64 n] (0, 0) _ rfl (heap_alloc2_new w _ _) Tryz.underlying31 rfl infoKeyRow) rfl ?_
    exact ⟨rfl, hb0.out _ _⟩
  · rw [if_neg h0]
    dsimp only
    have hb0 := Lib.hid hb
    clear hb
    generalize evenB s = E at *
    go_enter Tryz.func115, Tryz.ntmps115
    go_wp2_with fail
    go_region_held3 (fun y => y.cell? ⟨w.heap.size, 0, none⟩ = some (.string s)) (first | assumption | rfl | go_keep) (first | (go_at_call 72; refine (hL.out _).mono ?_; rintro e w1 ⟨rfl, rfl⟩) | (go_at_call 71; refine (hC.out _).mono ?_; rintro e w1 ⟨rfl, rfl⟩))
    all_goals (go_wp2_with fail)
    all_goals refine bodyPost_ret (results_cell_row rfl _ _ (w.heap.size + 1) 31 #[.string E, .int .i64 0] (0, 0) _ rfl (heap_alloc2_new w _ _) Tryz.underlying31 rfl infoKeyRow) rfl ?_
    all_goals exact ⟨rfl, (hb0.out _ _).drew⟩
theorem c_Hplain (k : KK) (hk : k.1.size ≤ 1099511627776) (w : World) :
    Calls Tryz.prog 57 #[keyV k.1 k.2] w fun e w' => e = .returned (keyV (pk k).1 (pk k).2) ∧ Below w.heap.size w w' := by
  have hL := Lib.hid (c_ULen k.1 hk)
  have hC := Lib.hid (c_UCutH k.1 hk)
  have hb := two_belowH w
  unfold keyV pk
  obtain ⟨s, n⟩ := k
  dsimp only at *
  by_cases h0 : 0 < n
  · rw [if_pos h0]
    dsimp only
    have hb0 := Lib.hid hb
    clear hb
    go_enter Tryz.func57, Tryz.ntmps57
    go_wp2
    refine bodyPost_ret (results_cell_row rfl _ _ (w.heap.size + 1) 31 #[.string ⟨#[]⟩, .int .i64 n] (0, 0) _ rfl (heap_alloc2_new w _ _) Tryz.underlying31 rfl infoKeyRow) rfl ?_
    exact ⟨rfl, hb0.out _ _⟩
  · rw [if_neg h0]
    dsimp only
    have hb0 := Lib.hid hb
    clear hb
    generalize evenB s = E at *
    go_enter Tryz.func57, Tryz.ntmps57
    go_wp2_with fail
    go_region_held3 (fun y => y.cell? ⟨w.heap.size, 0, none⟩ = some (.string s)) (first | assumption | rfl | go_keep) (first | (go_at_call 72; refine (hL.out _).mono ?_; rintro e w1 ⟨rfl, rfl⟩) | (go_at_call 71; refine (hC.out _).mono ?_; rintro e w1 ⟨rfl, rfl⟩))
    all_goals (go_wp2_with fail)
    all_goals refine bodyPost_ret (results_cell_row rfl _ _ (w.heap.size + 1) 31 #[.string E, .int .i64 0] (0, 0) _ rfl (heap_alloc2_new w _ _) Tryz.underlying31 rfl infoKeyRow) rfl ?_
    all_goals exact ⟨rfl, (hb0.out _ _).drew⟩
end Go.Proofs.YtoccmiinkfhohaaGreat
namespace Go.Proofs.YtoccmiinkfhohaaGreat
open Go.RowKit Go.Shelf Go.Lib Go.Sort Go.Proofs Go.Maps
set_option maxHeartbeats 1000000
set_option maxRecDepth 8000

theorem fm_len {α : Type} {enc : α → List Value} {k : Nat} (h : ∀ x, (enc x).length = k) (l : List α) : (l.flatMap enc).length = l.length * k := by
  induction l with
  | nil => simp
  | cons a l ih => rw [List.flatMap_cons, List.length_append, ih, h, List.length_cons, Nat.add_mul, Nat.one_mul, Nat.add_comm]
theorem fm_get {α : Type} {enc : α → List Value} {k : Nat} (h : ∀ x, (enc x).length = k) {l : List α} : ∀ {i : Nat} {x : α}, l[i]? = some x → ∀ {j : Nat} {v : Value}, (enc x)[j]? = some v → (l.flatMap enc)[i * k + j]? = some v := by
  induction l with
  | nil => intro i x hx; simp at hx
  | cons a l ih =>
    intro i x hx j v hv
    have hj : j < k := by rw [← h x]; exact (List.getElem?_eq_some_iff.1 hv).1
    rw [List.flatMap_cons]
    cases i with
    | zero =>
      simp at hx; subst hx
      rw [List.getElem?_append_left (by rw [h]; omega)]
      simpa using hv
    | succ i =>
      rw [List.getElem?_append_right (by rw [h, Nat.add_mul]; omega), h]
      have e : (i + 1) * k + j - k = i * k + j := by rw [Nat.add_mul]; omega
      rw [e]
      exact ih (by simpa using hx) hv
/-- where a key stands -/
def idx : List KK → KK → Option Nat
  | [], _ => none
  | a :: l, x => if a = x then some 0 else (idx l x).map (· + 1)
theorem idx_none {l : List KK} {x : KK} : idx l x = none ↔ x ∉ l := by
  induction l with
  | nil => simp [idx]
  | cons a l ih =>
    by_cases e : a = x
    · simp [idx, e]
    · have e' : ¬ x = a := fun h => e h.symm
      simp [idx, e, ih, e']
theorem idx_some {l : List KK} {x : KK} : ∀ {i : Nat}, idx l x = some i → l[i]? = some x := by
  induction l with
  | nil => simp [idx]
  | cons a l ih =>
    intro i h
    by_cases e : a = x
    · simp [idx, e] at h; subst h; simp [e]
    · simp [idx, e] at h
      obtain ⟨j, hj, rfl⟩ := h
      simpa using ih hj
theorem idx_at {l : List KK} {x : KK} (hn : l.Nodup) : ∀ {i : Nat}, l[i]? = some x → idx l x = some i := by
  induction l with
  | nil => intro i h; simp at h
  | cons a l ih =>
    intro i h
    obtain ⟨h1, h2⟩ := List.nodup_cons.1 hn
    cases i with
    | zero => simp at h; simp [idx, h]
    | succ i =>
      have h3 : l[i]? = some x := by simpa using h
      have e : a ≠ x := fun e => h1 (e ▸ List.mem_of_getElem? h3)
      simp [idx, e, ih h2 h3]
theorem idx_snoc {l : List KK} {x y : KK} : idx (l ++ [x]) y = match idx l y with | some i => some i | none => if x = y then some l.length else none := by
  induction l with
  | nil => simp [idx]
  | cons a l ih =>
    by_cases e : a = y
    · simp [idx, e]
    · simp only [List.cons_append, idx, e, if_false, ih]
      cases h : idx l y with
      | some i => simp
      | none => by_cases e2 : x = y <;> simp [e2]
theorem idx_lt {l : List KK} {x : KK} {i : Nat} (h : idx l x = some i) : i < l.length := (List.getElem?_eq_some_iff.1 (idx_some h)).1
/-- a slot: a key with its flags -/
abbrev SL := KK × Int
def encS (x : SL) : List Value := [.string x.1.1, .int .i64 x.1.2, .int .i64 x.2]
def flatS (l : List SL) : List Value := l.flatMap encS
theorem flatS_len (l : List SL) : (flatS l).length = l.length * 3 := fm_len (k := 3) (fun _ => rfl) l
theorem flatS_get {l : List SL} {i : Nat} {x : SL} (h : l[i]? = some x) : (flatS l)[i * 3]? = some (.string x.1.1) ∧ (flatS l)[i * 3 + 1]? = some (.int .i64 x.1.2) ∧ (flatS l)[i * 3 + 2]? = some (.int .i64 x.2) :=
  ⟨fm_get (enc := encS) (k := 3) (fun _ => rfl) h (j := 0) rfl, fm_get (enc := encS) (k := 3) (fun _ => rfl) h (j := 1) rfl, fm_get (enc := encS) (k := 3) (fun _ => rfl) h (j := 2) rfl⟩
def encE (e : Value × Nat) : List Value := [e.1, .map (some e.2)]
def flatE (l : List (Value × Nat)) : List Value := l.flatMap encE
theorem flatE_len (l : List (Value × Nat)) : (flatE l).length = l.length * 2 := fm_len (k := 2) (fun _ => rfl) l
theorem flatE_get {l : List (Value × Nat)} {i : Nat} {x : Value × Nat} (h : l[i]? = some x) : (flatE l)[i * 2]? = some x.1 ∧ (flatE l)[i * 2 + 1]? = some (.map (some x.2)) :=
  ⟨fm_get (enc := encE) (k := 2) (fun _ => rfl) h (j := 0) rfl, fm_get (enc := encE) (k := 2) (fun _ => rfl) h (j := 1) rfl⟩
/-- a shape's slots and its map: nobody turns them -/
def ShapeO (w : World) (f : Nat → Nat) (sv : Value) (mb : Nat) (ks : List KK) : Prop :=
  ∃ (ss : List SL) (g : Lit → Option Int) (n : Nat), RowO w f 9 161 3 sv ss.length (flatS ss) ∧ ss.map (fun x => pk x.1) = ks ∧ (∀ x ∈ ss, okK x.1) ∧ ks.Nodup ∧ MapO w f 9 31 mb n g ∧ n ≤ ks.length ∧ (∀ x, okK x → g (klK x) = (idx ks x).map Int.ofNat)
/-- a tree of shapes: of each the keys, as they are compared -/
def TreeO (w : World) (f : Nat → Nat) (tb : Nat) (L : List (List KK)) : Prop :=
  ∃ (rv : Value) (bw n : Nat) (ents : List (Value × Nat)) (gw : Lit → Option Int),
    (w.heap[tb]? = some (.cells #[.int .i64 1, rv, .map (some bw)] 123 (0, 0)) ∧ f tb = 3) ∧ RowO w f 4 119 2 rv L.length (flatE ents) ∧ ents.length = L.length ∧ MapO w f 5 189 bw n gw ∧ n ≤ L.length ∧
    (∀ (a : Int) (ch : Bool) (k : KK) (fl t : Int), okK k → (Lit.int .i64 a).wf = true → (Lit.int .i64 fl).wf = true → gw (klW a ch k fl) = some t → ∃ (i j : Nat) (A : List KK), a = i ∧ t = j ∧ L[i]? = some A ∧ L[j]? = some (if ch then A else A ++ [k])) ∧
    (∀ (i : Nat) (ks : List KK), L[i]? = some ks → ∃ e : Value × Nat, ents[i]? = some e ∧ ShapeO w f e.1 e.2 ks)
theorem ShapeO.turn {C : Nat → Prop} {f f' : Nat → Nat} {w w' : World} {sv : Value} {mb : Nat} {ks : List KK} (h : ShapeO w f sv mb ks) (ht : Turn C f f' w w') (hc : ¬ C 9) : ShapeO w' f' sv mb ks := by
  obtain ⟨ss, g, n, h1, h2, h3, h4, h5, h6, h7⟩ := h
  exact ⟨ss, g, n, h1.turn ht hc, h2, h3, h4, h5.turn ht hc, h6, h7⟩
theorem TreeO.turn {C : Nat → Prop} {f f' : Nat → Nat} {w w' : World} {tb : Nat} {L : List (List KK)} (h : TreeO w f tb L) (ht : Turn C f f' w w') (h3 : ¬ C 3) (h4 : ¬ C 4) (h5 : ¬ C 5) (h9 : ¬ C 9) : TreeO w' f' tb L := by
  obtain ⟨rv, bw, n, ents, gw, q1, q2, q3, q4, q5, q6, q7⟩ := h
  exact ⟨rv, bw, n, ents, gw, blk_turn q1 ht h3, q2.turn ht h4, q3, q4.turn ht h5, q5, q6, fun i ks hi => by
    obtain ⟨e, he, hs⟩ := q7 i ks hi
    exact ⟨e, he, hs.turn ht h9⟩⟩
end Go.Proofs.YtoccmiinkfhohaaGreat
namespace Go.Proofs.YtoccmiinkfhohaaGreat
open Go.RowKit Go.Shelf Go.Lib Go.Sort Go.Proofs Go.Maps
set_option maxHeartbeats 1000000
set_option maxRecDepth 100000

/-- a look-up of a key, in every world in which the map is what it was -/
theorem look_K {w : World} {f : Nat → Nat} {c b n : Nat} {g : Lit → Option Int} (h : MapO w f c 31 b n g) (x : KK) (hx : okK x) :
    ∃ z : Int, (∀ i, g (klK x) = some i → z = i) ∧ ∀ y : World, y.heap[b]? = w.heap[b]? → (Instr.lookup 94 (.map (some b)) (keyV x.1 x.2) true).run Tryz.prog y = .ok (.tuple #[.int .i64 z, .bool (g (klK x)).isSome]) y := by
  obtain ⟨⟨D, ⟨es, cl, h1, h2⟩, h3, h4⟩, h5⟩ := h
  have hz : plainElem (H := Unit) Tryz.prog 3 (.int .i64 0) = some (.lit (.int .i64 0), []) := plainElem_int Tryz.underlying3 (by decide)
  have key : ∀ y : World, y.heap[b]? = w.heap[b]? → ∃ z : Int, D.atKey (klK x) (.lit (.int .i64 0)) = .lit (.int .i64 z) ∧ (Instr.lookup 94 (.map (some b)) (keyV x.1 x.2) true).run Tryz.prog y = .ok (.tuple #[.int .i64 z, .bool (g (klK x)).isSome]) y := by
    intro y hy
    have hm : y.ownsMap Tryz.prog 31 (plainElem Tryz.prog 3) b (Maps.size D) D := ⟨es, cl, hy.trans h1, h2⟩
    obtain ⟨v, ps, hr, hv⟩ := hm.look_ok lawKey Tryz.underlying94 (zeroIntH y) hz (keyOf_K x hx)
    obtain ⟨z, rfl, hzz, _⟩ := plainElem_int_inv Tryz.underlying3 hv
    refine ⟨z, congrArg Prod.fst hzz, ?_⟩
    rw [← (h3 (klK x)).1]
    exact hr
  obtain ⟨z, hz1, _⟩ := key w rfl
  refine ⟨z, fun i hi => ?_, fun y hy => ?_⟩
  · have := (h3 (klK x)).2 i hi
    rw [hz1] at this
    injection this with this
    injection this
  · obtain ⟨z', hz2, hr⟩ := key y hy
    rw [hz1] at hz2
    injection hz2 with hz2
    injection hz2 with _ hz2
    subst hz2
    exact hr
theorem TreeO.form {w : World} {f : Nat → Nat} {tb : Nat} {L : List (List KK)} (h : TreeO w f tb L) :
    ∃ p c, w.cell? ⟨tb, 0, none⟩ = some (.int .i64 1) ∧ w.cell? ⟨tb, 1, none⟩ = some (.slice p L.length c) ∧
      ∀ s ks, L[s]? = some ks → ∃ rb sv mb, p = some ⟨rb, 0, none⟩ ∧ tb < w.heap.size ∧ rb < w.heap.size ∧ mb < w.heap.size ∧ w.cell? ⟨rb, s * 2, none⟩ = some sv ∧ w.cell? ⟨rb, s * 2 + 1, none⟩ = some (.map (some mb)) ∧ ShapeO w f sv mb ks := by
  obtain ⟨rv, bw, n, ents, gw, q1, q2, q3, q4, q5, q6, q7⟩ := h
  have hrv : ∃ p c, rv = .slice p L.length c ∧ (∀ rb, p = some ⟨rb, 0, none⟩ → rv.ownBlock = some rb) ∧ (0 < L.length → ∃ rb, p = some ⟨rb, 0, none⟩) := by
    rcases q2.1.2 with ⟨e, h⟩ | ⟨g, cap, cur, e, _⟩
    · rw [h]; exact ⟨none, 0, e, fun _ h => by (cases h), fun h => by omega⟩
    · exact ⟨_, _, e, fun rb h => by cases h; rw [e]; rfl, fun _ => ⟨g, rfl⟩⟩
  obtain ⟨p, c, rfl, hb, hp⟩ := hrv
  refine ⟨p, c, ?_, ?_, fun s ks hs => ?_⟩
  · rw [cell_of_row w tb 0 _ _ _ q1.1]; rfl
  · rw [cell_of_row w tb 1 _ _ _ q1.1]; rfl
  obtain ⟨rb, hrb⟩ := hp (by have := (List.getElem?_eq_some_iff.1 hs).1; omega)
  obtain ⟨e, he, hS⟩ := q7 s ks hs
  have hob := hb rb hrb
  obtain ⟨g1, g2⟩ := flatE_get he
  have c1 := q2.1.cells hob _ _ g1
  have c2 := q2.1.cells hob _ _ g2
  rw [add_zero_addr] at c1 c2
  obtain ⟨ss, gg, nn, r1, r2, r3, r4, r5, r6, r7⟩ := hS
  exact ⟨rb, e.1, e.2, hrb, heapH_lt q1.1, (q2.1.lt rb hob).2, r5.lt, c1, c2, ⟨ss, gg, nn, r1, r2, r3, r4, r5, r6, r7⟩⟩
/-- y has all that W has, and more -/
def Onto (W y : World) : Prop := (∀ a : Addr, a.block < W.heap.size → y.cell? a = W.cell? a) ∧ (∀ b : Nat, b < W.heap.size → y.heap[b]? = W.heap[b]?) ∧ Below W.heap.size W y
theorem onto_drew (W : World) : (∀ a : Addr, a.block < W.heap.size → W.drew.cell? a = W.cell? a) ∧ (∀ b : Nat, b < W.heap.size → W.drew.heap[b]? = W.heap[b]?) ∧ Below W.heap.size W W.drew := ⟨fun _ _ => rfl, fun _ _ => rfl, (Below.refl _ W).drew⟩
theorem onto_below {W y y' : World} (h : (∀ a : Addr, a.block < W.heap.size → y.cell? a = W.cell? a) ∧ (∀ b : Nat, b < W.heap.size → y.heap[b]? = W.heap[b]?) ∧ Below W.heap.size W y) (hb : Below y.heap.size y y') :
    (∀ a : Addr, a.block < W.heap.size → y'.cell? a = W.cell? a) ∧ (∀ b : Nat, b < W.heap.size → y'.heap[b]? = W.heap[b]?) ∧ Below W.heap.size W y' := by
  obtain ⟨h1, h2, h3⟩ := h
  exact ⟨fun a ha => by rw [hb.cell (Nat.lt_of_lt_of_le ha h3.size)]; exact h1 a ha, fun b hb' => (hb.block b (Nat.lt_of_lt_of_le hb' h3.size)).trans (h2 b hb'), h3.trans (hb.mono h3.size)⟩
theorem c_Sis {w : World} {f : Nat → Nat} {tb : Nat} {L : List (List KK)} (h : TreeO w f tb L) (s : Nat) (hs : s < L.length) :
    Calls Tryz.prog 69 #[.pointer (some ⟨tb, 0, none⟩), .int .i64 (s : Int)] w fun e w' => e = .returned (.bool true) ∧ w' = w := by
  obtain ⟨p, c, c0, c1, _⟩ := h.form
  have p1 : (0 : Int) ≤ (s : Int) := by omega
  have p2 : (s : Int) < (L.length : Int) := by omega
  generalize L.length = n at *
  clear h
  go_enter Tryz.func69, Tryz.ntmps69
  go_wp2
  go_ret
  exact ⟨rfl, rfl⟩
theorem c_SFind {w : World} {f : Nat → Nat} {tb : Nat} {L : List (List KK)} (hN : Norm f w) (h : TreeO w f tb L) (s : Nat) (ks : List KK) (hs : L[s]? = some ks) (k : KK) (hk : okK k) :
    Calls Tryz.prog 111 #[.pointer (some ⟨tb, 0, none⟩), .int .i64 (s : Int), keyV k.1 k.2] w fun e w' => Below w.heap.size w w' ∧
      ((∃ (i : Nat) (fl : Int), idx ks (pk k) = some i ∧ e = .returned (.tuple #[.int .i64 (i : Int), .int .i64 fl, .bool true])) ∨ (idx ks (pk k) = none ∧ e = .returned (.tuple #[.int .i64 0, .int .i64 0, .bool false]))) := by
  obtain ⟨p, c, c0, c1, hrow⟩ := h.form
  obtain ⟨rb, sv, mb, rfl, l1, l2, l3, c2, c3, hS⟩ := hrow s ks hs
  have hsl := (List.getElem?_eq_some_iff.1 hs).1
  obtain ⟨ss, gg, nn, r1, r2, r3, r4, r5, r6, r7⟩ := hS
  obtain ⟨z, hz, hlk⟩ := look_K r5 (pk k) (pk_ok hk)
  rw [r7 _ (pk_ok hk)] at hz hlk
  have hP := Lib.hid (c_Splain k hk.1)
  have hI := Lib.hid (c_Sis ((h.turn (Turn.of_below (fun _ => False) (w' := w.alloc (.cells #[.string k.1, .int .i64 k.2] 31)) hN ((Below.refl _ w).alloc (Nat.le_refl _) _)) id id id id)) s hsl)
  have b0 := two_belowH w
  have a0 := heap_alloc_new w (.cells #[.string k.1, .int .i64 k.2] 31)
  have p1 : (0 : Int) ≤ (s : Int) := by omega
  have p2 : (s : Int) < (L.length : Int) := by omega
  unfold keyV
  obtain ⟨ks0, kn⟩ := k
  dsimp only at *
  generalize pk (ks0, kn) = K at *
  clear h hrow hs r3 r4 r5 r6 r7 b0 a0
  go_enter Tryz.func111, Tryz.ntmps111
  go_wp2_with (go_at_call 69; refine hI.out.mono ?_; rintro e w1 ⟨rfl, rfl⟩)
  have e1 : (w.alloc (.cells #[.string ks0, .int .i64 kn] 31)).cell? ⟨w.heap.size, 0, none⟩ = some (.string ks0) := by rw [cell_of_row _ w.heap.size 0 _ _ _ (heap_alloc_new w _)]; rfl
  have e2 : (w.alloc (.cells #[.string ks0, .int .i64 kn] 31)).cell? ⟨w.heap.size, 1, none⟩ = some (.int .i64 kn) := by rw [cell_of_row _ w.heap.size 1 _ _ _ (heap_alloc_new w _)]; rfl
  have hal : Below w.heap.size w (w.alloc (.cells #[.string ks0, .int .i64 kn] 31)) := (Below.refl _ w).alloc (Nat.le_refl _) _
  have hsz : (w.alloc (.cells #[.string ks0, .int .i64 kn] 31)).heap.size = w.heap.size + 1 := by simp
  generalize w.alloc (.cells #[.string ks0, .int .i64 kn] 31) = W at *
  rw [← hal.cell l1] at c1
  rw [← hal.cell l2] at c2 c3
  have m0 : W.heap[mb]? = w.heap[mb]? := hal.block mb l3
  rw [← m0] at hlk
  have l0 : w.heap.size < W.heap.size := by omega
  replace l1 : tb < W.heap.size := by omega
  replace l2 : rb < W.heap.size := by omega
  replace l3 : mb < W.heap.size := by omega
  clear c0 m0
  replace hsz := Lib.hid hsz
  have hlen : ss.length = ks.length := by rw [← r2]; simp
  cases hidx : idx ks K with
  | none =>
    rw [hidx] at hlk
    dsimp only [Option.map, Option.isSome] at hlk
    go_region_held3 (fun y => (∀ a : Addr, a.block < W.heap.size → y.cell? a = W.cell? a) ∧ (∀ b : Nat, b < W.heap.size → y.heap[b]? = W.heap[b]?) ∧ Below W.heap.size W y) (first | assumption | exact onto_drew W | exact onto_below (by assumption) (by assumption)) (first | (go_at_call 115; refine (hP.out _).mono ?_; rintro e y' ⟨rfl, hb⟩))
    have hO := Lib.hid (onto_below (onto_drew W) hb)
    clear hb
    go_wp2
    go_ret3
    exact ⟨hal.trans (hO.out.2.2.mono (by have := hsz.out; omega)), .inr ⟨hidx, rfl⟩⟩
  | some i =>
    rw [hidx] at hlk hz
    dsimp only [Option.map, Option.isSome] at hlk
    obtain rfl := hz _ rfl
    have hi : i < ss.length := by rw [hlen]; exact idx_lt hidx
    obtain ⟨g, cap, rfl, g1, g2⟩ := r1.1.form (by omega)
    have hg := (r1.1.lt g rfl).2
    have c4 := r1.1.cells (g := g) rfl _ _ (flatS_get (List.getElem?_eq_getElem hi)).2.2
    rw [add_zero_addr] at c4
    generalize ss[i].2 = fl at *
    rw [← hal.cell (show ({ block := g, off := i * 3 + 2, spot := none } : Addr).block < _ from hg)] at c4
    replace hg : g < W.heap.size := by have := hsz.out; omega
    have p3 : (0 : Int) ≤ (i : Int) := by omega
    have p4 : (i : Int) < (ss.length : Int) := by omega
    go_region_held3 (fun y => (∀ a : Addr, a.block < W.heap.size → y.cell? a = W.cell? a) ∧ (∀ b : Nat, b < W.heap.size → y.heap[b]? = W.heap[b]?) ∧ Below W.heap.size W y) (first | assumption | exact onto_drew W | exact onto_below (by assumption) (by assumption)) (first | (go_at_call 115; refine (hP.out _).mono ?_; rintro e y' ⟨rfl, hb⟩))
    have hO := onto_below (onto_drew W) hb
    rw [← hO.1 _ (show (⟨tb, 1, none⟩ : Addr).block < _ from l1)] at c1
    rw [← hO.1 _ (show (⟨rb, s * 2, none⟩ : Addr).block < _ from l2)] at c2
    rw [← hO.1 _ (show (⟨g, i * 3 + 2, none⟩ : Addr).block < _ from hg)] at c4
    replace hO := Lib.hid hO
    clear hb hlk
    go_wp2_with fail
    clear r1 r2 hz
    go_quiet (fail)
    go_wp2
    go_ret3
    exact ⟨bel_drewN (hal.trans (hO.out.2.2.mono (by have := hsz.out; omega))) _, .inl ⟨i, fl, hidx, rfl⟩⟩
end Go.Proofs.YtoccmiinkfhohaaGreat
namespace Go.Proofs.YtoccmiinkfhohaaGreat
open Go.RowKit Go.Shelf Go.Lib Go.Sort Go.Proofs Go.Maps
set_option maxHeartbeats 1000000
set_option maxRecDepth 100000

theorem look_W {w : World} {f : Nat → Nat} {c b n : Nat} {g : Lit → Option Int} (h : MapO w f c 189 b n g) (fr : Int) (ch : Bool) (x : KK) (fl : Int) (hx : okK x) (hf : (Lit.int .i64 fr).wf = true) (hg : (Lit.int .i64 fl).wf = true) :
    ∃ z : Int, (∀ i, g (klW fr ch x fl) = some i → z = i) ∧ ∀ y : World, y.heap[b]? = w.heap[b]? → (Instr.lookup 121 (.map (some b)) (.agg #[.int .i64 fr, .bool ch, .string x.1, .int .i64 x.2, .int .i64 fl]) true).run Tryz.prog y = .ok (.tuple #[.int .i64 z, .bool (g (klW fr ch x fl)).isSome]) y := by
  obtain ⟨⟨D, ⟨es, cl, h1, h2⟩, h3, h4⟩, h5⟩ := h
  have hz : plainElem (H := Unit) Tryz.prog 3 (.int .i64 0) = some (.lit (.int .i64 0), []) := plainElem_int Tryz.underlying3 (by decide)
  have key : ∀ y : World, y.heap[b]? = w.heap[b]? → ∃ z : Int, D.atKey (klW fr ch x fl) (.lit (.int .i64 0)) = .lit (.int .i64 z) ∧ (Instr.lookup 121 (.map (some b)) (.agg #[.int .i64 fr, .bool ch, .string x.1, .int .i64 x.2, .int .i64 fl]) true).run Tryz.prog y = .ok (.tuple #[.int .i64 z, .bool (g (klW fr ch x fl)).isSome]) y := by
    intro y hy
    have hm : y.ownsMap Tryz.prog 189 (plainElem Tryz.prog 3) b (Maps.size D) D := ⟨es, cl, hy.trans h1, h2⟩
    obtain ⟨v, ps, hr, hv⟩ := hm.look_ok lawWay Tryz.underlying121 (zeroIntH y) hz (keyOf_W fr ch x fl hx hf hg)
    obtain ⟨z, rfl, hzz, _⟩ := plainElem_int_inv Tryz.underlying3 hv
    refine ⟨z, congrArg Prod.fst hzz, ?_⟩
    rw [← (h3 (klW fr ch x fl)).1]
    exact hr
  obtain ⟨z, hz1, _⟩ := key w rfl
  refine ⟨z, fun i hi => ?_, fun y hy => ?_⟩
  · have := (h3 (klW fr ch x fl)).2 i hi
    rw [hz1] at this
    injection this with this
    injection this
  · obtain ⟨z', hz2, hr⟩ := key y hy
    rw [hz1] at hz2
    injection hz2 with hz2
    injection hz2 with _ hz2
    subst hz2
    exact hr
/-- y has all that W has, but for the map in block b -/
theorem but_drew (W : World) (b : Nat) : (∀ a : Addr, a.block < W.heap.size → a.block ≠ b → W.drew.cell? a = W.cell? a) ∧ W.grownBy W.drew (some b) := ⟨fun _ _ _ => rfl, ⟨rfl, rfl, rfl, Nat.le_refl _, fun _ _ _ => rfl⟩⟩
theorem but_below {W y y' : World} {b : Nat} (h : (∀ a : Addr, a.block < W.heap.size → a.block ≠ b → y.cell? a = W.cell? a) ∧ W.grownBy y (some b)) (hb : Below y.heap.size y y') :
    (∀ a : Addr, a.block < W.heap.size → a.block ≠ b → y'.cell? a = W.cell? a) ∧ W.grownBy y' (some b) := by
  obtain ⟨h1, h2⟩ := h
  exact ⟨fun a ha hne => by rw [hb.cell (Nat.lt_of_lt_of_le ha h2.size)]; exact h1 a ha hne, ⟨hb.os.trans h2.os, hb.tape.trans h2.tape, hb.output.trans h2.output, Nat.le_trans h2.size hb.size, fun r hr hne => (hb.block r (Nat.lt_of_lt_of_le hr h2.size)).trans (h2.block r hr hne)⟩⟩
theorem but_turned {W y y' : World} {b : Nat} (h : (∀ a : Addr, a.block < W.heap.size → a.block ≠ b → y.cell? a = W.cell? a) ∧ W.grownBy y (some b)) (ht : y.mapTurned y' b) :
    (∀ a : Addr, a.block < W.heap.size → a.block ≠ b → y'.cell? a = W.cell? a) ∧ W.grownBy y' (some b) := by
  obtain ⟨h1, h2⟩ := h
  have hg := ht.grown
  exact ⟨fun a ha hne => (World.cell?_of_block (hg.block a.block (Nat.lt_of_lt_of_le ha h2.size) (fun e => hne (Option.some.inj e)))).trans (h1 a ha hne), ⟨hg.os.trans h2.os, hg.tape.trans h2.tape, hg.output.trans h2.output, Nat.le_trans h2.size hg.size, fun r hr hne => (hg.block r (Nat.lt_of_lt_of_le hr h2.size) hne).trans (h2.block r hr hne)⟩⟩
/-- S of a region in which a map is written: all else is W's, the map is as it was or has one pair more -/
def ButU (W : World) (k : TypeId) (b n : Nat) (g : Lit → Option Int) (kl : Lit) (v : Int) (y : World) : Prop :=
  ((∀ a : Addr, a.block < W.heap.size → a.block ≠ b → y.cell? a = W.cell? a) ∧ W.grownBy y (some b)) ∧ MapU y k b n g kl v ∧ b < W.heap.size
theorem MapU.at {w w' : World} {k : TypeId} {b n : Nat} {g : Lit → Option Int} {kl : Lit} {v : Int} (h : MapU w k b n g kl v) (hb : w'.heap[b]? = w.heap[b]?) : MapU w' k b n g kl v := by
  rcases h with h | ⟨g', h, r⟩
  · exact .inl (h.at hb)
  · exact .inr ⟨g', h.at hb, r⟩
theorem MapU.lt {w : World} {k : TypeId} {b n : Nat} {g : Lit → Option Int} {kl : Lit} {v : Int} (h : MapU w k b n g kl v) : b < w.heap.size := by
  rcases h with h | ⟨g', h, r⟩
  · exact h.lt
  · exact h.lt
theorem butU_start {W : World} {k : TypeId} {b n : Nat} {g : Lit → Option Int} {kl : Lit} {v : Int} (h : MapU W k b n g kl v) :
    ((∀ a : Addr, a.block < W.heap.size → a.block ≠ b → W.drew.cell? a = W.cell? a) ∧ W.grownBy W.drew (some b)) ∧ MapU W.drew k b n g kl v ∧ b < W.heap.size := ⟨but_drew W b, h.at rfl, h.lt⟩
theorem butU_below {W y y' : World} {k : TypeId} {b n : Nat} {g : Lit → Option Int} {kl : Lit} {v : Int} (h : ((∀ a : Addr, a.block < W.heap.size → a.block ≠ b → y.cell? a = W.cell? a) ∧ W.grownBy y (some b)) ∧ MapU y k b n g kl v ∧ b < W.heap.size) (hb : Below y.heap.size y y') :
    ((∀ a : Addr, a.block < W.heap.size → a.block ≠ b → y'.cell? a = W.cell? a) ∧ W.grownBy y' (some b)) ∧ MapU y' k b n g kl v ∧ b < W.heap.size := ⟨but_below h.1 hb, h.2.1.at (hb.block b h.2.1.lt), h.2.2⟩
theorem butU_turn {W y y' : World} {k : TypeId} {b n : Nat} {g : Lit → Option Int} {kl : Lit} {v : Int} (h : ((∀ a : Addr, a.block < W.heap.size → a.block ≠ b → y.cell? a = W.cell? a) ∧ W.grownBy y (some b)) ∧ MapU y k b n g kl v ∧ b < W.heap.size)
    (hU : (∃ g', MapG y' k b (n + 1) g' ∧ g' kl = some v ∧ ∀ l, l ≠ kl → g' l = g l) ∧ y.mapTurned y' b) :
    ((∀ a : Addr, a.block < W.heap.size → a.block ≠ b → y'.cell? a = W.cell? a) ∧ W.grownBy y' (some b)) ∧ MapU y' k b n g kl v ∧ b < W.heap.size := ⟨but_turned h.1 hU.2, .inr hU.1, h.2.2⟩
/-- where a shape is being made: the first i slots stand in the new map -/
def FolI (w : World) (wb mb xb : Nat) (wy : Array Value) (sv : Value) (ks : List KK) (i : Nat) (wr : World) : Prop :=
  (Below w.heap.size w wr ∧ w.heap.size ≤ wb ∧ w.heap.size ≤ mb ∧ w.heap.size ≤ xb ∧ wb ≠ mb ∧ xb ≠ mb) ∧ wr.heap[wb]? = some (.cells wy 189 (0, 0)) ∧ wr.heap[xb]? = some (.cells #[sv, .map (some mb)] 119 (0, 0)) ∧
    ∃ g, MapG wr 31 mb i g ∧ ∀ x, okK x → g (klK x) = (idx (ks.take i) x).map Int.ofNat
theorem FolI.step {w wr W y : World} {wb mb xb : Nat} {wy : Array Value} {sv : Value} {ks : List KK} {i : Nat} {K : KK} {o : Obj} (h : FolI w wb mb xb wy sv ks i wr) (hW : wr.alloc o = W) (hK : ks[i]? = some K) (hn : ks.Nodup) (ho : okK K)
    {g : Lit → Option Int} (hg : ∀ x, okK x → g (klK x) = (idx (ks.take i) x).map Int.ofNat)
    (hb : W.grownBy y (some mb)) (hy : ∃ g', MapG y 31 mb (i + 1) g' ∧ g' (klK K) = some (i : Int) ∧ ∀ l, l ≠ klK K → g' l = g l) : FolI w wb mb xb wy sv ks (i + 1) y := by
  subst hW
  obtain ⟨⟨h1, l1, l2, l3, l4, l5⟩, h2, h3, _⟩ := h
  obtain ⟨g', q1, q2, q3⟩ := hy
  have hal : Below w.heap.size w (wr.alloc o) := h1.alloc h1.size o
  have hlt2 := heapH_lt h2
  have hlt3 := heapH_lt h3
  refine ⟨⟨⟨hb.os.trans hal.os, hb.tape.trans hal.tape, hb.output.trans hal.output, Nat.le_trans hal.size hb.size, fun r hr => (hb.block r (Nat.lt_of_lt_of_le hr hal.size) (fun e => by have := Option.some.inj e; omega)).trans (hal.block r hr)⟩, l1, l2, l3, l4, l5⟩, ?_, ?_, g', q1, ?_⟩
  · rw [hb.block _ (by simp; omega) (fun e => l4 (Option.some.inj e)), Below.heap_alloc _ _ _ hlt2]; exact h2
  · rw [hb.block _ (by simp; omega) (fun e => l5 (Option.some.inj e)), Below.heap_alloc _ _ _ hlt3]; exact h3
  · intro x hx
    have hi := (List.getElem?_eq_some_iff.1 hK).1
    have htk : ks.take (i + 1) = ks.take i ++ [K] := by rw [List.take_add_one, hK]; rfl
    have hlen : (ks.take i).length = i := by simp; omega
    rw [htk, idx_snoc, hlen]
    by_cases e : x = K
    · subst e
      have hnot : idx (ks.take i) x = none := by
        rw [idx_none]
        intro hm
        rw [← List.take_append_drop i ks, List.nodup_append] at hn
        have hd : x ∈ ks.drop i := by
          have : (ks.drop i)[0]? = some x := by simp [hK]
          exact List.mem_of_getElem? this
        exact hn.2.2 x hm x hd rfl
      rw [q2, hnot]
      simp
    · have e' : klK x ≠ klK K := fun h => e (klK_inj hx ho h)
      rw [q3 _ e', hg x hx]
      have e2 : ¬ K = x := fun h => e h.symm
      cases idx (ks.take i) x <;> simp [e2]
theorem FolI.start {w W : World} {wb : Nat} {wy : Array Value} (sv : Value) (ks : List KK) (h : Below w.heap.size w W) (hw : W.heap[wb]? = some (.cells wy 189 (0, 0))) (hl : w.heap.size ≤ wb) :
    FolI w wb W.heap.size (W.heap.size + 1) wy sv ks 0 ((W.alloc (.map #[] 0)).alloc (.cells #[sv, .map (some W.heap.size)] 119)).drew := by
  have b := ((h.alloc h.size (.map #[] 0)).alloc (by simp; exact Nat.le_succ_of_le h.size) (.cells #[sv, .map (some W.heap.size)] 119))
  have hlt := heapH_lt hw
  refine ⟨⟨b.drew, hl, h.size, Nat.le_succ_of_le h.size, by omega, by omega⟩, ?_, ?_, fun _ => none, ?_, fun x _ => by simp [idx]⟩
  · show ((W.alloc (.map #[] 0)).alloc _).heap[wb]? = _
    rw [Below.heap_alloc _ _ _ (by simp; omega), Below.heap_alloc _ _ _ hlt]
    exact hw
  · exact heap_alloc2_new W _ _
  · have h1 : MapG (W.alloc (.map #[] 0)) 31 W.heap.size 0 (fun _ => none) := MapG.made _ _ _
    exact h1.at (by show ((W.alloc (.map #[] 0)).alloc _).heap[W.heap.size]? = _; rw [Below.heap_alloc _ _ _ (by simp)])
theorem FolI.cells {w wr : World} {wb mb xb : Nat} {wy : Array Value} {sv : Value} {ks : List KK} {i : Nat} (h : FolI w wb mb xb wy sv ks i wr) :
    wr.cell? ⟨xb, 0, none⟩ = some sv ∧ wr.cell? ⟨xb, 1, none⟩ = some (.map (some mb)) ∧ xb < wr.heap.size ∧ mb < wr.heap.size ∧ xb ≠ mb ∧ w.heap.size ≤ mb ∧ Below w.heap.size w wr := by
  obtain ⟨⟨h1, l1, l2, l3, l4, l5⟩, h2, h3, g, h4, _⟩ := h
  refine ⟨?_, ?_, heapH_lt h3, h4.lt, l5, l2, h1⟩
  · rw [cell_of_row _ _ 0 _ _ _ h3]; rfl
  · rw [cell_of_row _ _ 1 _ _ _ h3]; rfl
/-- the tree's ways tell where a way leads -/
def WayAt (w : World) (tb : Nat) (kl : Lit) (t : Nat) : Prop :=
  ∃ (rv : Value) (bw n : Nat) (gw : Lit → Option Int), w.heap[tb]? = some (.cells #[.int .i64 1, rv, .map (some bw)] 123 (0, 0)) ∧ MapG w 189 bw n gw ∧ gw kl = some (t : Int)
theorem WayAt.keep {w w' : World} {tb : Nat} {kl : Lit} {t : Nat} (h : WayAt w tb kl t) (hb : Below w.heap.size w w') : WayAt w' tb kl t := by
  obtain ⟨rv, bw, n, gw, h1, h2, h3⟩ := h
  exact ⟨rv, bw, n, gw, (hb.block tb (heapH_lt h1)).trans h1, h2.at (hb.block bw h2.lt), h3⟩
theorem ownB_of {w : World} {B e size n gg : Nat} {v : Value} {xs : List Value} (h : w.ownsRow B e size v n xs) (hb : v.ownBlock = some gg) : gg < w.heap.size := (h.lt gg hb).2
theorem fol_done {w wr w5 w7 : World} {f : Nat → Nat} {tb bw n wb mb xb gg cap : Nat} {rv sv : Value} {L : List (List KK)} {ents : List (Value × Nat)} {gw : Lit → Option Int} {wy : Array Value} {ss : List SL} {o : Obj} {T A : List KK} {a : Nat} {ch : Bool} {k : KK} {fl : Int}
    (hN : Norm f w) (q1 : w.heap[tb]? = some (.cells #[.int .i64 1, rv, .map (some bw)] 123 (0, 0)) ∧ f tb = 3) (q2 : RowO w f 4 119 2 rv L.length (flatE ents)) (q3 : ents.length = L.length) (q4 : MapO w f 5 189 bw n gw) 
    (q6 : ∀ (a : Int) (ch : Bool) (k : KK) (fl t : Int), okK k → (Lit.int .i64 a).wf = true → (Lit.int .i64 fl).wf = true → gw (klW a ch k fl) = some t → ∃ (i j : Nat) (A : List KK), a = i ∧ t = j ∧ L[i]? = some A ∧ L[j]? = some (if ch then A else A ++ [k]))
    (q7 : ∀ (i : Nat) (ks : List KK), L[i]? = some ks → ∃ e : Value × Nat, ents[i]? = some e ∧ ShapeO w f e.1 e.2 ks)
    (hA : L[a]? = some A) (hk : okK k) (hwa : (Lit.int .i64 (a : Int)).wf = true) (hfl : (Lit.int .i64 fl).wf = true) (hT : T = if ch then A else A ++ [k])
    (hsv : RowO w f 9 161 3 sv ss.length (flatS ss)) (hks : ss.map (fun x => pk x.1) = T) (hok : ∀ x ∈ ss, okK x.1) (hnd : T.Nodup)
    (hF : FolI w wb mb xb wy sv T T.length wr) (hg5 : (wr.alloc o).grownBy w5 rv.ownBlock) (hat : rv.ownBlock = some gg ∨ gg = wr.heap.size + 1)
    (hown5 : w5.ownsRow 0 119 2 (.slice (some ⟨gg, 0, none⟩) (L.length + 1) cap) (L.length + 1) (flatE ents ++ [sv, .map (some mb)]))
    (hg7 : (w5.setCell ⟨tb, 1, none⟩ (.slice (some ⟨gg, 0, none⟩) (L.length + 1) cap)).grownBy w7 (some bw))
    (hm7 : ∃ g', MapG w7 189 bw (L.length + 1) g' ∧ g' (klW (a : Int) ch k fl) = some (L.length : Int) ∧ ∀ l, l ≠ klW (a : Int) ch k fl → g' l = gw l) :
    ∃ f', Turn (fun c => c = 3 ∨ c = 4 ∨ c = 5) f f' w w7 ∧ TreeO w7 f' tb (L ++ [T]) ∧ WayAt w7 tb (klW (a : Int) ch k fl) L.length := by
  obtain ⟨⟨b1, l1, l2, l3, l4, l5⟩, h2, h3, g, h4, h5⟩ := hF
  have htb := heapH_lt q1.1
  have hbw := q4.lt
  have ntb : rv.ownBlock ≠ some tb := fun e => by have := q2.2 tb e; rw [q1.2] at this; omega
  have nbw : rv.ownBlock ≠ some bw := fun e => by have := q2.2 bw e; rw [q4.2] at this; omega
  have ntw : tb ≠ bw := fun e => by have := q1.2; rw [e, q4.2] at this; omega
  have hsz : wr.heap.size < (wr.alloc o).heap.size := by simp
  have keep5 : ∀ r, r < w.heap.size → rv.ownBlock ≠ some r → w5.heap[r]? = w.heap[r]? := fun r hr hne => by
    have hr2 := Nat.lt_of_lt_of_le hr b1.size
    rw [hg5.block r (by omega) (fun e => hne e.symm), Below.heap_alloc _ _ _ hr2]
    exact b1.block r hr
  have keep7 : ∀ r, r < w5.heap.size → r ≠ tb → r ≠ bw → w7.heap[r]? = w5.heap[r]? := fun r hr h1 h2 => by
    rw [hg7.block r (by simpa [World.setCell] using hr) (fun e => h2 (Option.some.inj e))]
    exact Below.heap_setCell _ _ _ _ h1
  have s5 : wr.heap.size + 1 ≤ w5.heap.size := by have := hg5.size; simp at this; exact this
  have s7 : w5.heap.size ≤ w7.heap.size := by have := hg7.size; simpa [World.setCell] using this
  have sw := b1.size
  have hgg5 : gg < w5.heap.size := (hown5.lt gg rfl).2
  have hggn : gg < w.heap.size → rv.ownBlock = some gg := fun h => by
    rcases hat with h1 | h1
    · exact h1
    · omega
  have hgt : gg ≠ tb := by
    rcases hat with h1 | h1
    · exact fun e => ntb (e ▸ h1)
    · omega
  have hgb : gg ≠ bw := by
    rcases hat with h1 | h1
    · exact fun e => nbw (e ▸ h1)
    · omega
  have hmbr := h4.lt
  have hgm : gg ≠ mb := by
    rcases hat with h1 | h1
    · have := ownB_of q2.1 h1; omega
    · omega
  have tF : Turn (fun c => c = 3 ∨ c = 4 ∨ c = 5) f (give f w w7 (fun r => if r = gg then 4 else 9)) w w7 := by
    refine (Turn.refl _ hN).give _ ?_ ?_ ?_ (by omega) ?_
    · exact hg7.os.trans (hg5.os.trans b1.os)
    · exact hg7.tape.trans (hg5.tape.trans b1.tape)
    · exact hg7.output.trans (hg5.output.trans b1.output)
    · intro r hr hc
      have n1 : r ≠ tb := fun e => hc (by rw [e, q1.2]; exact .inl rfl)
      have n2 : r ≠ bw := fun e => hc (by rw [e, q4.2]; exact .inr (.inr rfl))
      have n3 : rv.ownBlock ≠ some r := fun e => hc (by rw [q2.2 r e]; exact .inr (.inl rfl))
      rw [keep7 r (by omega) n1 n2]
      exact keep5 r hr n3
  obtain ⟨g7, m1, m2, m3⟩ := hm7
  have htb7 : w7.heap[tb]? = some (.cells #[.int .i64 1, .slice (some ⟨gg, 0, none⟩) (L.length + 1) cap, .map (some bw)] 123 (0, 0)) := by
    have e5 : w5.heap[tb]? = some (.cells #[.int .i64 1, rv, .map (some bw)] 123 (0, 0)) := (keep5 tb htb ntb).trans q1.1
    rw [hg7.block tb (by simp [World.setCell]; omega) (fun e => ntw (Option.some.inj e)), heap_setCell_same w5 tb 1 _ _ _ e5]
    rfl
  refine ⟨_, tF, ⟨.slice (some ⟨gg, 0, none⟩) (L.length + 1) cap, bw, L.length + 1, ents ++ [(sv, mb)], g7, ?_⟩, ⟨_, bw, L.length + 1, g7, htb7, m1, m2⟩⟩
  have hlen : (L ++ [T]).length = L.length + 1 := by simp
  have hget : ∀ (i : Nat) ks, L[i]? = some ks → (L ++ [T])[i]? = some ks := fun i ks h => by
    rw [List.getElem?_append_left (List.getElem?_eq_some_iff.1 h).1]; exact h
  have hlast : (L ++ [T])[L.length]? = some T := by simp
  refine ⟨⟨?_, ?_⟩, ⟨?_, ?_⟩, by simp [q3], ⟨m1, ?_⟩, by simp, ?_, ?_⟩
  · exact htb7
  · rw [tF.agree tb htb]; exact q1.2
  · rw [hlen]
    have e : flatE (ents ++ [(sv, mb)]) = flatE ents ++ [sv, .map (some mb)] := by simp [flatE, encE]
    rw [e]
    exact own_at hown5 fun r hr => by
      simp [Value.ownBlock] at hr
      subst hr
      exact keep7 gg hgg5 hgt hgb
  · intro r hr
    simp [Value.ownBlock] at hr
    subst hr
    rcases Nat.lt_or_ge gg w.heap.size with hlt | hge
    · rw [tF.agree gg hlt]; exact q2.2 gg (hggn hlt)
    · rw [give_new hge (by omega)]; simp
  · rw [tF.agree bw hbw]; exact q4.2
  · intro a' ch' k' fl' t hk' hwa' hfl' ht
    by_cases e : klW a' ch' k' fl' = klW (a : Int) ch k fl
    · obtain ⟨rfl, rfl, rfl, rfl⟩ := klW_inj hk' hk hwa' hwa hfl' hfl e
      rw [m2] at ht
      exact ⟨a, L.length, A, rfl, (Option.some.inj ht).symm, hget _ _ hA, by rw [← hT]; exact hlast⟩
    · rw [m3 _ e] at ht
      obtain ⟨i, j, A', r1, r2, r3, r4⟩ := q6 _ _ _ _ _ hk' hwa' hfl' ht
      exact ⟨i, j, A', r1, r2, hget _ _ r3, hget _ _ r4⟩
  · intro i ks hi
    rcases Nat.lt_or_ge i L.length with hlt | hge
    · rw [List.getElem?_append_left hlt] at hi
      obtain ⟨e, he, hS⟩ := q7 i ks hi
      exact ⟨e, by rw [List.getElem?_append_left (by omega)]; exact he, hS.turn tF (by omega)⟩
    · have hi' := (List.getElem?_eq_some_iff.1 hi).1
      rw [hlen] at hi'
      obtain rfl : i = L.length := by omega
      rw [hlast] at hi
      obtain rfl := Option.some.inj hi
      refine ⟨(sv, mb), by simp [← q3], ss, g, T.length, hsv.turn tF (by omega), hks, hok, hnd, ⟨?_, ?_⟩, Nat.le_refl _, fun x hx => by rw [h5 x hx, List.take_length]⟩
      · refine h4.at ?_
        have nb : mb ≠ bw := by omega
        have nt : mb ≠ tb := by omega
        rw [keep7 mb (by omega) nt nb, hg5.block mb (by omega) (fun e => by have := ownB_of q2.1 e.symm; omega), Below.heap_alloc _ _ _ hmbr]
      · rw [give_new l2 (by omega)]
        have : ¬ mb = gg := fun e => hgm e.symm
        simp [this]
theorem MapG.mono {w : World} {k : TypeId} {b n m : Nat} {g : Lit → Option Int} (h : MapG w k b n g) (hn : n ≤ m) : MapG w k b m g := by
  obtain ⟨D, h1, h2, h3⟩ := h
  exact ⟨D, h1, h2, Nat.le_trans h3 hn⟩
theorem grown_undrew {w w' : World} {r : Option Nat} (h : w.drew.grownBy w' r) : w.grownBy w' r := ⟨h.os, h.tape, h.output, h.size, h.block⟩
theorem fol_mid {w wr w5 : World} {f : Nat → Nat} {tb bw n wb mb xb gg cap : Nat} {rv sv : Value} {L : List (List KK)} {ents : List (Value × Nat)} {gw : Lit → Option Int} {wy : Array Value} {o : Obj} {T : List KK} {i : Nat}
    (q1 : w.heap[tb]? = some (.cells #[.int .i64 1, rv, .map (some bw)] 123 (0, 0)) ∧ f tb = 3) (q2 : RowO w f 4 119 2 rv L.length (flatE ents)) (q4 : MapO w f 5 189 bw n gw) (q5 : n ≤ L.length)
    (hF : FolI w wb mb xb wy sv T i wr) (hg5 : (wr.alloc o).grownBy w5 rv.ownBlock) (kl : Lit) :
    (w5.setCell ⟨tb, 1, none⟩ (.slice (some ⟨gg, 0, none⟩) (L.length + 1) cap)).heap[tb]? = some (.cells #[.int .i64 1, .slice (some ⟨gg, 0, none⟩) (L.length + 1) cap, .map (some bw)] 123 (0, 0)) ∧
    (w5.setCell ⟨tb, 1, none⟩ (.slice (some ⟨gg, 0, none⟩) (L.length + 1) cap)).heap[wb]? = some (.cells wy 189 (0, 0)) ∧ wb ≠ bw ∧ tb ≠ bw ∧
    MapU (w5.setCell ⟨tb, 1, none⟩ (.slice (some ⟨gg, 0, none⟩) (L.length + 1) cap)) 189 bw L.length gw kl (L.length : Int) := by
  obtain ⟨⟨b1, l1, l2, l3, l4, l5⟩, h2, h3, g, h4, h5⟩ := hF
  have htb := heapH_lt q1.1
  have hbw := q4.lt
  have ntb : rv.ownBlock ≠ some tb := fun e => by have := q2.2 tb e; rw [q1.2] at this; omega
  have nbw : rv.ownBlock ≠ some bw := fun e => by have := q2.2 bw e; rw [q4.2] at this; omega
  have ntw : tb ≠ bw := fun e => by have := q1.2; rw [e, q4.2] at this; omega
  have nwb : rv.ownBlock ≠ some wb := fun e => by have := ownB_of q2.1 e; omega
  have keep5 : ∀ r, r < wr.heap.size → rv.ownBlock ≠ some r → w5.heap[r]? = wr.heap[r]? := fun r hr hne => by
    rw [hg5.block r (by simp; omega) (fun e => hne e.symm), Below.heap_alloc _ _ _ hr]
  have sw := b1.size
  refine ⟨?_, ?_, by omega, ntw, .inl ?_⟩
  · have e5 : w5.heap[tb]? = some (.cells #[.int .i64 1, rv, .map (some bw)] 123 (0, 0)) := ((keep5 tb (by omega) ntb).trans (b1.block tb htb)).trans q1.1
    rw [heap_setCell_same w5 tb 1 _ _ _ e5]
    rfl
  · rw [Below.heap_setCell _ _ _ _ (show wb ≠ tb by omega), keep5 wb (heapH_lt h2) nwb]; exact h2
  · refine (q4.1.mono q5).at ?_
    rw [Below.heap_setCell _ _ _ _ (show bw ≠ tb from fun e => ntw e.symm), keep5 bw (by omega) nbw]
    exact b1.block bw hbw
theorem infoShape : (Tryz.prog.info? 119).map (fun i => (i.zero, i.size, i.bytes)) = some (some (.agg #[.slice none 0 0, .map none]), 2, 32) := by kernel_rfl
theorem tb_after {w w5 : World} {tb i : Nat} {rv u : Value} {o : Obj} (hc : w.cell? ⟨tb, i, none⟩ = some u) (hf : w.frozen? ⟨tb, i, none⟩ = false) (hl : tb < w.heap.size) (hn : rv.ownBlock ≠ some tb) (hg : (w.alloc o).drew.grownBy w5 rv.ownBlock) :
    w5.cell? ⟨tb, i, none⟩ = some u ∧ w5.frozen? ⟨tb, i, none⟩ = false := by
  have h : w5.heap[tb]? = w.heap[tb]? := (hg.block tb (by simp; omega) (fun e => hn e.symm)).trans (Below.heap_alloc w _ _ hl)
  exact ⟨(World.cell?_of_block (w := w) h).trans hc, (World.frozen?_of_block (w := w) h).trans hf⟩
theorem c_SfollowY {w : World} {tb : Nat} (a : Nat) (ch : Bool) (k : KK) (hk : okK k) (fl : Int) (hfl : (Lit.int .i64 fl).wf = true) (hwa : (Lit.int .i64 (a : Int)).wf = true) (sv : Value) (j : Nat) (h : WayAt w tb (klW (a : Int) ch k fl) j) :
    Calls Tryz.prog 117 #[.pointer (some ⟨tb, 0, none⟩), .agg #[.int .i64 (a : Int), .bool ch, .string k.1, .int .i64 k.2, .int .i64 fl], sv] w fun e w' => e = .returned (.tuple #[.int .i64 (j : Int), .int .i64 0]) ∧ Below w.heap.size w w' := by
  obtain ⟨rv, bw, n, gw, q1, q4, hgw⟩ := h
  obtain ⟨z, hz, hlk⟩ := look_W (f := fun _ => 0) (c := 0) ⟨q4, rfl⟩ (a : Int) ch k fl hk hwa hfl
  have hal : Below w.heap.size w (w.alloc (.cells #[.int .i64 (a : Int), .bool ch, .string k.1, .int .i64 k.2, .int .i64 fl] 189)) := (Below.refl _ w).alloc (Nat.le_refl _) _
  have c2 : w.cell? ⟨tb, 2, none⟩ = some (.map (some bw)) := by rw [cell_of_row w tb 2 _ _ _ q1]; rfl
  have l1 := heapH_lt q1
  have l2 := q4.lt
  have hwb := heap_alloc_new w (.cells #[.int .i64 (a : Int), .bool ch, .string k.1, .int .i64 k.2, .int .i64 fl] 189)
  have hsz : (w.alloc (.cells #[.int .i64 (a : Int), .bool ch, .string k.1, .int .i64 k.2, .int .i64 fl] 189)).heap.size = w.heap.size + 1 := by simp
  rw [hgw] at hlk hz
  dsimp only [Option.isSome] at hlk
  obtain rfl := hz _ rfl
  clear hz q1 q4 hgw hwa hfl hk
  go_enter Tryz.func117, Tryz.ntmps117
  go_wp2_with fail
  generalize w.alloc (.cells #[.int .i64 (a : Int), .bool ch, .string k.1, .int .i64 k.2, .int .i64 fl] 189) = W at *
  have e0 : W.cell? ⟨w.heap.size, 0, none⟩ = some (.int .i64 (a : Int)) := by rw [cell_of_row _ w.heap.size 0 _ _ _ hwb]; rfl
  have e1 : W.cell? ⟨w.heap.size, 1, none⟩ = some (.bool ch) := by rw [cell_of_row _ w.heap.size 1 _ _ _ hwb]; rfl
  have e2 : W.cell? ⟨w.heap.size, 2, none⟩ = some (.string k.1) := by rw [cell_of_row _ w.heap.size 2 _ _ _ hwb]; rfl
  have e3 : W.cell? ⟨w.heap.size, 3, none⟩ = some (.int .i64 k.2) := by rw [cell_of_row _ w.heap.size 3 _ _ _ hwb]; rfl
  have e4 : W.cell? ⟨w.heap.size, 4, none⟩ = some (.int .i64 fl) := by rw [cell_of_row _ w.heap.size 4 _ _ _ hwb]; rfl
  rw [← hal.cell (show (⟨tb, 2, none⟩ : Addr).block < _ from l1)] at c2
  rw [← hal.block bw l2] at hlk
  have l0 : w.heap.size < W.heap.size := by omega
  replace l1 : tb < W.heap.size := by omega
  replace l2 : bw < W.heap.size := by omega
  replace hsz := Lib.hid hsz
  clear hwb
  go_region_held3 (fun y => (∀ a : Addr, a.block < W.heap.size → y.cell? a = W.cell? a) ∧ (∀ b : Nat, b < W.heap.size → y.heap[b]? = W.heap[b]?) ∧ Below W.heap.size W y) (first | assumption | exact onto_drew W) (fail)
  go_wp2
  go_ret2
  exact ⟨rfl, hal.drew⟩
theorem c_Sfollow {w : World} {f : Nat → Nat} {tb : Nat} {L : List (List KK)} (hN : Norm f w) (h : TreeO w f tb L) (hL : L.length < 100000) (a : Nat) (A : List KK) (hA : L[a]? = some A) (ch : Bool) (k : KK) (hk : okK k) (fl : Int) (hfl : (Lit.int .i64 fl).wf = true)
    (sv : Value) (ss : List SL) (hsv : RowO w f 9 161 3 sv ss.length (flatS ss)) (T : List KK) (hT : T = if ch then A else A ++ [k]) (hks : ss.map (fun x => pk x.1) = T) (hok : ∀ x ∈ ss, okK x.1) (hnd : T.Nodup) (hsl : ss.length ≤ 1000) :
    Calls Tryz.prog 117 #[.pointer (some ⟨tb, 0, none⟩), .agg #[.int .i64 (a : Int), .bool ch, .string k.1, .int .i64 k.2, .int .i64 fl], sv] w fun e w' => ∃ (f' : Nat → Nat) (L' : List (List KK)) (t : Nat), e = .returned (.tuple #[.int .i64 (t : Int), .int .i64 0]) ∧
      Turn (fun c => c = 3 ∨ c = 4 ∨ c = 5) f f' w w' ∧ TreeO w' f' tb L' ∧ L'[t]? = some T ∧ (L' = L ∨ L' = L ++ [T]) ∧ WayAt w' tb (klW (a : Int) ch k fl) t := by
  have h0 := Lib.hid h
  obtain ⟨rv, bw, n, ents, gw, q1, q2, q3, q4, q5, q6, q7⟩ := h
  have hal1 := hsl
  have hwa : (Lit.int .i64 (a : Int)).wf = true := WalkArith.wf_i64 (by have := (List.getElem?_eq_some_iff.1 hA).1; omega)
  obtain ⟨z, hz, hlk⟩ := look_W q4 (a : Int) ch k fl hk hwa hfl
  have hal : Below w.heap.size w (w.alloc (.cells #[.int .i64 (a : Int), .bool ch, .string k.1, .int .i64 k.2, .int .i64 fl] 189)) := (Below.refl _ w).alloc (Nat.le_refl _) _
  have c2 : w.cell? ⟨tb, 2, none⟩ = some (.map (some bw)) := by rw [cell_of_row w tb 2 _ _ _ q1.1]; rfl
  have c1 : w.cell? ⟨tb, 1, none⟩ = some rv := by rw [cell_of_row w tb 1 _ _ _ q1.1]; rfl
  have l1 := heapH_lt q1.1
  have l2 := q4.lt
  have hwb := heap_alloc_new w (.cells #[.int .i64 (a : Int), .bool ch, .string k.1, .int .i64 k.2, .int .i64 fl] 189)
  have hsz : (w.alloc (.cells #[.int .i64 (a : Int), .bool ch, .string k.1, .int .i64 k.2, .int .i64 fl] 189)).heap.size = w.heap.size + 1 := by simp
  cases hgw : gw (klW (a : Int) ch k fl) with
  | some t =>
    obtain ⟨i, j, A', hi, hj, hA', hj'⟩ := q6 _ _ _ _ _ hk hwa hfl hgw
    obtain rfl : i = a := by omega
    rw [hA] at hA'
    obtain rfl := Option.some.inj hA'
    subst hj
    rw [← hT] at hj'
    have hway : WayAt w tb (klW (i : Int) ch k fl) j := ⟨rv, bw, n, gw, q1.1, q4.1, hgw⟩
    refine (c_SfollowY i ch k hk fl hfl hwa sv j hway).mono ?_
    rintro e w' ⟨rfl, hb⟩
    exact ⟨f, L, j, rfl, Turn.of_below _ hN hb, h0.out.turn (Turn.of_below (fun _ => False) hN hb) id id id id, hj', .inl rfl, hway.keep hb⟩
  | none =>
    rw [hgw] at hlk
    dsimp only [Option.isSome] at hlk
    have hrv : ∃ p c, rv = .slice p L.length c := by
      rcases q2.1.2 with ⟨e, h⟩ | ⟨g, cap, cur, e, _⟩
      · rw [h]; exact ⟨_, _, e⟩
      · exact ⟨_, _, e⟩
    obtain ⟨p, c, rfl⟩ := hrv
    have hsf : ∃ p c, sv = .slice p ss.length c := by
      rcases hsv.1.2 with ⟨e, h⟩ | ⟨g, cap, cur, e, _⟩
      · rw [h]; exact ⟨_, _, e⟩
      · exact ⟨_, _, e⟩
    obtain ⟨p', c', rfl⟩ := hsf
    have hge : decide ((100000 : Int) ≤ (L.length : Int)) = false := decide_eq_false (by omega)
    have hst := FolI.start (.slice p' ss.length c') T hal hwb (Nat.le_refl _)
    have hmm := @run_makeMap Tryz.prog
    replace hst := Lib.hid hst
    have hlent : T.length = ss.length := by rw [← hks]; simp
    replace hlent := Lib.hid hlent
    replace hsv := Lib.hid hsv
    replace q1 := Lib.hid q1
    replace q2 := Lib.hid q2
    replace q3 := Lib.hid q3
    replace q4 := Lib.hid q4
    replace q5 := Lib.hid q5
    replace q6 := Lib.hid q6
    replace q7 := Lib.hid q7
    replace hks := Lib.hid hks
    replace hT := Lib.hid hT
    replace hnd := Lib.hid hnd
    replace hgw := Lib.hid hgw
    replace hok := Lib.hid hok
    replace hL := Lib.hid hL
    replace hN := Lib.hid hN
    replace hwa := Lib.hid hwa
    replace hfl := Lib.hid hfl
    replace hsl := Lib.hid hsl
    replace hal1 := Lib.hid hal1
    clear hz
    go_enter Tryz.func117, Tryz.ntmps117
    go_wp2_with fail
    obtain ⟨W, hW⟩ : ∃ W, w.alloc (.cells #[.int .i64 (a : Int), .bool ch, .string k.1, .int .i64 k.2, .int .i64 fl] 189) = W := ⟨_, rfl⟩
    rw [hW] at hal hwb hsz hst ⊢
    have e0 : W.cell? ⟨w.heap.size, 0, none⟩ = some (.int .i64 (a : Int)) := by rw [cell_of_row _ w.heap.size 0 _ _ _ hwb]; rfl
    have e1 : W.cell? ⟨w.heap.size, 1, none⟩ = some (.bool ch) := by rw [cell_of_row _ w.heap.size 1 _ _ _ hwb]; rfl
    have e2 : W.cell? ⟨w.heap.size, 2, none⟩ = some (.string k.1) := by rw [cell_of_row _ w.heap.size 2 _ _ _ hwb]; rfl
    have e3 : W.cell? ⟨w.heap.size, 3, none⟩ = some (.int .i64 k.2) := by rw [cell_of_row _ w.heap.size 3 _ _ _ hwb]; rfl
    have e4 : W.cell? ⟨w.heap.size, 4, none⟩ = some (.int .i64 fl) := by rw [cell_of_row _ w.heap.size 4 _ _ _ hwb]; rfl
    rw [← hal.cell (show (⟨tb, 2, none⟩ : Addr).block < _ from l1)] at c2
    rw [← hal.cell (show (⟨tb, 1, none⟩ : Addr).block < _ from l1)] at c1
    rw [← hal.block bw l2] at hlk
    have l0 : w.heap.size < W.heap.size := by omega
    have l1' : tb < W.heap.size := by omega
    have l2' : bw < W.heap.size := by omega
    replace hsz := Lib.hid hsz
    clear hwb
    go_region_held3 (fun y => (∀ a : Addr, a.block < W.heap.size → y.cell? a = W.cell? a) ∧ (∀ b : Nat, b < W.heap.size → y.heap[b]? = W.heap[b]?) ∧ Below W.heap.size W y) (first | assumption | exact onto_drew W) (fail)
    clear hlk e0 e1 e2 e3 e4
    go_wp2
    obtain ⟨w0, hw0⟩ : ∃ w0, ((W.alloc (.map #[] 0)).alloc (.cells #[.slice p' ss.length c', .map (some W.heap.size)] 119)).drew = w0 := ⟨_, rfl⟩
    rw [hw0] at hst ⊢
    clear hw0
    generalize W.heap.size + 1 = xb at *
    generalize W.heap.size = mb at *
    go_loopw [35] (fun vi wr => ∃ i : Nat, i ≤ ss.length ∧ vi = .int .i64 (i : Int) ∧ FolI w w.heap.size mb xb #[.int .i64 (a : Int), .bool ch, .string k.1, .int .i64 k.2, .int .i64 fl] (.slice p' ss.length c') T i wr) (fun vi _ => ss.length - (intOf vi).toNat)
    case atStart => exact ⟨0, by omega, rfl, hst.out⟩
    case round =>
      obtain ⟨i, hi, rfl, hF⟩ := hrel
      obtain ⟨d1, d2, d3, d4, d5, d6, hbel⟩ := hF.cells
      rcases Nat.lt_or_ge i ss.length with hlt | hge2
      · have hsv' := hsv.out
        obtain ⟨gs, cap, heq, g1, g2⟩ := hsv'.1.form (by omega)
        injection heq with e1 e2 e3
        subst e1
        subst e3
        clear e2
        obtain ⟨x, hx⟩ : ∃ x, ss[i]? = some x := ⟨_, List.getElem?_eq_getElem hlt⟩
        have hTi : T[i]? = some (pk x.1) := by rw [← hks.out]; simp [hx]
        have hgs := (hsv'.1.lt gs rfl).2
        obtain ⟨f1, f2, f3⟩ := flatS_get hx
        have c4 := hsv'.1.cells (g := gs) rfl _ _ f1
        have c5 := hsv'.1.cells (g := gs) rfl _ _ f2
        have c6 := hsv'.1.cells (g := gs) rfl _ _ f3
        rw [add_zero_addr] at c4 c5 c6
        have hoK := hok.out x (List.mem_of_getElem? hx)
        rw [← hbel.cell (show (⟨gs, i * 3, none⟩ : Addr).block < _ from hgs)] at c4
        rw [← hbel.cell (show (⟨gs, i * 3 + 1, none⟩ : Addr).block < _ from hgs)] at c5
        rw [← hbel.cell (show (⟨gs, i * 3 + 2, none⟩ : Addr).block < _ from hgs)] at c6
        obtain ⟨g0, hg0, hg1⟩ := hF.2.2.2
        obtain ⟨Um, hU⟩ := store_U lawKey Tryz.underlying94 (b := mb) (n := i) (g := g0) (keyOf_K (pk x.1) (pk_ok hoK)) (isKey_klK _) (v := (i : Int)) (WalkArith.wf_i64 (by have := hsl.out; omega)) (by have := hsl.out; unfold maxLen; omega)
        have hP := Lib.hid (c_Splain x.1 hoK.1)
        have hst2 := fun (y : World) (hb : (wr.alloc (.cells #[.string x.1.1, .int .i64 x.1.2, .int .i64 x.2] 161)).grownBy y (some mb)) hy => hF.step (o := .cells #[.string x.1.1, .int .i64 x.1.2, .int .i64 x.2] 161) rfl hTi hnd.out (pk_ok hoK) hg1 hb hy
        replace hst2 := Lib.hid hst2
        have q1' : (0 : Int) ≤ (i : Int) := by omega
        have q2' : (i : Int) < (ss.length : Int) := by omega
        have hmi := hg0
        obtain ⟨⟨x0, xn⟩, xf⟩ := x
        dsimp only at *
        generalize pk (x0, xn) = K at *
        replace hF := Lib.hid hF
        replace hg1 := Lib.hid hg1
        clear hsv' f1 f2 f3 hx hTi hgs g1 g2
        go_wp2_with fail
        have hUr := fun y h => (hU y h).1
        have hUt := Lib.hid (fun y h => (hU y h).2)
        clear hU
        obtain ⟨W2, hW2⟩ : ∃ W2, wr.alloc (.cells #[.string x0, .int .i64 xn, .int .i64 xf] 161) = W2 := ⟨_, rfl⟩
        have b0 : W2.cell? ⟨wr.heap.size, 0, none⟩ = some (.string x0) := by rw [← hW2, cell_of_row _ wr.heap.size 0 _ _ _ (heap_alloc_new wr _)]; rfl
        have b1 : W2.cell? ⟨wr.heap.size, 1, none⟩ = some (.int .i64 xn) := by rw [← hW2, cell_of_row _ wr.heap.size 1 _ _ _ (heap_alloc_new wr _)]; rfl
        have hal2 : Below wr.heap.size wr W2 := by rw [← hW2]; exact (Below.refl _ wr).alloc (Nat.le_refl _) _
        have hs2 : W2.heap.size = wr.heap.size + 1 := by rw [← hW2]; simp
        rw [← hal2.cell (show (⟨xb, 1, none⟩ : Addr).block < _ from d3)] at d2
        have hm2 := butU_start (.inl (hg0.at (hal2.block mb d4)) : MapU W2 31 mb i g0 (klK K) (i : Int))
        have t1 : wr.heap.size < W2.heap.size := by omega
        have t2 : xb < W2.heap.size := by omega
        have t3 : wr.heap.size ≠ mb := by omega
        rw [hW2] at hst2 ⊢
        replace hs2 := Lib.hid hs2
        clear hg0 hmi d1 d3 d4 hW2 c4 c5 c6
        go_region_held3 (fun y => ((∀ a : Addr, a.block < W2.heap.size → a.block ≠ mb → y.cell? a = W2.cell? a) ∧ W2.grownBy y (some mb)) ∧ MapU y 31 mb i g0 (klK K) (i : Int) ∧ mb < W2.heap.size) (first | assumption | exact hm2 | exact butU_below (by assumption) (by assumption) | exact butU_turn (by assumption) (hUt.out _ (And.left (And.right (by assumption))))) (first | (go_at_call 115; refine (hP.out _).mono ?_; rintro e y' ⟨rfl, hb⟩))
        have hbU := butU_below hm2 hb
        have hfin := hst2.out (Um y') (butU_turn hbU (hUt.out _ hbU.2.1)).1.2 (hUt.out y' hbU.2.1).1
        have p1 : IntKind.i64.wrap ((i : Int) + 1) = ((i + 1 : Nat) : Int) := by have := hsl.out; rw [IntKind.wrap_i64]; omega
        obtain ⟨w5, hw5⟩ : ∃ w5, Um y' = w5 := ⟨_, rfl⟩
        rw [hw5] at hfin ⊢
        replace hfin := Lib.hid hfin
        clear hbU hw5 hb hm2 hUr hUt hst2 d2 b0 b1
        go_wp2
        go_roundw
        case rel => exact ⟨i + 1, by omega, by go_num, hfin.out⟩
        case measure => simp [intOf]; omega
      · obtain rfl : i = ss.length := by omega
        have hF' : FolI w w.heap.size mb xb #[.int .i64 (a : Int), .bool ch, .string k.1, .int .i64 k.2, .int .i64 fl] (.slice p' ss.length c') T T.length wr := by rw [hlent.out]; exact hF
        replace hF' := Lib.hid hF'
        obtain ⟨i0, hi0, hz0, hz1, hz2⟩ := info_parts infoShape
        have hrow : wr.ownsRow 0 119 2 (.slice p L.length c) L.length (flatE ents) := own_at q2.out.1 (fun r hr => hbel.block r (q2.out.1.lt r hr).2)
        have htw : wr.heap[tb]? = some (.cells #[.int .i64 1, .slice p L.length c, .map (some bw)] 123 (0, 0)) := (hbel.block tb l1).trans q1.out.1
        have ctb : wr.cell? ⟨tb, 1, none⟩ = some (.slice p L.length c) := by rw [cell_of_row wr tb 1 _ _ _ htw]; rfl
        have ftb : wr.frozen? ⟨tb, 1, none⟩ = false := by simp [World.frozen?, htw]
        have ltb := heapH_lt htw
        have ntb : (Value.slice p L.length c).ownBlock ≠ some tb := fun e => by have := q2.out.2 tb e; rw [q1.out.2] at this; omega
        have hm1 : L.length + 1 ≤ maxLen ∧ (L.length + 1) * 32 ≤ 140737488355328 := by have := hL.out; unfold maxLen; omega
        replace hm1 := Lib.hid hm1
        replace htw := Lib.hid htw
        replace ntb := Lib.hid ntb
        replace ltb := Lib.hid ltb
        replace hbel := Lib.hid hbel
        clear hst hmm c1 c2 l0 l1' l2' hi hF d6 hge2
        go_wp2_with fail
        have g4 : ∀ o, (wr.alloc o).cell? ⟨tb, 1, none⟩ = some (.slice p L.length c) := fun o => by rw [((Below.refl wr.heap.size wr).alloc (Nat.le_refl _) o).cell (p := ⟨tb, 1, none⟩) ltb.out]; exact ctb
        refine wp_region_noPanic ?_
        go_region_law (first | (refine step_append_lies _ rfl _ _ _ rfl 0 119 i0 _ 2 32 Tryz.underlying120 hi0 hz0 hz1 hz2 rfl (by omega) (.slice p L.length c) L.length (flatE ents) rfl ((hrow.alloc _).drew) ⟨wr.heap.size, 0, none⟩ 1 1 [.slice p' ss.length c', .map (some mb)] rfl rfl (World.news_of_block (cs := #[.slice p' ss.length c', .map (some mb)]) (t := 119) (fr := (0, 0)) (by exact heap_alloc_new wr _)) (by simp [Value.oneCell']) (by omega) hm1.out.1 hm1.out.2 (by simp) (wr.heap.size + 1) (by simp) ?_; intro gg cap w5 hown5 hg5 hat5 hlt5; obtain ⟨hc5, hf5⟩ := tb_after ctb ftb ltb.out ntb.out hg5))
        all_goals
          refine NoPanic.normal ?_
          have hmid := fol_mid (gg := gg) (cap := cap) q1.out q2.out q4.out q5.out hF'.out (grown_undrew hg5) (klW (a : Int) ch k fl)
          have hdone := fun (w7 : World) hg7 hm7 => fol_done (w7 := w7) hN.out q1.out q2.out q3.out q4.out q6.out q7.out hA hk hwa.out hfl.out hT.out hsv.out hks.out hok.out hnd.out hF'.out (grown_undrew hg5) hat5 hown5 hg7 hm7
          obtain ⟨W5, hW5⟩ : ∃ W5, w5.setCell ⟨tb, 1, none⟩ (.slice (some ⟨gg, 0, none⟩) (L.length + 1) cap) = W5 := ⟨_, rfl⟩
          rw [hW5] at hdone hmid ⊢
          obtain ⟨m1, m2, m3, m4, m5⟩ := hmid
          obtain ⟨U2, hU2⟩ := store_U lawWay Tryz.underlying121 (b := bw) (n := L.length) (g := gw) (keyOf_W (a : Int) ch k fl hk hwa.out hfl.out) (isKey_klW _ _ _ _) (v := (L.length : Int)) (WalkArith.wf_i64 (by have := hL.out; omega)) (by have := hL.out; unfold maxLen; omega)
          unfold wayV at hU2
          have hUr := fun y h => (hU2 y h).1
          have hUt := Lib.hid (fun y h => (hU2 y h).2)
          have t1 := heapH_lt m1
          have t2 := heapH_lt m2
          have hm2 := butU_start m5
          have a1 : W5.cell? ⟨tb, 1, none⟩ = some (.slice (some ⟨gg, 0, none⟩) (L.length + 1) cap) := by rw [cell_of_row _ tb 1 _ _ _ m1]; rfl
          have a2 : W5.cell? ⟨tb, 2, none⟩ = some (.map (some bw)) := by rw [cell_of_row _ tb 2 _ _ _ m1]; rfl
          have b0 : W5.cell? ⟨w.heap.size, 0, none⟩ = some (.int .i64 (a : Int)) := by rw [cell_of_row _ w.heap.size 0 _ _ _ m2]; rfl
          have b1 : W5.cell? ⟨w.heap.size, 1, none⟩ = some (.bool ch) := by rw [cell_of_row _ w.heap.size 1 _ _ _ m2]; rfl
          have b2 : W5.cell? ⟨w.heap.size, 2, none⟩ = some (.string k.1) := by rw [cell_of_row _ w.heap.size 2 _ _ _ m2]; rfl
          have b3 : W5.cell? ⟨w.heap.size, 3, none⟩ = some (.int .i64 k.2) := by rw [cell_of_row _ w.heap.size 3 _ _ _ m2]; rfl
          have b4 : W5.cell? ⟨w.heap.size, 4, none⟩ = some (.int .i64 fl) := by rw [cell_of_row _ w.heap.size 4 _ _ _ m2]; rfl
          have pw : IntKind.i64.wrap (L.length : Int) = (L.length : Int) := by have := hL.out; rw [IntKind.wrap_i64]; omega
          replace hdone := Lib.hid hdone
          clear hU2 hg5 hat5 hown5 hc5 hf5 hlt5 hW5 g4 ctb ftb hrow m5 m1 m2
          go_wp2_with fail
          go_region_held3 (fun y => ((∀ a : Addr, a.block < W5.heap.size → a.block ≠ bw → y.cell? a = W5.cell? a) ∧ W5.grownBy y (some bw)) ∧ MapU y 189 bw L.length gw (klW (a : Int) ch k fl) (L.length : Int) ∧ bw < W5.heap.size) (first | assumption | exact hm2 | exact butU_turn (by assumption) (hUt.out _ (And.left (And.right (by assumption))))) (fail)
          have hbT := butU_turn hm2 (hUt.out _ hm2.2.1)
          obtain ⟨f', r1, r2⟩ := hdone.out _ hbT.1.2 (hUt.out _ hm2.2.1).1
          have a3 := (hbT.1.1 ⟨tb, 1, none⟩ t1 m4).trans a1
          generalize U2 W5.drew = w7 at *
          replace r1 := Lib.hid r1
          replace r2 := Lib.hid r2
          clear hbT hUr hUt hm2 a1 a2 b0 b1 b2 b3 b4 t1 t2 m4
          go_wp2
          go_ret2
          exact ⟨f', L ++ [T], L.length, rfl, r1.out, r2.out.1, by simp, .inr rfl, r2.out.2⟩
end Go.Proofs.YtoccmiinkfhohaaGreat

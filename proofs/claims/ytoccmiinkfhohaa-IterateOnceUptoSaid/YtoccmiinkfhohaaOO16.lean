/-
  Contracts: Enumerations: their state in memory, beside the two heaps. What both heaps tell of an object. The keys of an object lie in a new block (Order clones). Enumerations: a list's rest; what stores leave of a list. Enumerations: the next key.
-/
import Derived.Test.YtoccmiinkfhohaaOO15
import Derived.Test.YtoccmiinkfhohaaOO10
import Derived.Deep.Cut
namespace Go.Proofs.Ytoccmiinkfhohaa
open Go.RowKit Go.Shelf Go.Lib Go.Sort Go.Proofs Go.Maps
set_option linter.unusedVariables false
set_option maxHeartbeats 1000000
set_option maxRecDepth 8000

/-- a list does not lie in this block -/
def offL (L : Value) (b : Nat) : Prop := ∀ p n c, L = .slice (some p) (n + 1) c → p.block ≠ b
/-- .. nor in a block that a heap owns -/
def offF (f f2 : Nat → Nat) (L : Value) : Prop := ∀ c, (f c ≠ 0 ∨ f2 c ≠ 0) → offL L c
/-- an enumeration's blocks -/
structure EB where
  E : Nat
  l : Nat
  e : Nat
  h : Nat
  o : Nat
  s : Nat
  v : Nat
  n : Nat
  m : Nat
/-- where an enumeration stands -/
structure ES where
  o : Int
  lv : Nat
  rem : List KK
  seen : List KK
  cur : List KK
def nextV (b : EB) : Value := .func (.func 61) #[] #[.pointer (some ⟨b.l, 0, none⟩), .pointer (some ⟨b.e, 0, none⟩), .pointer (some ⟨b.h, 0, none⟩), .pointer (some ⟨b.o, 0, none⟩), .pointer (some ⟨b.s, 0, none⟩), .pointer (some ⟨b.v, 0, none⟩), .pointer (some ⟨b.n, 0, none⟩)]
def noteV (b : EB) : Value := .func (.func 59) #[] #[.pointer (some ⟨b.l, 0, none⟩), .pointer (some ⟨b.s, 0, none⟩), .pointer (some ⟨b.v, 0, none⟩)]
/-- what the map knows -/
def SeenG (g : Lit → Option Int) (st : ES) : Prop := ∀ K, okK K → (hadB st.seen K = true → ∃ j, g (klK K) = some j ∧ 0 < j ∧ j < (st.lv : Int)) ∧ (hadB st.seen K = false → g (klK K) = if hadB st.cur K then some (st.lv : Int) else none)
def EnumX (w : World) (f : Nat → Nat) (hb : Nat) (b : EB) (L : Value) (lk : Int) (n : Nat) (g : Lit → Option Int) (o lv : Int) : Prop :=
  (w.heap[b.l]? = some (.cells #[L] 51 (0, 0)) ∧ f b.l = 1) ∧ (w.heap[b.e]? = some (.cells #[.pointer (some ⟨b.E, 0, none⟩)] 76 (0, 0)) ∧ f b.e = 2) ∧ (w.heap[b.h]? = some (.cells #[.pointer (some ⟨hb, 0, none⟩)] 25 (0, 0)) ∧ f b.h = 3) ∧ (w.heap[b.o]? = some (.cells #[.int .i64 o] 3 (0, 0)) ∧ f b.o = 4) ∧
  (w.heap[b.s]? = some (.cells #[.map (some b.m)] 115 (0, 0)) ∧ f b.s = 5) ∧ (w.heap[b.v]? = some (.cells #[.int .i64 lv] 3 (0, 0)) ∧ f b.v = 6) ∧ (w.heap[b.n]? = some (.cells #[noteV b] 1 (0, 0)) ∧ f b.n = 7) ∧ (w.heap[b.E]? = some (.cells #[nextV b, .int .i64 lk] 82 (0, 0)) ∧ f b.E = 8) ∧ (MapG w 32 b.m n g ∧ f b.m = 10)
theorem EnumX.turn {C : Nat → Prop} {w w' : World} {f f' : Nat → Nat} {hb n : Nat} {b : EB} {L : Value} {lk o lv : Int} {g : Lit → Option Int} (h : EnumX w f hb b L lk n g o lv) (ht : Turn C f f' w w') (hC : ∀ c, C c → c = 0) : EnumX w' f' hb b L lk n g o lv := by
  obtain ⟨h1, h2, h3, h4, h5, h6, h7, h8, h9⟩ := h
  have hn : ∀ c, 0 < c → ¬ C c := fun c hc h => by have := hC c h; omega
  refine ⟨blk_turn h1 ht (hn _ (by omega)), blk_turn h2 ht (hn _ (by omega)), blk_turn h3 ht (hn _ (by omega)), blk_turn h4 ht (hn _ (by omega)), blk_turn h5 ht (hn _ (by omega)), blk_turn h6 ht (hn _ (by omega)), blk_turn h7 ht (hn _ (by omega)), blk_turn h8 ht (hn _ (by omega)), ?_, ?_⟩
  · exact h9.1.at (ht.block _ h9.1.lt (hn _ (by rw [h9.2]; omega)))
  · rw [ht.agree _ h9.1.lt]; exact h9.2
/-- the three of them, side by side; K: blocks that are nobody's -/
def LawX (K : Nat → Obj → Prop) (w0 w : World) (hb rb : Nat) (lim : Int) (B : Nat) (H : List OB) (b : EB) (L : Value) (lk : Int) (n : Nat) (g : Lit → Option Int) (o lv : Int) : Prop :=
  ∃ f f2 f3, Two w hb rb lim B H f f2 ∧ Below w0.heap.size w0 w ∧ (∀ r, r < w0.heap.size → f3 r = 0) ∧ (Norm f3 w ∧ EnumX w f3 hb b L lk n g o lv) ∧ (∀ r, f3 r ≠ 0 → f r = 0 ∧ f2 r = 0) ∧ (∀ c o, K c o → w.heap[c]? = some o ∧ f c = 0 ∧ f2 c = 0 ∧ f3 c = 0) ∧ offF f f2 L
/-- .. and what is to be told -/
def LawE (K : Nat → Obj → Prop) (w0 w : World) (hb rb : Nat) (lim : Int) (B : Nat) (H : List OB) (b : EB) (st : ES) : Prop :=
  ∃ L lk n g Z, LawX K w0 w hb rb lim B H b L lk n g st.o (st.lv : Int) ∧ (RdK w L Z ∧ Z.map pk = st.rem ∧ ∀ x ∈ Z, okK x) ∧ SeenG g st ∧ n ≤ st.lv * 100000 ∧ (1 ≤ st.lv ∧ st.lv ≤ 1000) ∧ st.rem.length ≤ 100000 ∧ (∀ x ∈ st.rem, hadB st.cur x = true) ∧ ∀ c o, K c o → offL L c
section
variable {K : Nat → Obj → Prop} {w0 w w' : World} {hb rb B n : Nat} {lim lk o lv : Int} {H : List OB} {b : EB} {st : ES} {L : Value} {g : Lit → Option Int}
theorem LawX.law (h : LawX K w0 w hb rb lim B H b L lk n g o lv) : LawS { w with heap := #[] } w hb rb lim B H := by
  obtain ⟨f, f2, f3, h1, h2, h3, _⟩ := h
  exact ⟨f, f2, h1, ⟨rfl, rfl, rfl, Nat.zero_le _, fun r hr => absurd hr (Nat.not_lt_zero _)⟩, fun r hr => absurd hr (Nat.not_lt_zero _)⟩
theorem LawX.base (h : LawX K w0 w hb rb lim B H b L lk n g o lv) : Below w0.heap.size w0 w := by
  obtain ⟨f, f2, f3, h1, h2, _⟩ := h
  exact h2
theorem LawX.below (h : LawX K w0 w hb rb lim B H b L lk n g o lv) (hb' : Below w.heap.size w w') : LawX K w0 w' hb rb lim B H b L lk n g o lv := by
  obtain ⟨f, f2, f3, h1, h2, h3, ⟨h4, h5⟩, h6, h7, h8⟩ := h
  refine ⟨f, f2, f3, h1.below hb', h2.trans (hb'.mono h2.size), h3, ⟨h4.below hb'.size, h5.turn (Turn.of_below (fun _ => False) h4 hb') (fun _ h => h.elim)⟩, h6, fun c o hK => ?_, h8⟩
  obtain ⟨g1, g2⟩ := h7 c o hK
  exact ⟨(hb'.block c (heapH_lt g1)).trans g1, g2⟩
theorem cell_one {w : World} {b : Nat} {t : TypeId} {u : Value} (h : w.heap[b]? = some (.cells #[u] t (0, 0))) : w.cell? ⟨b, 0, none⟩ = some u := by rw [cell_of_row _ _ 0 _ _ _ h]; rfl
theorem froz_of {w : World} {b : Nat} {t : TypeId} {cs : Array Value} (h : w.heap[b]? = some (.cells cs t (0, 0))) (j : Nat) : w.frozen? ⟨b, j, none⟩ = false := by simp [World.frozen?, h]
theorem LawX.cells (h : LawX K w0 w hb rb lim B H b L lk n g o lv) :
    (w.cell? ⟨b.l, 0, none⟩ = some L ∧ w.cell? ⟨b.e, 0, none⟩ = some (.pointer (some ⟨b.E, 0, none⟩)) ∧ w.cell? ⟨b.h, 0, none⟩ = some (.pointer (some ⟨hb, 0, none⟩)) ∧ w.cell? ⟨b.o, 0, none⟩ = some (.int .i64 o) ∧ w.cell? ⟨b.s, 0, none⟩ = some (.map (some b.m)) ∧ w.cell? ⟨b.v, 0, none⟩ = some (.int .i64 lv) ∧ w.cell? ⟨b.n, 0, none⟩ = some (noteV b)) ∧
    (w.cell? ⟨b.E, 0, none⟩ = some (nextV b) ∧ w.cell? ⟨b.E, 1, none⟩ = some (.int .i64 lk)) ∧ (w.frozen? ⟨b.l, 0, none⟩ = false ∧ w.frozen? ⟨b.o, 0, none⟩ = false ∧ w.frozen? ⟨b.v, 0, none⟩ = false ∧ w.frozen? ⟨b.E, 1, none⟩ = false) ∧
    (b.l < w.heap.size ∧ b.e < w.heap.size ∧ b.h < w.heap.size ∧ b.o < w.heap.size ∧ b.s < w.heap.size ∧ b.v < w.heap.size ∧ b.n < w.heap.size ∧ b.E < w.heap.size) := by
  obtain ⟨f, f2, f3, _, _, _, ⟨_, h1, h2, h3, h4, h5, h6, h7, h8, h9⟩, _⟩ := h
  refine ⟨⟨cell_one h1.1, cell_one h2.1, cell_one h3.1, cell_one h4.1, cell_one h5.1, cell_one h6.1, cell_one h7.1⟩, ⟨?_, ?_⟩, ⟨froz_of h1.1 0, froz_of h4.1 0, froz_of h6.1 0, froz_of h8.1 1⟩, heapH_lt h1.1, heapH_lt h2.1, heapH_lt h3.1, heapH_lt h4.1, heapH_lt h5.1, heapH_lt h6.1, heapH_lt h7.1, heapH_lt h8.1⟩
  · rw [cell_of_row _ _ 0 _ _ _ h8.1]; rfl
  · rw [cell_of_row _ _ 1 _ _ _ h8.1]; rfl
theorem set_other {w : World} {a c i : Nat} {v : Value} {u : Obj} (h : w.heap[c]? = some u) (hne : c ≠ a) : (w.setCell ⟨a, i, none⟩ v).heap[c]? = some u := (Below.heap_setCell _ _ _ _ hne).trans h
theorem MapG.set {a i : Nat} {v : Value} {c : Nat} {k : TypeId} (h : MapG w k c n g) (hne : c ≠ a) : MapG (w.setCell ⟨a, i, none⟩ v) k c n g := h.at (Below.heap_setCell _ _ _ _ hne)
/-- a store into one of the enumeration's blocks -/
theorem LawX.frame {a i : Nat} {v : Value} {L' : Value} {lk' o' lv' : Int} (h : LawX K w0 w hb rb lim B H b L lk n g o lv) (hL : ∀ f f2, Norm f w → Norm f2 w → offF f f2 L → offF f f2 L') (ha : ∀ f, EnumX w f hb b L lk n g o lv → f a ≠ 0 ∧ EnumX (w.setCell ⟨a, i, none⟩ v) f hb b L' lk' n g o' lv') : LawX K w0 (w.setCell ⟨a, i, none⟩ v) hb rb lim B H b L' lk' n g o' lv' := by
  obtain ⟨f, f2, f3, h1, h2, h3, ⟨h4, h5⟩, h6, h7, h8⟩ := h
  obtain ⟨ha1, ha2⟩ := ha f3 h5
  have hk : ∀ r, r ≠ a → (w.setCell ⟨a, i, none⟩ v).heap[r]? = w.heap[r]? := fun r hr => Below.heap_setCell _ _ _ _ hr
  refine ⟨f, f2, f3, h1.keep rfl rfl rfl (by simp) (h6 a ha1) (fun r _ hr => hk r hr), ?_, h3, ⟨h4.below (by simp), ha2⟩, h6, fun c o hK => ?_, hL f f2 h1.1 h1.2.1 h8⟩
  · refine h2.setCell (p := ⟨a, i, none⟩) ?_ v
    by_cases hlt : a < w0.heap.size
    · exact absurd (h3 a hlt) ha1
    · show w0.heap.size ≤ a; omega
  · obtain ⟨g1, g2, g3, g4⟩ := h7 c o hK
    exact ⟨(hk c (fun e => ha1 (by rw [← e]; exact g4))).trans g1, g2, g3, g4⟩
theorem LawX.setL (h : LawX K w0 w hb rb lim B H b L lk n g o lv) (L' : Value) (hL : ∀ f f2, Norm f w → Norm f2 w → offF f f2 L → offF f f2 L') : LawX K w0 (w.setCell ⟨b.l, 0, none⟩ L') hb rb lim B H b L' lk n g o lv := by
  refine h.frame hL fun f ⟨h1, h2, h3, h4, h5, h6, h7, h8, h9⟩ => ⟨by rw [h1.2]; decide, ?_⟩
  have hs : ∀ {c : Nat} {u : Obj} {m : Nat}, w.heap[c]? = some u ∧ f c = m → m ≠ 1 → (w.setCell ⟨b.l, 0, none⟩ L').heap[c]? = some u ∧ f c = m := fun hc hm => ⟨set_other hc.1 (fun e => hm (by rw [← hc.2, e]; exact h1.2)), hc.2⟩
  exact ⟨⟨heap_setCell_same w b.l 0 _ _ _ h1.1, h1.2⟩, hs h2 (by decide), hs h3 (by decide), hs h4 (by decide), hs h5 (by decide), hs h6 (by decide), hs h7 (by decide), hs h8 (by decide), h9.1.set (fun e => by have := h9.2; rw [e, h1.2] at this; cases this), h9.2⟩
theorem LawX.setO (h : LawX K w0 w hb rb lim B H b L lk n g o lv) (o' : Int) : LawX K w0 (w.setCell ⟨b.o, 0, none⟩ (.int .i64 o')) hb rb lim B H b L lk n g o' lv := by
  refine h.frame (fun _ _ _ _ h => h) fun f ⟨h1, h2, h3, h4, h5, h6, h7, h8, h9⟩ => ⟨by rw [h4.2]; decide, ?_⟩
  have hs : ∀ {c : Nat} {u : Obj} {m : Nat}, w.heap[c]? = some u ∧ f c = m → m ≠ 4 → (w.setCell ⟨b.o, 0, none⟩ (.int .i64 o')).heap[c]? = some u ∧ f c = m := fun hc hm => ⟨set_other hc.1 (fun e => hm (by rw [← hc.2, e]; exact h4.2)), hc.2⟩
  exact ⟨hs h1 (by decide), hs h2 (by decide), hs h3 (by decide), ⟨heap_setCell_same w b.o 0 _ _ _ h4.1, h4.2⟩, hs h5 (by decide), hs h6 (by decide), hs h7 (by decide), hs h8 (by decide), h9.1.set (fun e => by have := h9.2; rw [e, h4.2] at this; cases this), h9.2⟩
theorem LawX.setV (h : LawX K w0 w hb rb lim B H b L lk n g o lv) (lv' : Int) : LawX K w0 (w.setCell ⟨b.v, 0, none⟩ (.int .i64 lv')) hb rb lim B H b L lk n g o lv' := by
  refine h.frame (fun _ _ _ _ h => h) fun f ⟨h1, h2, h3, h4, h5, h6, h7, h8, h9⟩ => ⟨by rw [h6.2]; decide, ?_⟩
  have hs : ∀ {c : Nat} {u : Obj} {m : Nat}, w.heap[c]? = some u ∧ f c = m → m ≠ 6 → (w.setCell ⟨b.v, 0, none⟩ (.int .i64 lv')).heap[c]? = some u ∧ f c = m := fun hc hm => ⟨set_other hc.1 (fun e => hm (by rw [← hc.2, e]; exact h6.2)), hc.2⟩
  exact ⟨hs h1 (by decide), hs h2 (by decide), hs h3 (by decide), hs h4 (by decide), hs h5 (by decide), ⟨heap_setCell_same w b.v 0 _ _ _ h6.1, h6.2⟩, hs h7 (by decide), hs h8 (by decide), h9.1.set (fun e => by have := h9.2; rw [e, h6.2] at this; cases this), h9.2⟩
theorem LawX.setK (h : LawX K w0 w hb rb lim B H b L lk n g o lv) (lk' : Int) : LawX K w0 (w.setCell ⟨b.E, 1, none⟩ (.int .i64 lk')) hb rb lim B H b L lk' n g o lv := by
  refine h.frame (fun _ _ _ _ h => h) fun f ⟨h1, h2, h3, h4, h5, h6, h7, h8, h9⟩ => ⟨by rw [h8.2]; decide, ?_⟩
  have hs : ∀ {c : Nat} {u : Obj} {m : Nat}, w.heap[c]? = some u ∧ f c = m → m ≠ 8 → (w.setCell ⟨b.E, 1, none⟩ (.int .i64 lk')).heap[c]? = some u ∧ f c = m := fun hc hm => ⟨set_other hc.1 (fun e => hm (by rw [← hc.2, e]; exact h8.2)), hc.2⟩
  exact ⟨hs h1 (by decide), hs h2 (by decide), hs h3 (by decide), hs h4 (by decide), hs h5 (by decide), hs h6 (by decide), hs h7 (by decide), ⟨heap_setCell_same w b.E 1 _ _ _ h8.1, h8.2⟩, h9.1.set (fun e => by have := h9.2; rw [e, h8.2] at this; cases this), h9.2⟩
theorem LawX.map (h : LawX K w0 w hb rb lim B H b L lk n g o lv) : MapG w 32 b.m n g := by
  obtain ⟨f, f2, f3, _, _, _, ⟨_, h1, h2, h3, h4, h5, h6, h7, h8, h9⟩, _⟩ := h
  exact h9.1
/-- note has been called -/
theorem LawX.noted {Ks : List KK} {lv2 : Int} {i : Nat} (h : LawX K w0 w hb rb lim B H b L lk n g o lv) (hN : NoteI w b.m n g Ks lv2 i w') : ∃ n' g', LawX K w0 w' hb rb lim B H b L lk n' g' o lv ∧ n' ≤ n + i ∧ noteG g (Ks.take i) lv2 g' := by
  obtain ⟨f, f2, f3, h1, h2, h3, ⟨h4, g1, g2, g3, g4, g5, g6, g7, g8, g9⟩, h6, h7, h8⟩ := h
  obtain ⟨q1, q2, n', g', q3, q4, q5⟩ := hN
  have hk : ∀ r, r < w.heap.size → r ≠ b.m → w'.heap[r]? = w.heap[r]? := fun r hr hne => q1.block r hr (fun e => hne (Option.some.inj e))
  have hm0 : f3 b.m ≠ 0 := by rw [g9.2]; decide
  have hs : ∀ {c : Nat} {u : Obj} {m : Nat}, w.heap[c]? = some u ∧ f3 c = m → m ≠ 10 → w'.heap[c]? = some u ∧ f3 c = m := fun hc hm => ⟨(hk _ (heapH_lt hc.1) (fun e => hm (by rw [← hc.2, e]; exact g9.2))).trans hc.1, hc.2⟩
  refine ⟨n', g', ⟨f, f2, f3, h1.keep q1.os q1.tape q1.output q1.size (h6 b.m hm0) hk, ⟨q1.os.trans h2.os, q1.tape.trans h2.tape, q1.output.trans h2.output, Nat.le_trans h2.size q1.size, fun r hr => ?_⟩, h3, ⟨h4.below q1.size, hs g1 (by decide), hs g2 (by decide), hs g3 (by decide), hs g4 (by decide), hs g5 (by decide), hs g6 (by decide), hs g7 (by decide), hs g8 (by decide), q3, g9.2⟩, h6, fun c o hK => ?_, h8⟩, q4, q5⟩
  · rw [hk r (Nat.lt_of_lt_of_le hr h2.size) (fun e => hm0 (by rw [← e]; exact (h3 r hr)))]
    exact h2.block r hr
  · obtain ⟨e1, e2, e3, e4⟩ := h7 c o hK
    exact ⟨(hk c (heapH_lt e1) (fun e => hm0 (by rw [← e]; exact e4))).trans e1, e2, e3, e4⟩
/-- a block more is watched -/
theorem LawX.watch {c : Nat} {ob : Obj} (h : LawX K w0 w hb rb lim B H b L lk n g o lv) (hb' : Below w.heap.size w w') (hc : c = w.heap.size) (ho : w'.heap[c]? = some ob) : LawX (fun x o' => K x o' ∨ (x = c ∧ o' = ob)) w0 w' hb rb lim B H b L lk n g o lv := by
  obtain ⟨f, f2, f3, h1, h2, h3, ⟨h4, h5⟩, h6, h7, h8⟩ := h.below hb'
  have h0 := h
  obtain ⟨f', f2', f3', q1, q2, q3, ⟨q4, q5⟩, q6, q7, q8⟩ := h0
  refine ⟨f', f2', f3', q1.below hb', q2.trans (hb'.mono q2.size), q3, ⟨q4.below hb'.size, q5.turn (Turn.of_below (fun _ => False) q4 hb') (fun _ h => h.elim)⟩, q6, ?_, q8⟩
  rintro x o' (hK | ⟨rfl, rfl⟩)
  · obtain ⟨g1, g2⟩ := q7 x o' hK
    exact ⟨(hb'.block x (heapH_lt g1)).trans g1, g2⟩
  · exact ⟨ho, q1.1 _ (by omega), q1.2.1 _ (by omega), q4 _ (by omega)⟩
theorem LawX.weaken {K' : Nat → Obj → Prop} (h : LawX K w0 w hb rb lim B H b L lk n g o lv) (hK : ∀ c o, K' c o → K c o) : LawX K' w0 w hb rb lim B H b L lk n g o lv := by
  obtain ⟨f, f2, f3, h1, h2, h3, h4, h6, h7, h8⟩ := h
  exact ⟨f, f2, f3, h1, h2, h3, h4, h6, fun c o hk => h7 c o (hK c o hk), h8⟩
theorem LawX.held {c : Nat} {ob : Obj} (h : LawX K w0 w hb rb lim B H b L lk n g o lv) (hK : K c ob) : w.heap[c]? = some ob := by
  obtain ⟨f, f2, f3, h1, h2, h3, h4, h6, h7, h8⟩ := h
  exact (h7 c ob hK).1
/-- a change of a watched block alone -/
theorem LawX.free {K' : Nat → Obj → Prop} {c : Nat} {ob : Obj} (h : LawX K w0 w hb rb lim B H b L lk n g o lv) (hK : K c ob) (ho : w'.os = w.os) (ht : w'.tape = w.tape) (hp : w'.output = w.output) (hs : w.heap.size ≤ w'.heap.size) (hk : ∀ r, r < w.heap.size → r ≠ c → w'.heap[r]? = w.heap[r]?) (hc0 : w0.heap.size ≤ c) (hK' : ∀ x o', K' x o' → K x o' ∧ x ≠ c) : LawX K' w0 w' hb rb lim B H b L lk n g o lv := by
  obtain ⟨f, f2, f3, h1, h2, h3, ⟨h4, h5⟩, h6, h7, h8⟩ := h
  obtain ⟨e1, e2, e3, e4⟩ := h7 c ob hK
  have t3 : Turn (fun c => c = 0) f3 f3 w w' := ⟨ho, ht, hp, hs, fun _ _ => rfl, h4.below hs, fun r hr hn => hk r hr (fun e => hn (by rw [e]; exact e4))⟩
  refine ⟨f, f2, f3, h1.keep ho ht hp hs ⟨e2, e3⟩ hk, ⟨ho.trans h2.os, ht.trans h2.tape, hp.trans h2.output, Nat.le_trans h2.size hs, fun r hr => (hk r (Nat.lt_of_lt_of_le hr h2.size) (by omega)).trans (h2.block r hr)⟩, h3, ⟨h4.below hs, h5.turn t3 (fun _ h => h)⟩, h6, fun x o' hx => ?_, h8⟩
  obtain ⟨g1, g2⟩ := hK' x o' hx
  obtain ⟨r1, r2⟩ := h7 x o' g1
  exact ⟨(hk x (heapH_lt r1) g2).trans r1, r2⟩
/-- a new list -/
theorem LawX.newL {L' : Value} (h : LawX K w0 w hb rb lim B H b L lk n g o lv) (hb' : Below w.heap.size w w') (hf : ∀ c, c < w.heap.size → offL L' c) : LawX K w0 (w'.setCell ⟨b.l, 0, none⟩ L') hb rb lim B H b L' lk n g o lv := by
  obtain ⟨f, f2, f3, h1, h2, h3, ⟨h4, h5⟩, h6, h7, h8⟩ := h
  have hoff : offF f f2 L' := fun c hc => hf c (Nat.lt_of_not_le fun hle => by
    rcases hc with hc | hc
    · exact hc (h1.1 c hle)
    · exact hc (h1.2.1 c hle))
  have hl : f3 b.l = 1 := h5.1.2
  have hE := h5.turn (Turn.of_below (fun _ => False) h4 hb') (fun _ h => h.elim)
  obtain ⟨g1, g2, g3, g4, g5, g6, g7, g8, g9⟩ := hE
  have hs : ∀ {c : Nat} {u : Obj} {m : Nat}, w'.heap[c]? = some u ∧ f3 c = m → m ≠ 1 → (w'.setCell ⟨b.l, 0, none⟩ L').heap[c]? = some u ∧ f3 c = m := fun hc hm => ⟨set_other hc.1 (fun e => hm (by rw [← hc.2, e]; exact hl)), hc.2⟩
  have hk : ∀ r, r ≠ b.l → (w'.setCell ⟨b.l, 0, none⟩ L').heap[r]? = w'.heap[r]? := fun r hr => Below.heap_setCell _ _ _ _ hr
  refine ⟨f, f2, f3, (h1.below hb').keep rfl rfl rfl (by simp) (h6 b.l (by rw [hl]; decide)) (fun r _ hr => hk r hr), ?_, h3, ⟨fun r hr => h4 r (Nat.le_trans hb'.size (by simpa using hr)), ⟨heap_setCell_same w' b.l 0 _ _ _ g1.1, hl⟩, hs g2 (by decide), hs g3 (by decide), hs g4 (by decide), hs g5 (by decide), hs g6 (by decide), hs g7 (by decide), hs g8 (by decide), g9.1.set (fun e => by have := g9.2; rw [e, hl] at this; cases this), g9.2⟩, h6, fun c o hK => ?_, hoff⟩
  · refine (h2.trans (hb'.mono h2.size)).setCell (p := ⟨b.l, 0, none⟩) ?_ L'
    by_cases hlt : b.l < w0.heap.size
    · have := h3 b.l hlt; rw [hl] at this; cases this
    · show w0.heap.size ≤ b.l; omega
  · obtain ⟨e1, e2, e3, e4⟩ := h7 c o hK
    exact ⟨(hk c (fun e => by rw [e, hl] at e4; cases e4)).trans ((hb'.block c (heapH_lt e1)).trans e1), e2, e3, e4⟩
end
/-- the next key, and where the enumeration stands behind it -/
noncomputable def advE (H : List OB) (st : ES) : ES := ⟨proZ H st.o, st.lv + 1, keysH H (proZ H st.o), st.seen ++ st.cur, keysH H (proZ H st.o)⟩
noncomputable def nextE (H : List OB) : Nat → ES → Option KK × ES
  | n, st => match st.rem.dropWhile (fun K => !toldB H st.o st.seen K) with
    | K :: rest => (some K, { st with rem := rest })
    | [] => match n with
      | 0 => (none, { st with rem := [] })
      | m + 1 => if hasH H st.o then nextE H m (advE H st) else (none, { st with rem := [] })
theorem nextE_skip {H : List OB} {n : Nat} {st : ES} {x : KK} {r : List KK} (hr : st.rem = x :: r) (ht : toldB H st.o st.seen x = false) : nextE H n st = nextE H n { st with rem := r } := by
  cases n <;> (unfold nextE; rw [hr]; simp [List.dropWhile, ht]) <;> rfl
theorem nextE_told {H : List OB} {n : Nat} {st : ES} {x : KK} {r : List KK} (hr : st.rem = x :: r) (ht : toldB H st.o st.seen x = true) : nextE H n st = (some x, { st with rem := r }) := by
  cases n <;> (unfold nextE; rw [hr]; simp [List.dropWhile, ht])
theorem nextE_stop {H : List OB} {n : Nat} {st : ES} (hr : st.rem = []) (ht : hasH H st.o = false ∨ n = 0) : nextE H n st = (none, st) := by
  obtain ⟨o, lv, rem, seen, cur⟩ := st
  dsimp only at hr
  subst hr
  cases n with
  | zero => unfold nextE; rfl
  | succ n =>
    have h : hasH H o = false := by rcases ht with h | h; exact h; cases h
    unfold nextE
    simp [h]
theorem nextE_adv {H : List OB} {n : Nat} {st : ES} (hr : st.rem = []) (ht : hasH H st.o = true) : nextE H (n + 1) st = nextE H n (advE H st) := by
  obtain ⟨o, lv, rem, seen, cur⟩ := st
  dsimp only at hr ht
  subst hr
  rw [nextE]
  simp [ht]
end Go.Proofs.Ytoccmiinkfhohaa
namespace Go.Proofs.Ytoccmiinkfhohaa
open Go.RowKit Go.Shelf Go.Lib Go.Sort Go.Proofs Go.Maps
set_option linter.unusedVariables false
set_option maxHeartbeats 4000000
set_option maxRecDepth 100000

def clsV (H : List OB) (o : Int) : Int := match objH H o with | some a => a.cls | none => 0
def proV (H : List OB) (o : Int) : Int := match objH H o with | some a => a.pro | none => 0
def opnV (H : List OB) (o : Int) : Bool := match objH H o with | some a => !a.shut | none => false
theorem clsV_stp (H : List OB) (o : Int) : clsV (stp H) o = clsV H o := by unfold clsV; rw [stp_obj]; cases objH H o <;> rfl
theorem proV_stp (H : List OB) (o : Int) : proV (stp H) o = proV H o := by unfold proV; rw [stp_obj]; cases objH H o <;> rfl
theorem opnV_stp (H : List OB) (o : Int) : opnV (stp H) o = opnV H o := by unfold opnV; rw [stp_obj]; cases objH H o <;> rfl
section
variable {w0 w w' : World} {hb rb B : Nat} {lim : Int} {H : List OB}
theorem l_RUsed (h : LawS w0 w hb rb lim B H) (hu : usedH H ≤ 100000) : Calls Try.prog 64 #[.pointer (some ⟨rb, 0, none⟩)] w fun e w' => e = .returned (.int .i64 (usedH H : Int)) ∧ Below w.heap.size w w' := by
  obtain ⟨f, f2, h1, h2, h3⟩ := h
  have hc := c_RUsed h1.2.2.2.1 (by rw [stp_used]; exact hu)
  rw [stp_used] at hc
  exact hc
theorem l_HHas (h : LawS w0 w hb rb lim B H) (o : Int) : Calls Try.prog 21 #[.pointer (some ⟨hb, 0, none⟩), .int .i64 o] w fun e w' => e = .returned (.bool (hasH H o)) ∧ w' = w := by
  obtain ⟨f, f2, h1, h2, h3⟩ := h
  exact c_HHas h1.2.2.1 o
theorem l_HClass (h : LawS w0 w hb rb lim B H) (o : Int) : Calls Try.prog 22 #[.pointer (some ⟨hb, 0, none⟩), .int .i64 o] w fun e w' => e = .returned (.int .i64 (clsV H o)) ∧ w' = w := by
  obtain ⟨f, f2, h1, h2, h3⟩ := h
  exact c_HClass h1.2.2.1 o
theorem l_HProto (h : LawS w0 w hb rb lim B H) (o : Int) : Calls Try.prog 23 #[.pointer (some ⟨hb, 0, none⟩), .int .i64 o] w fun e w' => e = .returned (.int .i64 (proV H o)) ∧ w' = w := by
  obtain ⟨f, f2, h1, h2, h3⟩ := h
  exact c_HProto h1.2.2.1 o
theorem l_RProto (h : LawS w0 w hb rb lim B H) (o : Int) : Calls Try.prog 77 #[.pointer (some ⟨rb, 0, none⟩), .int .i64 o] w fun e w' => e = .returned (.int .i64 (proV H o)) ∧ w' = w := by
  obtain ⟨f, f2, h1, h2, h3⟩ := h
  rw [← proV_stp]
  exact c_RProto h1.2.2.2.1 o
theorem l_HOpen (h : LawS w0 w hb rb lim B H) (o : Int) : Calls Try.prog 25 #[.pointer (some ⟨hb, 0, none⟩), .int .i64 o] w fun e w' => e = .returned (.bool (opnV H o)) ∧ w' = w := by
  obtain ⟨f, f2, h1, h2, h3⟩ := h
  exact c_HOpen h1.2.2.1 o
theorem l_HKeys (h : LawS w0 w hb rb lim B H) (hB1 : 128 ≤ B) (hB : B ≤ 100000) (o : Int) : Calls Try.prog 17 #[.pointer (some ⟨hb, 0, none⟩), .int .i64 o] w fun e w' => ∃ v Z, e = .returned v ∧ RdK w' v Z ∧ KeysOf (gk (listH H o)) Z ∧ Below w.heap.size w w' := by
  obtain ⟨f, f2, h1, h2, h3⟩ := h
  exact c_HKeys h1.1 h1.2.2.1 hB1 hB o
theorem l_RKeys (h : LawS w0 w hb rb lim B H) (hu : usedH H ≤ 100000) (o : Int) : Calls Try.prog 58 #[.pointer (some ⟨rb, 0, none⟩), .int .i64 o] w fun e w' => ∃ v Z, e = .returned v ∧ RdK w' v Z ∧ KeysOf (gk (listH H o)) Z ∧ Below w.heap.size w w' := by
  obtain ⟨f, f2, h1, h2, h3⟩ := h
  have hc := c_RKeys h1.2.2.2.1 (stp_small hu) o
  rw [stp_list] at hc
  exact hc
/-- what both tell of a key -/
theorem l_HOwnV (h : LawS w0 w hb rb lim B H) (o : Int) (k : KK) (hk : okK k) : Calls Try.prog 20 #[.pointer (some ⟨hb, 0, none⟩), .int .i64 o, .agg #[.string k.1, .int .i64 k.2]] w fun e w' => e = .returned (.tuple #[.agg (encP ((ownH H o (pk k)).getD zeroPV)).toArray, .bool (ownH H o (pk k)).isSome]) ∧ Below w.heap.size w w' := by
  obtain ⟨f, f2, h1, h2, h3⟩ := h
  exact (c_HOwn h1.1 h1.2.2.1 o k hk).mono fun e w' hx => ⟨hx.2, hx.1⟩
theorem l_ROwnV (h : LawS w0 w hb rb lim B H) (hu : usedH H ≤ 100000) (o : Int) (k : KK) (hk : okK k) : Calls Try.prog 13 #[.pointer (some ⟨rb, 0, none⟩), .int .i64 o, .agg #[.string k.1, .int .i64 k.2]] w fun e w' => e = .returned (.tuple #[.agg (encP ((ownH H o (pk k)).getD zeroPV)).toArray, .bool (ownH H o (pk k)).isSome]) ∧ Below w.heap.size w w' := by
  obtain ⟨f, f2, h1, h2, h3⟩ := h
  have hc := c_ROwn h1.2.1 h1.2.2.2.1 (stp_small hu) o k hk
  rw [stp_own] at hc
  exact hc.mono fun e w' hx => ⟨hx.2, hx.1⟩
end
theorem KeysOf.ok {ks Z : List KK} (h : KeysOf ks Z) : ∀ x ∈ Z, okK x := by
  obtain ⟨l, h1, h2, h3, h4⟩ := h
  exact h4
/-- a property of nothing -/
def zeroQ : Array Value := #[.int .i64 0, .float .f64 0, .string ⟨#[]⟩, .int .i64 0, .int .i64 0, .float .f64 0, .string ⟨#[]⟩, .int .i64 0, .int .i64 0, .float .f64 0, .string ⟨#[]⟩, .int .i64 0, .int .i64 0]
theorem zeroQ_there (w : World) : (w.alloc (.cells zeroQ 37)).there w.heap.size 0 13 := there_of (heap_alloc_new w _) (Nat.le_refl 13)
theorem zeroQ_set (w : World) (P : PV) : Below w.heap.size w ((w.alloc (.cells zeroQ 37)).setCells w.heap.size 0 (encP P)) ∧ ((w.alloc (.cells zeroQ 37)).setCells w.heap.size 0 (encP P)).heap[w.heap.size]? = some (.cells (encP P).toArray 37 (0, 0)) := by
  obtain ⟨h1, h2, _⟩ := fresh_set (w := w) (o := zeroQ) (t := 37) (vs := encP P) rfl
  exact ⟨h1, h2⟩
end Go.Proofs.Ytoccmiinkfhohaa
namespace Go.Proofs.Ytoccmiinkfhohaa
open Go.RowKit Go.Shelf Go.Lib Go.Sort Go.Proofs Go.Maps
set_option linter.unusedVariables false
set_option maxHeartbeats 2000000
set_option maxRecDepth 100000

/-- a list that lies in a new block, if it has any element -/
def FreshL (B : Nat) (v : Value) : Prop := ∀ p n c, v = .slice (some p) (n + 1) c → B ≤ p.block
theorem c_OrderNew (v : Value) (l : List KK) (hl : l.length ≤ 1099511627776) (hsm : Small l) (w : World) (h : RdK w v l) :
    Calls Try.prog 50 #[v] w fun e w' => ∃ v' Z, e = .returned v' ∧ RdK w' v' Z ∧ Srt Z ∧ Eqv Z l ∧ Below w.heap.size w w' ∧ FreshL w.heap.size v' := by
  have hC := Lib.hid (c_Clone v l hl w h)
  clear h
  cases l with
  | nil =>
    have hC2 : Calls Try.prog 66 #[v] w fun e w' => (∃ p c, e = .returned (.slice p 0 c) ∧ (p = none → c = 0)) ∧ Below w.heap.size w w' := by
      refine hC.out.mono ?_
      rintro e w1 ⟨v', rfl, h1, h2⟩
      refine ⟨?_, h2⟩
      rcases h1 with ⟨_, ⟨rfl, _⟩ | ⟨g, cap, cur, rfl, _⟩⟩ | ⟨_, p, rfl⟩
      · exact ⟨_, _, rfl, fun _ => rfl⟩
      · exact ⟨_, _, rfl, fun h => by cases h⟩
      · exact ⟨_, _, rfl, fun _ => rfl⟩
    replace hC2 := Lib.hid hC2
    clear hC hl hsm
    go_enter Try.func50, Try.ntmps50
    go_wp2_with (first | (go_at_call 66; refine hC2.out.mono ?_; rintro e w1 ⟨⟨p, c, rfl, hp⟩, hb⟩) | (go_at_call 67; refine (c_SortStable0 _ _ _).mono ?_; rintro e w2 ⟨rfl, rfl⟩))
    go_ret
    refine ⟨_, [], rfl, ?_, List.Pairwise.nil, Eqv.refl _, hb, fun _ _ _ h => (by injection h with _ h; cases h)⟩
    cases p with
    | none =>
      obtain rfl := hp rfl
      exact .inl ⟨rfl, rfl⟩
    | some p => exact .inr ⟨p, c, rfl, by simp, fun k x hx => by simp at hx⟩
  | cons x l =>
    have hlen := (Lib.hid (rfl : (x :: l).length = (x :: l).length))
    generalize hL : x :: l = L at *
    have hpos : 0 < L.length := by rw [← hL]; simp
    have hC2 : Calls Try.prog 66 #[v] w fun e w' => ∃ g c, e = .returned (.slice (some ⟨g, 0, none⟩) L.length c) ∧ RowL w' g L ∧ w.heap.size ≤ g ∧ L.length ≤ c ∧ Below w.heap.size w w' := by
      refine hC.out.mono ?_
      rintro e w1 ⟨v', rfl, h1, h2⟩
      rcases h1 with h1 | ⟨h1, _⟩
      · obtain ⟨g, cap, rfl, _, _⟩ := h1.form hpos
        obtain ⟨r1, r2, r3, r4⟩ := rowL_own h1
        exact ⟨g, cap, rfl, r1, r2, r4, h2⟩
      · rw [h1] at hpos; simp at hpos
    replace hC2 := Lib.hid hC2
    have hS := fun g c w => Lib.hid (c_SortStable g c L.length L rfl hsm hl w)
    clear hC hL hlen hsm hpos
    generalize hm : L.length = m at *
    replace hm := Lib.hid hm
    go_enter Try.func50, Try.ntmps50
    go_wp2_with (first | (go_at_call 66; refine hC2.out.mono ?_; rintro e w1 ⟨g, c, rfl, hrow, hg, hc, hb⟩) | (go_at_call 67; refine ((hS _ _ _).out hrow).mono ?_; rintro e w2 ⟨rfl, ⟨Z, q1, q2, q3⟩, hfr⟩))
    go_ret
    have hZ : Z.length = m := q3.len.trans hm.out
    refine ⟨_, Z, rfl, ?_, q2, q3, ?_, fun p n c' h => (by injection h with h1 h2; injection h1 with h1; rw [← h1]; exact hg)⟩
    · show RdK w2 (.slice (some ⟨g, 0, none⟩) m c) Z
      rw [← hZ]
      exact rdk_rowL q1 (by omega)
    · exact hb.trans ⟨hfr.os, hfr.tape, hfr.output, hfr.size, fun k hk => hfr.block k (Nat.lt_of_lt_of_le hk hb.size) (by omega)⟩
theorem c_HKeysF1 {w : World} {f : Nat → Nat} {hb B u : Nat} {lim : Int} {H : List OB} (hN : Norm f w) (h : HeapO w f hb lim u B H) (hB1 : 128 ≤ B) (hB : B ≤ 100000) (o : Nat) (a : OB) (h0 : 0 < o) (ho : H[o - 1]? = some a) :
    Calls Try.prog 17 #[ptrV hb, .int .i64 (o : Int)] w fun e w' => ∃ v Z, e = .returned v ∧ RdK w' v Z ∧ KeysOf (gk a.l) Z ∧ Below w.heap.size w w' ∧ FreshL w.heap.size v := by
  have hH := c_HHas h (o : Int)
  rw [hasH_of h0 ho] at hH
  obtain ⟨tb, L, rv, obs, hX⟩ := h
  obtain ⟨rb, c, ob, many, mv, n, ⟨c4, p1, p2, q0⟩, r1, r2, r3, r4, r5⟩ := HeapX.obj hX h0 ho
  have hll := mode_len r3 hB1
  have c3 : w.cell? ⟨hb, 3, none⟩ = some (ptrV tb) := by rw [cell_of_row _ _ 3 _ _ _ hX.1.1]; rfl
  have q4 : w.cell? ⟨ob, 4, none⟩ = some mv := by rw [cell_of_row _ _ 4 _ _ _ r2.1]; rfl
  have hT0 : Turn (fun _ => False) f f w w.drew := Turn.of_below _ hN (Below.refl _ w).drew
  obtain ⟨T, mb, fn, rfl, m1, m2, mc, m3⟩ := mode_keys (w := w.drew) hN (hX.2.1.1.turn hT0 id id id id) (r3.keep hT0 id (fun _ _ h => h) (Nat.le_refl _)) hB
  obtain ⟨t1, t2, t3⟩ := r4
  have hkO : ∀ (y : World) (v : Value) (ks : List KK), RdK y v ks → ks.map pk = gk a.l → (∀ x ∈ ks, okK x) → Calls Try.prog 50 #[v] y fun e w' => ∃ v' Z, e = .returned v' ∧ RdK w' v' Z ∧ KeysOf (gk a.l) Z ∧ Below y.heap.size y w' ∧ FreshL y.heap.size v' := by
    intro y v ks k1 k2 k3
    have hl : ks.length = a.l.length := by rw [← List.length_map (f := pk), k2]; simp [gk]
    refine (c_OrderNew v ks (by omega) (fun x hx => (k3 x hx).1) y k1).mono ?_
    rintro e w' ⟨v', Z, rfl, z1, z2, z3, z4, z5⟩
    exact ⟨v', Z, rfl, z1, ⟨ks, k2, z2, z3, fun x hx => k3 x (eqv_mem z3 hx)⟩, z4, z5⟩
  replace hkO := Lib.hid hkO
  unfold ptrV at *
  replace hH := Lib.hid hH
  replace m3 := Lib.hid m3
  replace hll := Lib.hid hll
  clear hX r1 r2 r3 r5 ho hN hT0
  go_enter Try.func17, Try.ntmps17
  go_wp2_with (first | (go_at_call 21; refine hH.out.mono ?_; rintro e w1 ⟨rfl, e1⟩; cases e1))
  go_region_held3 (fun y => (∀ a : Addr, a.block < w.heap.size → y.cell? a = w.cell? a) ∧ (∀ b : Nat, b < w.heap.size → y.heap[b]? = w.heap[b]?) ∧ Below w.heap.size w y) (first | with_reducible assumption | with_reducible exact onto_drew w | with_reducible exact onto_below (by assumption) (by assumption)) (first | (go_at_call 50; with_reducible refine (hkO.out _ _ _ hk1 hk2 hk3).mono ?_; rintro e y3 ⟨v', Z, rfl, hZ1, hZ2, hbZ, hfZ⟩) | (refine m3.out.mono ?_; rintro e y2 ⟨v, ks, rfl, hk1, hk2, hk3, hbk⟩))
  all_goals
    have hbel := ((Below.refl w.heap.size w).drew.trans (hbk.mono (Nat.le_refl _))).trans (hbZ.mono hbk.size)
    have hfZ2 := Lib.hid (show FreshL w.heap.size v' from fun p n c h => Nat.le_trans hbk.size (hfZ p n c h))
    clear hfZ
    replace hZ1 := Lib.hid hZ1
    replace hZ2 := Lib.hid hZ2
    replace hbel := Lib.hid hbel
    clear hk1 hk2 hk3 hbk hbZ
    go_wp2
    go_ret
    exact ⟨v', Z, rfl, hZ1.out, hZ2.out, hbel.out, hfZ2.out⟩

theorem c_HKeysF {w : World} {f : Nat → Nat} {hb B u : Nat} {lim : Int} {H : List OB} (hN : Norm f w) (h : HeapO w f hb lim u B H) (hB1 : 128 ≤ B) (hB : B ≤ 100000) (o : Int) :
    Calls Try.prog 17 #[ptrV hb, .int .i64 o] w fun e w' => ∃ v Z, e = .returned v ∧ RdK w' v Z ∧ KeysOf (gk (listH H o)) Z ∧ Below w.heap.size w w' ∧ FreshL w.heap.size v := by
  unfold listH
  rcases objH_cases H o with ⟨h1, h2⟩ | ⟨n, a, rfl, h0, ha, h3, h4⟩
  · rw [h2]
    refine (c_HKeys0 h o h1).mono ?_
    rintro e w' ⟨rfl, rfl⟩
    exact ⟨_, [], rfl, .inl ⟨rfl, rfl⟩, KeysOf.nil, Below.refl _ _, fun _ _ _ h => (by cases h)⟩
  · rw [h3]
    exact c_HKeysF1 hN h hB1 hB n a h0 ha
theorem l_HKeysF {w0 w : World} {hb rb B : Nat} {lim : Int} {H : List OB} (h : LawS w0 w hb rb lim B H) (hB1 : 128 ≤ B) (hB : B ≤ 100000) (o : Int) : Calls Try.prog 17 #[.pointer (some ⟨hb, 0, none⟩), .int .i64 o] w fun e w' => ∃ v Z, e = .returned v ∧ RdK w' v Z ∧ KeysOf (gk (listH H o)) Z ∧ Below w.heap.size w w' ∧ FreshL w.heap.size v := by
  obtain ⟨f, f2, h1, h2, h3⟩ := h
  exact c_HKeysF h1.1 h1.2.2.1 hB1 hB o
end Go.Proofs.Ytoccmiinkfhohaa
namespace Go.Proofs.Ytoccmiinkfhohaa
open Go.RowKit Go.Shelf Go.Lib Go.Sort Go.Proofs Go.Maps
set_option linter.unusedVariables false
set_option maxHeartbeats 1000000
set_option maxRecDepth 8000

theorem RdK.off {w w' : World} {L : Value} {Z : List KK} {b : Nat} (h : RdK w L Z) (ho : offL L b) (hk : ∀ r, r ≠ b → w'.heap[r]? = w.heap[r]?) : RdK w' L Z := by
  rcases h with h | ⟨p, c, rfl, h2, h3⟩
  · exact .inl h
  · refine .inr ⟨p, c, rfl, h2, fun k x hx => ?_⟩
    obtain ⟨h4, h5, h6⟩ := h3 k x hx
    have hne : p.block ≠ b := by
      cases Z with
      | nil => simp at hx
      | cons a Z => exact ho p Z.length c rfl
    have e := hk p.block hne
    exact ⟨h4, (World.cell?_of_block (w := w) (a := ⟨p.block, p.off + k * 2, none⟩) e).trans h5, (World.cell?_of_block (w := w) (a := ⟨p.block, p.off + k * 2 + 1, none⟩) e).trans h6⟩
theorem slice_tail {w : World} {L : Value} {x : KK} {Z : List KK} (h : RdK w L (x :: Z)) : ∃ L', RdK w L' Z ∧ (∀ y, (Instr.slice 51 L (some (.int .i64 1)) none none).run Try.prog y = .ok L' y) ∧ ∀ b, offL L b → offL L' b := by
  rcases h with ⟨_, h⟩ | ⟨p, c, rfl, hc, h⟩
  · cases h
  have ht : Try.prog.underlying 51 = some (.slice (Try.prog.elem 51)) := by rw [show Try.prog.elem 51 = 32 by kernel_rfl]; exact Try.underlying51
  have hs : ∀ y, (Go.sizeOf (Try.prog.elem 51)).run Try.prog y = .ok 2 y := fun y => by
    rw [show Try.prog.elem 51 = 32 by kernel_rfl]
    have := infoKeyRowZ
    cases hi : Try.prog.info? 32 with
    | none => rw [hi] at this; cases this
    | some i => rw [hi] at this; injection this with this; simp [Go.sizeOf, Go.typeInfo, hi, this]
  refine ⟨sliced (some p) 1 (x :: Z).length c 2, ?_, fun y => ?_, ?_⟩
  · unfold sliced
    rw [List.length_cons] at *
    refine .inr ?_
    by_cases hc1 : c = 1
    · subst hc1
      obtain rfl : Z = [] := by cases Z with | nil => rfl | cons a b => simp at hc
      exact ⟨p, 0, by simp, Nat.le_refl _, fun k x hx => by simp at hx⟩
    · refine ⟨p.add 2, c - 1, by simp [hc1], by omega, fun k y hk => ?_⟩
      obtain ⟨h1, h2, h3⟩ := h (k + 1) y (by simpa using hk)
      have e1 : p.off + 2 + k * 2 = p.off + (k + 1) * 2 := by omega
      have e2 : p.off + 2 + k * 2 + 1 = p.off + (k + 1) * 2 + 1 := by omega
      refine ⟨by simp [Addr.add], ?_, ?_⟩
      · show w.cell? ⟨p.block, p.off + 2 + k * 2, none⟩ = _
        rw [e1]; exact h2
      · show w.cell? ⟨p.block, p.off + 2 + k * 2 + 1, none⟩ = _
        rw [e2]; exact h3
  · rw [run_slice_l (P := Try.prog) (w := y) (t := 51) (ht := ht) (kl := .i64) (l := 1) (h0 := by omega) (h1 := by simp; omega), hs]
    rfl
  · intro b hb q n cq hq
    unfold sliced at hq
    injection hq with hq1 hq2 hq3
    cases Z with
    | nil => simp at hq2
    | cons x2 Z =>
      have hp : q.block = p.block := by
        split at hq1
        · injection hq1 with hq1; rw [hq1]
        · simp only [Option.map_some] at hq1; injection hq1 with hq1; rw [← hq1]; rfl
      rw [hp]
      exact hb p (x2 :: Z).length c rfl
theorem RdK.offNew {w : World} {L : Value} {Z : List KK} (h : RdK w L Z) {b : Nat} (hb : w.heap.size ≤ b) : offL L b := by
  rintro p n c rfl e
  rcases h with ⟨h, _⟩ | ⟨q, c', h1, h2, h3⟩
  · cases h
  · injection h1 with h1 h4
    injection h1 with h1
    subst h1
    cases Z with
    | nil => cases h4
    | cons x Z =>
      obtain ⟨_, h5, _⟩ := h3 0 x rfl
      have := cell_lt h5
      dsimp only at this
      omega
theorem FreshL.off {B : Nat} {L : Value} (h : FreshL B L) {b : Nat} (hb : b < B) : offL L b := fun p n c e e2 => by have := h p n c e; omega
/-- does a block hold a text? -/
def texty (w : World) (r : Nat) : Prop := ∃ j s, w.cell? ⟨r, j, none⟩ = some (.string s)
theorem RdK.block {w w' : World} {L : Value} {Z : List KK} (h : RdK w L Z) (hk : ∀ r, texty w r → w'.heap[r]? = w.heap[r]?) : RdK w' L Z := by
  rcases h with h | ⟨p, c, h1, h2, h3⟩
  · exact .inl h
  · refine .inr ⟨p, c, h1, h2, fun k x hx => ?_⟩
    obtain ⟨h4, h5, h6⟩ := h3 k x hx
    have e := hk p.block ⟨_, _, h5⟩
    exact ⟨h4, (World.cell?_of_block (w := w) (a := ⟨p.block, p.off + k * 2, none⟩) e).trans h5, (World.cell?_of_block (w := w) (a := ⟨p.block, p.off + k * 2 + 1, none⟩) e).trans h6⟩
theorem RdK.set {w : World} {L : Value} {Z : List KK} (h : RdK w L Z) {a i : Nat} {v : Value} (ha : ¬ texty w a) : RdK (w.setCell ⟨a, i, none⟩ v) L Z :=
  h.block fun r hr => Below.heap_setCell _ _ _ _ (fun e => ha ((show r = a from e) ▸ hr))
theorem not_texty1 {w : World} {a : Nat} {u : Value} {t : TypeId} (h : w.heap[a]? = some (.cells #[u] t (0, 0))) (hu : ∀ s, u ≠ .string s) : ¬ texty w a := by
  rintro ⟨j, s, hc⟩
  rw [cell_of_row _ _ j _ _ _ h] at hc
  cases j with
  | zero => exact hu s (by injection hc)
  | succ j => simp at hc
theorem not_texty2 {w : World} {a : Nat} {u v : Value} {t : TypeId} (h : w.heap[a]? = some (.cells #[u, v] t (0, 0))) (hu : ∀ s, u ≠ .string s) (hv : ∀ s, v ≠ .string s) : ¬ texty w a := by
  rintro ⟨j, s, hc⟩
  rw [cell_of_row _ _ j _ _ _ h] at hc
  match j, hc with
  | 0, hc => exact hu s (by injection hc)
  | 1, hc => exact hv s (by injection hc)
  | j + 2, hc => simp at hc
section
variable {K : Nat → Obj → Prop} {w0 w w' : World} {hb rb B n : Nat} {lim lk o lv : Int} {H : List OB} {b : EB} {st : ES} {L : Value} {g : Lit → Option Int}
theorem LawX.untexty (h : LawX K w0 w hb rb lim B H b L lk n g o lv) (hL : ∀ s, L ≠ .string s) : ¬ texty w b.l ∧ ¬ texty w b.o ∧ ¬ texty w b.v ∧ ¬ texty w b.E ∧ ¬ texty w b.m := by
  obtain ⟨f, f2, f3, _, _, _, ⟨_, h1, h2, h3, h4, h5, h6, h7, h8, h9⟩, _⟩ := h
  exact ⟨not_texty1 h1.1 hL, not_texty1 h4.1 (by intro s h; cases h), not_texty1 h6.1 (by intro s h; cases h), not_texty2 h8.1 (by unfold nextV; intro s h; cases h) (by intro s h; cases h), fun ⟨j, s, hc⟩ => no_cell h9.1 hc⟩
theorem RdK.notext {w : World} {L : Value} {Z : List KK} (h : RdK w L Z) : ∀ s, L ≠ .string s := by
  obtain ⟨p, c, rfl, _⟩ := h.form
  intro s h; cases h
/-- a block more is watched -/
theorem LawE.watch {c : Nat} {ob : Obj} (h : LawE K w0 w hb rb lim B H b st) (hb' : Below w.heap.size w w') (hc : c = w.heap.size) (ho : w'.heap[c]? = some ob) : LawE (fun x o' => K x o' ∨ (x = c ∧ o' = ob)) w0 w' hb rb lim B H b st := by
  obtain ⟨L, lk, n, g, Z, h1, h2, h3, h4, h5, h6, h7, h8⟩ := h
  refine ⟨L, lk, n, g, Z, h1.watch hb' hc ho, ⟨h2.1.keep hb', h2.2⟩, h3, h4, h5, h6, h7, ?_⟩
  rintro x o' (hk | ⟨rfl, rfl⟩)
  · exact h8 x o' hk
  · exact h2.1.offNew (by omega)
end
end Go.Proofs.Ytoccmiinkfhohaa
namespace Go.Proofs.Ytoccmiinkfhohaa
open Go.RowKit Go.Shelf Go.Lib Go.Sort Go.Proofs Go.Maps
set_option linter.unusedVariables false
set_option maxHeartbeats 4000000
set_option maxRecDepth 100000

def lvM (b : EB) (w : World) : Nat := match w.cell? ⟨b.v, 0, none⟩ with | some (.int _ z) => (1000 - z).toNat | _ => 0
def lenW : Value → Nat | .slice _ n _ => n | _ => 0
def lnM (b : EB) (w : World) : Nat := match w.cell? ⟨b.l, 0, none⟩ with | some v => lenW v | none => 0
def eArgs (b : EB) : Array Value := #[.pointer (some ⟨b.l, 0, none⟩), .pointer (some ⟨b.e, 0, none⟩), .pointer (some ⟨b.h, 0, none⟩), .pointer (some ⟨b.o, 0, none⟩), .pointer (some ⟨b.s, 0, none⟩), .pointer (some ⟨b.v, 0, none⟩), .pointer (some ⟨b.n, 0, none⟩)]
/-- what the next key's call leaves -/
def NextP (K : Nat → Obj → Prop) (w0 : World) (hb rb : Nat) (lim : Int) (B : Nat) (H : List OB) (b : EB) (st : ES) (e : Ending) (w' : World) : Prop :=
  ∃ st', LawE K w0 w' hb rb lim B H b st' ∧ ((∃ k : KK, okK k ∧ nextE H (1000 - st.lv) st = (some (pk k), st') ∧ e = .returned (.tuple #[.agg #[.string k.1, .int .i64 k.2], .bool true])) ∨ (nextE H (1000 - st.lv) st = (none, st') ∧ e = .returned (.tuple #[.agg #[.string ⟨#[]⟩, .int .i64 0], .bool false])))
section
variable {K : Nat → Obj → Prop} {w0 w w' : World} {hb rb B : Nat} {lim : Int} {H : List OB} {b : EB}
theorem LawX.lvM {L : Value} {lk o lv : Int} {n : Nat} {g : Lit → Option Int} (h : LawX K w0 w hb rb lim B H b L lk n g o lv) : lvM b w = (1000 - lv).toNat := by
  unfold Go.Proofs.Ytoccmiinkfhohaa.lvM; rw [h.cells.1.2.2.2.2.2.1]
theorem LawX.lnM {L : Value} {lk o lv : Int} {n : Nat} {g : Lit → Option Int} (h : LawX K w0 w hb rb lim B H b L lk n g o lv) : lnM b w = lenW L := by
  unfold Go.Proofs.Ytoccmiinkfhohaa.lnM; rw [h.cells.1.1]
theorem LawX.blocks {L : Value} {lk o lv : Int} {n : Nat} {g : Lit → Option Int} (h : LawX K w0 w hb rb lim B H b L lk n g o lv) : w.heap[b.l]? = some (.cells #[L] 51 (0, 0)) ∧ w.heap[b.s]? = some (.cells #[.map (some b.m)] 115 (0, 0)) ∧ w.heap[b.v]? = some (.cells #[.int .i64 lv] 3 (0, 0)) := by
  obtain ⟨f, f2, f3, _, _, _, ⟨_, h1, h2, h3, h4, h5, h6, h7, h8, h9⟩, _⟩ := h
  exact ⟨h1.1, h5.1, h6.1⟩
theorem goodB_pk (H : List OB) (o : Int) (k : KK) : goodB H o (pk k) = (decide (k.2 ≤ 0) && ((ownH H o (pk k)).isSome && numB ((ownH H o (pk k)).getD zeroPV).fl)) := by
  unfold goodB
  have h : decide ((pk k).2 ≤ 0) = decide (k.2 ≤ 0) := by
    unfold pk
    by_cases h0 : 0 < k.2
    · rw [if_pos h0]
    · rw [if_neg h0]
      exact decide_eq_decide.2 ⟨fun _ => by omega, fun _ => by simp⟩
  rw [h]
  cases ownH H o (pk k) <;> rfl
theorem results_ck {fn : Func} {p u : Tmp} (h : fn.results = #[.cell p 32, .tmp u]) (tmps : Array Value) (w : World) (g : Nat) (t : TypeId) (cs : Array Value) (fr : Nat × Nat) (x : Value)
    (hp : tmps.getD p undef = .pointer (some ⟨g, 0, none⟩)) (hx : tmps.getD u undef = x) (hg : w.heap[g]? = some (.cells cs t fr)) (hi : (Try.prog.info? 32).map (·.size) = some cs.size) :
    (results fn tmps).run Try.prog w = .ok (.tuple #[.agg cs, x]) w := by
  have hl := run_loadVar_row (P := Try.prog) w g t 32 cs fr _ hg Try.underlying32 rfl hi
  rw [results_cell_tmp h, hp, hx]
  simp [asAddr, hl, Result.andThen]
theorem set2_block {w : World} {r : Nat} {a b u v : Value} {t : TypeId} (h : w.heap[r]? = some (.cells #[a, b] t (0, 0))) : ((w.setCell ⟨r, 0, none⟩ u).setCell ⟨r, 1, none⟩ v).heap[r]? = some (.cells #[u, v] t (0, 0)) := by
  have h1 := heap_setCell_same w r 0 _ _ u h
  exact heap_setCell_same _ r 1 _ _ v h1
theorem set2_other {w : World} {r : Nat} {u v : Value} (c : Nat) (hc : c ≠ r) : ((w.setCell ⟨r, 0, none⟩ u).setCell ⟨r, 1, none⟩ v).heap[c]? = w.heap[c]? :=
  (Below.heap_setCell _ _ _ _ hc).trans (Below.heap_setCell _ _ _ _ hc)
theorem c_Next2 {st : ES} (h : LawE K w0 w hb rb lim B H b st) (hB1 : 128 ≤ B) (hB : B ≤ 100000) (hu : usedH H ≤ 100000) :
    Calls Try.prog 61 (eArgs b) w (NextP K w0 hb rb lim B H b st) := by
  obtain ⟨W1, hW1⟩ : ∃ W1, w.alloc (.cells #[.string ⟨#[]⟩, .int .i64 0] 32) = W1 := ⟨_, rfl⟩
  have hb1 : Below w.heap.size w W1 := by rw [← hW1]; exact (Below.refl _ _).alloc (Nat.le_refl _) _
  have d0 : W1.heap[w.heap.size]? = some (.cells #[.string ⟨#[]⟩, .int .i64 0] 32 (0, 0)) := by rw [← hW1]; exact heap_alloc_new w _
  obtain ⟨rx, hrx⟩ : ∃ rx, rx = w.heap.size := ⟨_, rfl⟩
  obtain ⟨K', hK'⟩ : ∃ K' : Nat → Obj → Prop, K' = fun x o' => K x o' ∨ (x = rx ∧ o' = .cells #[.string ⟨#[]⟩, .int .i64 0] 32 (0, 0)) := ⟨_, rfl⟩
  have hE : LawE K' w0 W1 hb rb lim B H b st := by
    rw [hK']
    exact h.watch hb1 hrx (by rw [hrx]; exact d0)
  have hKlt : ∀ c o, K c o → c < rx := by
    obtain ⟨L, lk, n, g, Z, h1, _⟩ := h
    intro c o hk
    rw [hrx]
    exact heapH_lt (h1.held hk)
  replace hKlt := Lib.hid hKlt
  have hw0 : w0.heap.size ≤ rx := by
    obtain ⟨L, lk, n, g, Z, h1, _⟩ := h
    rw [hrx]
    exact h1.base.size
  unfold eArgs
  rw [← hrx] at d0
  replace d0 := Lib.hid d0
  clear h hb1
  go_enter Try.func61, Try.ntmps61
  go_wp2_with fail
  rw [← hrx]
  clear hW1 hrx
  go_loopw [8] (fun v8 wr => v8 = .bool false ∧ ∃ st1, LawE K' w0 wr hb rb lim B H b st1 ∧ nextE H (1000 - st1.lv) st1 = nextE H (1000 - st.lv) st) (fun _ wr => lvM b wr)
  case atStart => exact ⟨rfl, st, hE, rfl⟩
  case round =>
    obtain ⟨rfl, st1, hE1, hq1⟩ := hrel
    obtain ⟨W2, rfl⟩ : ∃ W2, W2 = wr := ⟨_, rfl⟩
    obtain ⟨lv1, hlv1⟩ : ∃ lv1, st1.lv = lv1 := ⟨_, rfl⟩
    have hm1 : lvM b W2 = 1000 - lv1 := by
      obtain ⟨L, lk, n, g, Z, hX, _⟩ := hE1
      rw [hX.lvM]; omega
    replace hm1 := Lib.hid hm1
    clear hE
    go_wp2_with fail
    go_loopw [8] (fun v8 wr => v8 = .bool false ∧ ∃ st2, LawE K' w0 wr hb rb lim B H b st2 ∧ nextE H (1000 - lv1) st2 = nextE H (1000 - st.lv) st ∧ st2.lv = lv1) (fun _ wr => lnM b wr)
    case atStart => exact ⟨rfl, st1, hE1, by rw [← hlv1]; exact hq1, hlv1⟩
    case round =>
      obtain ⟨rfl, st2, hE2, hq2, hlv2⟩ := hrel
      obtain ⟨W3, rfl⟩ : ∃ W3, W3 = wr := ⟨_, rfl⟩
      clear hE1 hq1 hlv1
      obtain ⟨L, lk, n, g, Z, hX, ⟨hR, hZ, hok⟩, hS, hn, hlv, hlen, hcur, hoffE⟩ := hE2
      have hmL := Lib.hid hX.lnM
      cases Z with
      | nil =>
        have hrem : st2.rem = [] := hZ.symm
        obtain ⟨p, c, rfl, -, -, -⟩ := hR.form
        obtain ⟨⟨c0, c1, c2, c3, c4, c5, c6⟩, ⟨c7, c8⟩, ⟨z1, z2, z3, z4⟩, l1, l2, l3, l4, l5, l6, l7, l8⟩ := hX.cells
        have kx3 := hX.held (show K' rx _ by rw [hK']; exact .inr ⟨rfl, rfl⟩)
        have kx0 : W3.cell? ⟨rx, 0, none⟩ = some (.string ⟨#[]⟩) := by rw [cell_of_row _ _ 0 _ _ _ kx3]; rfl
        have kx1 : W3.cell? ⟨rx, 1, none⟩ = some (.int .i64 0) := by rw [cell_of_row _ _ 1 _ _ _ kx3]; rfl
        have kf0 := froz_of kx3 0
        have kf1 := froz_of kx3 1
        have lx3 := heapH_lt kx3
        have hHas := l_HHas hX.law st2.o
        have hPro := l_HProto hX.law st2.o
        have hstop : (hasH H st2.o = false ∨ 1000 - lv1 = 0) → NextP K w0 hb rb lim B H b st (.returned (.tuple #[.agg #[.string ⟨#[]⟩, .int .i64 0], .bool false])) ((W3.setCell ⟨rx, 0, none⟩ (.string ⟨#[]⟩)).setCell ⟨rx, 1, none⟩ (.int .i64 0)) := fun hs => by
          have hk' : ∀ r, r ≠ rx → ((W3.setCell ⟨rx, 0, none⟩ (.string ⟨#[]⟩)).setCell ⟨rx, 1, none⟩ (.int .i64 0)).heap[r]? = W3.heap[r]? := fun r hr => set2_other r hr
          have hXf := hX.free (K' := K) (w' := (W3.setCell ⟨rx, 0, none⟩ (.string ⟨#[]⟩)).setCell ⟨rx, 1, none⟩ (.int .i64 0)) (show K' rx _ by rw [hK']; exact .inr ⟨rfl, rfl⟩) rfl rfl rfl (by simp) (fun r _ hr => hk' r hr) hw0 (fun x o' hx => ⟨by rw [hK']; exact .inl hx, Nat.ne_of_lt (hKlt.out x o' hx)⟩)
          refine ⟨st2, ⟨_, _, n, g, [], hXf, ⟨hR.off (fun _ _ _ h => by injection h with _ h; cases h) hk', hrem.symm, hok⟩, hS, hn, hlv, hlen, hcur, fun _ _ _ _ _ _ h => (by injection h with _ h; cases h)⟩, .inr ⟨?_, rfl⟩⟩
          rw [← hq2]
          exact nextE_stop hrem hs
        have hX' := Lib.hid hX
        have hS' := Lib.hid hS
        have hn' := Lib.hid hn
        have hlv' := Lib.hid hlv
        have hlv2' := Lib.hid hlv2
        have hq2' := Lib.hid hq2
        replace hHas := Lib.hid hHas
        replace hPro := Lib.hid hPro
        replace hstop := Lib.hid hstop
        have q0 : ¬ ((0 : Int) < ((([] : List KK).length : Nat) : Int)) := by simp
        clear hX hq2 hlv2 hZ hok hS hn hlv hlen hcur hR c1 c6 c7 c8 z1 z4
        cases hh : hasH H st2.o with
        | false =>
          rw [hh] at hHas
          go_wp2_with (first | (go_at_call 21; refine hHas.out.mono ?_; rintro e y ⟨rfl, rfl⟩))
          refine bodyPost_ret (results_ck rfl _ _ rx 32 #[.string ⟨#[]⟩, .int .i64 0] (0, 0) _ rfl rfl (set2_block kx3) infoKeyRowZ) rfl ?_
          exact hstop.out (.inl hh)
        | true =>
          rw [hh] at hHas
          by_cases g1 : (1000 : Int) ≤ (st2.lv : Int)
          · go_wp2_with (first | (go_at_call 21; refine hHas.out.mono ?_; rintro e y ⟨rfl, rfl⟩))
            refine bodyPost_ret (results_ck rfl _ _ rx 32 #[.string ⟨#[]⟩, .int .i64 0] (0, 0) _ rfl rfl (set2_block kx3) infoKeyRowZ) rfl ?_
            exact hstop.out (.inr (by have := hlv2'.out; omega))
          · clear hstop kx0 kx1 kf0 kf1 lx3 kx3
            go_upto_region 10 with (first | (go_at_call 21; refine hHas.out.mono ?_; rintro e y ⟨rfl, rfl⟩))
            obtain ⟨W4, rfl⟩ : ∃ W4, W4 = y := ⟨_, rfl⟩
            obtain ⟨o4, ho4⟩ : ∃ o4, o4 = proV H st2.o := ⟨_, rfl⟩
            rw [← ho4] at hPro
            replace ho4 := Lib.hid ho4
            go_upto_region 11 with (first | (go_at_call 23; refine hPro.out.mono ?_; rintro e y ⟨rfl, rfl⟩))
            obtain ⟨W5, hW5⟩ : ∃ W5, y.setCell ⟨b.o, 0, none⟩ (.int .i64 o4) = W5 := ⟨_, rfl⟩
            rw [hW5]
            have hX5 := hX'.out.setO o4
            have hnt := hX'.out.untexty (fun s h => by cases h)
            rw [hW5] at hX5
            clear hW5 c0 c2 c3 c4 c5 z2 z3 l1 l2 l3 l4 l5 l6 l7 l8
            obtain ⟨⟨-, -, -, -, -, c5, -⟩, -, ⟨-, -, z3, -⟩, -, -, -, -, -, l6, -⟩ := hX5.cells
            obtain ⟨W6, hW6⟩ : ∃ W6, W5.setCell ⟨b.v, 0, none⟩ (.int .i64 ((st2.lv : Int) + 1)) = W6 := ⟨_, rfl⟩
            have hX6 := hX5.setV ((st2.lv : Int) + 1)
            rw [hW6] at hX6
            have hX6' := Lib.hid hX6
            have q1 : wrap64 ((st2.lv : Int) + 1) = (st2.lv : Int) + 1 := by have := hlv'.out; unfold wrap64; omega
            clear hX5 hX6
            go_upto_region 12 with fail
            clear hW6 c5 z3 l6 q1
            have hKs := Lib.hid (l_HKeysF hX6'.out.law hB1 hB o4)
            obtain ⟨⟨-, -, c2, c3, -⟩, -, -, -⟩ := hX6'.out.cells
            go_upto_region 13 with (first | (go_at_call 17; refine hKs.out.mono ?_; rintro e y7 ⟨v7, Z7, rfl, hr7, hk7, hb7, hf7⟩; obtain ⟨p7, cp7, rfl, -⟩ := hr7.form; have hX7 := hX6'.out.below hb7; have hoff7 := Lib.hid (fun (c : Nat) (ob : Obj) (hk : K' c ob) => hf7.off (heapH_lt (hX6'.out.held hk))); obtain ⟨⟨c0, -⟩, -, ⟨z1, -⟩, l1, -⟩ := hX7.cells))
            clear c0 z1 l1 c2 c3
            obtain ⟨W8, hW8⟩ : ∃ W8, y7.setCell ⟨b.l, 0, none⟩ (.slice p7 Z7.length cp7) = W8 := ⟨_, rfl⟩
            rw [hW8]
            have hX8 := hX6'.out.newL hb7 (L' := .slice p7 Z7.length cp7) (fun c hc => hf7.off hc)
            have hR8 := hr7.set (i := 0) (v := .slice p7 Z7.length cp7) (hX7.untexty (fun s h => by cases h)).1
            rw [hW8] at hX8 hR8
            have hlK : Z7.length ≤ 100000 := by
              rw [hk7.len]
              unfold listH gk
              rcases objH_cases H o4 with ⟨_, h2⟩ | ⟨n, a, _, _, ha, h3, _⟩
              · rw [h2]; simp
              · rw [h3, List.length_map]
                have := len_used (List.mem_of_getElem? ha)
                show a.l.length ≤ _
                omega
            have hpos : ∀ K, okK K → ∀ j, g (klK K) = some j → 0 < j := fun x hx j hj => by
              have h1 := hS'.out x hx
              cases hs : hadB st2.seen x with
              | true =>
                obtain ⟨j2, h3, h4, _⟩ := h1.1 hs
                rw [hj] at h3; injection h3 with h3; omega
              | false =>
                have h3 := h1.2 hs
                rw [hj] at h3
                have := hlv'.out
                split at h3
                · injection h3 with h3; omega
                · cases h3
            obtain ⟨e1, e2, e3⟩ := hX8.blocks
            have hnote := c_note e1 e2 e3 hR8 hk7.ok (by omega) hX8.map (by have := hn'.out; have := hlv'.out; omega) (by have := hlv'.out; omega) (WalkArith.wf_i64 (by have := hlv'.out; omega)) hpos
            replace hnote := Lib.hid hnote
            obtain ⟨⟨-, -, -, -, -, -, c6⟩, -, -, -⟩ := hX8.cells
            unfold noteV at c6
            replace hX8 := Lib.hid hX8
            replace hR8 := Lib.hid hR8
            clear hX7 hX6' hr7 hb7 hW8 hpos
            go_wp2_with (first | (go_at_call 59; refine hnote.out.mono ?_; rintro e y9 ⟨rfl, hN9⟩))
            obtain ⟨n9, g9, hX9, hn9, hg9⟩ := hX8.out.noted hN9
            rw [List.take_of_length_le (by simp)] at hg9
            have hR9 : RdK y9 (.slice p7 Z7.length cp7) Z7 := hR8.out.block fun r ⟨j, s, hc⟩ => hN9.1.block r (cell_lt hc) (fun e => by
              have e := Option.some.inj e
              subst e
              exact no_cell hX8.out.map hc)
            have hord : Z7.map pk = keysH H o4 := ordK_eq hk7
            have hadv : advE H st2 = ⟨o4, st2.lv + 1, Z7.map pk, st2.seen ++ st2.cur, Z7.map pk⟩ := by
              unfold advE
              rw [show proZ H st2.o = o4 from ho4.out.symm, hord]
            have hhS := hS'.out
            have hhlv := hlv'.out
            refine ⟨⟨rfl, ⟨o4, st2.lv + 1, Z7.map pk, st2.seen ++ st2.cur, Z7.map pk⟩, ⟨_, lk, n9, g9, Z7, ?_, ⟨hR9, rfl, hk7.ok⟩, ?_, ?_, ⟨by simp, by simp; omega⟩, by simpa using hlK, fun x hx => hadB_iff.2 hx, hoff7.out⟩, ?_⟩, ?_⟩
            · have : (((st2.lv + 1 : Nat) : Int)) = (st2.lv : Int) + 1 := by simp
              dsimp only
              rw [this]
              exact hX9
            · intro x hx
              obtain ⟨s1, s2⟩ := hhS x hx
              have hg := hg9 x hx
              have happ : hadB (st2.seen ++ st2.cur) x = (hadB st2.seen x || hadB st2.cur x) := by unfold hadB; rw [List.any_append]
              refine ⟨fun hs => ?_, fun hs => ?_⟩
              · dsimp only at hs
                rw [happ] at hs
                cases h1 : hadB st2.seen x with
                | true =>
                  obtain ⟨j, h3, h4, h5⟩ := s1 h1
                  rw [h3] at hg
                  exact ⟨j, hg, h4, by simp; omega⟩
                | false =>
                  rw [h1, Bool.false_or] at hs
                  have h3 := s2 h1
                  rw [hs, if_pos rfl] at h3
                  rw [h3] at hg
                  exact ⟨_, hg, by omega, by simp; omega⟩
              · dsimp only at hs
                rw [happ] at hs
                have h1 : hadB st2.seen x = false := by cases h : hadB st2.seen x with | true => rw [h] at hs; cases hs | false => rfl
                rw [h1, Bool.false_or] at hs
                have h3 := s2 h1
                rw [hs] at h3
                rw [h3] at hg
                simpa using hg
            · have := hn'.out; dsimp only; omega
            · dsimp only
              rw [← hadv, ← hq2'.out]
              obtain ⟨m, hm⟩ : ∃ m, 1000 - lv1 = m + 1 := ⟨1000 - lv1 - 1, by have := hlv2'.out; omega⟩
              rw [hm, nextE_adv hrem hh, show 1000 - (st2.lv + 1) = m by have := hlv2'.out; omega]
            · rw [hX9.lvM, hm1.out]
              have := hlv2'.out
              omega
      | cons x Z =>
        obtain ⟨L2, hR2, hsl, hoff⟩ := slice_tail hR
        obtain ⟨p2, cp2, rfl, -⟩ := hR2.form
        have hnt := hR.notext
        obtain ⟨p, c, rfl, -, hc, hcell⟩ := hR.form
        obtain ⟨⟨c0, c1, c2, c3, c4, c5, c6⟩, ⟨c7, c8⟩, ⟨z1, z2, z3, z4⟩, l1, l2, l3, l4, l5, l6, l7, l8⟩ := hX.cells
        obtain ⟨bk, ok, rfl, lbk, hy⟩ := hcell 0 x rfl
        obtain ⟨y1, y2⟩ := hy _ (Below.refl _ _)
        rw [show ok + 0 * 2 = ok by omega] at y1 y2
        clear hcell hy
        rw [List.length_cons] at *
        have q1 : (0 : Int) < ((Z.length + 1 : Nat) : Int) := by omega
        obtain ⟨x0, xn⟩ := x
        dsimp only at y1 y2
        obtain ⟨W4, hW4⟩ : ∃ W4, W3.alloc (.cells #[.string x0, .int .i64 xn] 32) = W4 := ⟨_, rfl⟩
        have hb4 : Below W3.heap.size W3 W4 := by rw [← hW4]; exact (Below.refl _ _).alloc (Nat.le_refl _) _
        have d4 : W4.heap[W3.heap.size]? = some (.cells #[.string x0, .int .i64 xn] 32 (0, 0)) := by rw [← hW4]; exact heap_alloc_new W3 _
        obtain ⟨rk, hrk⟩ : ∃ rk, rk = W3.heap.size := ⟨_, rfl⟩
        obtain ⟨K2, hK2⟩ : ∃ K2 : Nat → Obj → Prop, K2 = fun x o' => K' x o' ∨ (x = rk ∧ o' = .cells #[.string x0, .int .i64 xn] 32 (0, 0)) := ⟨_, rfl⟩
        have hoffx := hoff rx (hoffE rx _ (show K' rx _ by rw [hK']; exact .inr ⟨rfl, rfl⟩))
        have hoffK' := Lib.hid (fun (c : Nat) (ob : Obj) (hk : K' c ob) => hoff c (hoffE c ob hk))
        have hoffK := Lib.hid (fun (c : Nat) (ob : Obj) (hk : K c ob) => hoffK'.out c ob (by rw [hK']; exact .inl hk))
        have hoff0 := hoff
        clear hoff hoffE
        have hX4 : LawX K2 w0 W4 hb rb lim B H b (.slice (some ⟨bk, ok, none⟩) (Z.length + 1) c) lk n g st2.o (st2.lv : Int) := by
          rw [hK2]; exact hX.watch hb4 hrk (by rw [hrk]; exact d4)
        have hk2 : K2 rk (.cells #[.string x0, .int .i64 xn] 32 (0, 0)) := by rw [hK2]; exact .inr ⟨rfl, rfl⟩
        obtain ⟨W5, hW5⟩ : ∃ W5, W4.setCell ⟨b.l, 0, none⟩ (.slice p2 Z.length cp2) = W5 := ⟨_, rfl⟩
        have hX5 := hX4.setL (.slice p2 Z.length cp2) (fun f f2 _ _ h c hc => hoff0 c (h c hc))
        have hR5 := (hR2.keep hb4).set (i := 0) (v := (.slice p2 Z.length cp2)) (hX4.untexty hnt).1
        rw [hW5] at hX5 hR5
        obtain ⟨W6, hW6⟩ : ∃ W6, W5.setCell ⟨b.E, 1, none⟩ (.int .i64 (wrap64 (lk + 1))) = W6 := ⟨_, rfl⟩
        have hX6 := hX5.setK (wrap64 (lk + 1))
        have hR6 := hR5.set (i := 1) (v := .int .i64 (wrap64 (lk + 1))) (hX5.untexty hR5.notext).2.2.2.1
        rw [hW6] at hX6 hR6
        have hc4 := Lib.hid hX4.cells
        have hc5 := Lib.hid hX5.cells
        have hc6 := Lib.hid hX6.cells
        have hsl0 := Lib.hid hsl
        have hX6' := Lib.hid hX6
        have hok' := Lib.hid hok
        have hZ' := Lib.hid hZ
        have hS' := Lib.hid hS
        have hcur' := Lib.hid hcur
        have hq2' := Lib.hid hq2
        have hlv' := Lib.hid hlv
        have hlen' := Lib.hid hlen
        have hn' := Lib.hid hn
        have hlv2' := Lib.hid hlv2
        clear hX hX4 hX5 hX6 hq2 hlv2 c1 c2 c3 c4 c5 c6 c7 c8 hZ hok hS hn hlv hlen hcur hsl hR2 hR hR5 hnt hb4
        go_upto_region 3 with (fail)
        rw [← hrk]
        clear hrk
        clear c0 y1 y2 hW4 z1 z2 z3 z4 l1 l2 l3 l4 l5 l6 l7 l8 lbk
        obtain ⟨⟨c0, -⟩, -, ⟨z1, -⟩, l1, -⟩ := hc4.out
        have hslc := hsl0.out
        go_upto_region 4 with (fail)
        clear hslc hW5 c0 z1 l1
        obtain ⟨⟨-, c1, -⟩, ⟨c7, c8⟩, ⟨-, -, -, z4⟩, -, l2, -⟩ := hc5.out
        go_upto_region 5 with (fail)
        clear hW6 c1 c7 c8 z4 l2
        obtain ⟨⟨-, -, c2, c3, -⟩, -, -, -⟩ := hc6.out
        have hX6w := hX6'.out
        have kb6 := hX6w.held hk2
        have kc0 : W6.cell? ⟨rk, 0, none⟩ = some (.string x0) := by rw [cell_of_row _ _ 0 _ _ _ kb6]; rfl
        have kc1 : W6.cell? ⟨rk, 1, none⟩ = some (.int .i64 xn) := by rw [cell_of_row _ _ 1 _ _ _ kb6]; rfl
        have hokx := hok'.out (x0, xn) (List.mem_cons_self ..)
        have hOx := l_HOwnV hX6w.law st2.o (x0, xn) hokx
        have hgd := goodB_pk H st2.o (x0, xn)
        dsimp only at hOx hgd
        generalize (ownH H st2.o (pk (x0, xn))).getD zeroPV = P at *
        generalize (ownH H st2.o (pk (x0, xn))).isSome = bI at *
        have hi13 : (Try.prog.info? 37).map (·.size) = some (encP P).toArray.size := infoProp
        have hi13l : (Try.prog.info? 37).map (·.size) = some (encP P).length := infoProp
        have ho13 := all_oneCell_toArray (encP_one P)
        have hq := fun (y : World) => zeroQ_set y P
        have hth := fun (y : World) => (zeroQ_there y : (y.alloc (.cells zeroQ 37)).there y.heap.size 0 (encP P).toArray.size)
        replace hOx := Lib.hid hOx
        replace hq := Lib.hid hq
        replace hX6 := Lib.hid hX6w
        replace hgd := Lib.hid hgd
        have tokD : True := trivial
        clear hX6w kb6 hokx
        go_upto_region 6 with (first | (go_at_call 20; refine hOx.out.mono ?_; rintro e y7 ⟨rfl, hb7⟩; have hth7 := hth y7; obtain ⟨hq1, hq2⟩ := hq.out y7; clear kc0 kc1) | (clear tokD; refine wpList_store_mid rfl 37 (.tmp 10) (.tmp 32) rfl y7.heap.size 0 (encP P).toArray rfl rfl hth7 hi13 ho13 ?_; generalize hW8 : World.setCells _ _ _ _ = W8; rw [show (y7.alloc (.cells zeroQ 37)).setCells y7.heap.size 0 (encP P) = W8 from hW8] at hq1 hq2; clear hW8 hth7))
        have hb78 : Below W6.heap.size W6 W8 := hb7.trans (hq1.mono hb7.size)
        have hX8 := hX6.out.below hb78
        have hR8 := hR6.keep hb78
        obtain ⟨-, -, -, -, -, -, -, -, -, -, -, -, a12⟩ := cells13 hq2
        obtain ⟨⟨-, -, -, -, c4, c5, -⟩, -, -, -, -, -, -, l5, l6, -⟩ := hX8.cells
        have kb8 := hX8.held hk2
        have kc0 : W8.cell? ⟨rk, 0, none⟩ = some (.string x0) := by rw [cell_of_row _ _ 0 _ _ _ kb8]; rfl
        have kc1 : W8.cell? ⟨rk, 1, none⟩ = some (.int .i64 xn) := by rw [cell_of_row _ _ 1 _ _ _ kb8]; rfl
        have lk8 := heapH_lt kb8
        have lq8 := heapH_lt hq2
        have hmap := hX8.map
        have lm8 := hmap.lt
        have hokx := hok'.out (x0, xn) (List.mem_cons_self ..)
        have hrem : st2.rem = pk (x0, xn) :: Z.map pk := hZ'.out.symm
        obtain ⟨tb, htb⟩ : ∃ tb, toldB H st2.o st2.seen (pk (x0, xn)) = tb := ⟨_, rfl⟩
        have hround : ∀ y, Below W8.heap.size W8 y → tb = false → (∃ st', LawE K' w0 y hb rb lim B H b st' ∧ nextE H (1000 - lv1) st' = nextE H (1000 - st.lv) st ∧ st'.lv = lv1) ∧ lnM b y < lnM b W3 := fun y hy e => by
          rw [e] at htb
          have hXy := hX8.below hy
          refine ⟨⟨{ st2 with rem := Z.map pk }, ⟨_, _, n, g, Z, hXy.weaken (fun c o h => by rw [hK2]; exact .inl h), ⟨hR8.keep hy, rfl, fun x hx => hok'.out x (List.mem_cons_of_mem _ hx)⟩, hS'.out, hn'.out, hlv'.out, ?_, ?_, hoffK'.out⟩, ?_, hlv2'.out⟩, ?_⟩
          · have := hlen'.out; rw [hrem] at this; simp at this ⊢; omega
          · intro x hx; exact hcur'.out x (by rw [hrem]; exact List.mem_cons_of_mem _ hx)
          · rw [← hq2'.out]; exact (nextE_skip hrem htb).symm
          · rw [hXy.lnM, hmL.out]; show Z.length < Z.length + 1; omega
        have hread : ∃ j : Int, g (klK (pk (x0, xn))) = some j ∧ (hadB st2.seen (pk (x0, xn)) = decide (j ≠ (st2.lv : Int))) := by
          have hok2 := pk_ok hokx
          have h1 := hS'.out _ hok2
          have h2 := hcur'.out (pk (x0, xn)) (by rw [hrem]; exact List.mem_cons_self ..)
          cases hs : hadB st2.seen (pk (x0, xn)) with
          | true =>
            obtain ⟨j, h3, h4, h5⟩ := h1.1 hs
            exact ⟨j, h3, (decide_eq_true (by omega)).symm⟩
          | false =>
            have h3 := h1.2 hs
            rw [h2] at h3
            exact ⟨_, h3, (decide_eq_false (by simp)).symm⟩
        obtain ⟨jv, hjv, hhad⟩ := hread
        have hgd0 := hgd.out
        have htb0 := Lib.hid htb
        have hS2 := hS'
        have hn2 := hn'
        have hlen2 := hlen'
        rw [toldB, hgd0, hhad] at htb
        have hlk := fun y hy => look_G1 hmap (pk (x0, xn)) (pk_ok hokx) jv hjv y hy
        have hP := c_Iplain (x0, xn) hokx.1
        have hst := onto_drew W8
        unfold keyV at hP hlk
        dsimp only at hP
        replace hP := Lib.hid hP
        replace hround := Lib.hid hround
        replace hX8 := Lib.hid hX8
        clear hX6 hc4 hc5 hc6 hX6' hsl0 hgd hgd0 hOx hq hth hi13 hi13l ho13 hq1 hq2 hb78 hb7 c2 c3 hmap kb8 hS' hlen' hn' hR6
        have hdrew := fun n => hround.out (W8.drewN n) ⟨rfl, rfl, rfl, Nat.le_refl _, fun _ _ => rfl⟩
        by_cases g1 : xn ≤ 0
        · cases bI with
          | false =>
            have htb' := fun n => hdrew n (by rw [← htb]; simp)
            clear htb
            go_quiet (fail)
            go_wp2_with fail
            exact ⟨⟨rfl, (htb' _).1⟩, (htb' _).2⟩
          | true =>
            by_cases g2 : numB P.fl = true
            · have g3 : (bits BinOp.and IntKind.i64 P.fl 2 != 0) = true := g2
              by_cases g4 : jv = (st2.lv : Int)
              · have htb' : tb = true := by rw [← htb]; simp [g1, g2, g4]
                have g5 : (jv == (st2.lv : Int)) = true := by simp [g4]
                clear htb hdrew
                rw [htb'] at htb0
                go_region_held3 (fun y => (∀ a : Addr, a.block < W8.heap.size → y.cell? a = W8.cell? a) ∧ (∀ b : Nat, b < W8.heap.size → y.heap[b]? = W8.heap[b]?) ∧ Below W8.heap.size W8 y) (first | with_reducible assumption | with_reducible exact hst | with_reducible exact onto_below (by assumption) (by assumption)) (first | (go_at_call 60; refine (hP.out _).mono ?_; rintro e y9 ⟨rfl, hb9⟩))
                have hB9 := (Below.refl _ W8).drew.trans (hb9.mono (Nat.le_refl _))
                have hX9 := hX8.out.below hB9
                have kk9 := hX9.held hk2
                have kx9 := hX9.held (show K2 rx _ by rw [hK2, hK']; exact .inl (.inr ⟨rfl, rfl⟩))
                have kc0 : y9.cell? ⟨rk, 0, none⟩ = some (.string x0) := by rw [cell_of_row _ _ 0 _ _ _ kk9]; rfl
                have kc1 : y9.cell? ⟨rk, 1, none⟩ = some (.int .i64 xn) := by rw [cell_of_row _ _ 1 _ _ _ kk9]; rfl
                have kx0 : y9.cell? ⟨rx, 0, none⟩ = some (.string ⟨#[]⟩) := by rw [cell_of_row _ _ 0 _ _ _ kx9]; rfl
                have kx1 : y9.cell? ⟨rx, 1, none⟩ = some (.int .i64 0) := by rw [cell_of_row _ _ 1 _ _ _ kx9]; rfl
                have kf0 := froz_of kx9 0
                have kf1 := froz_of kx9 1
                have lx9 := heapH_lt kx9
                have hR9 := Lib.hid (hR8.keep hB9)
                have hX9' := Lib.hid hX9
                clear hst hlk hX9 c4 c5 a12 hB9 hb9 lk8 lq8 lm8 l5 l6
                go_wp2_with fail
                refine bodyPost_ret (results_ck rfl _ _ rx 32 #[.string x0, .int .i64 xn] (0, 0) _ rfl rfl (set2_block kx9) infoKeyRowZ) rfl ?_
                have hk' : ∀ r, r ≠ rx → ((y9.setCell ⟨rx, 0, none⟩ (.string x0)).setCell ⟨rx, 1, none⟩ (.int .i64 xn)).heap[r]? = y9.heap[r]? := fun r hr => set2_other r hr
                have hXf := hX9'.out.free (K' := K) (w' := (y9.setCell ⟨rx, 0, none⟩ (.string x0)).setCell ⟨rx, 1, none⟩ (.int .i64 xn)) (show K2 rx _ by rw [hK2, hK']; exact .inl (.inr ⟨rfl, rfl⟩)) rfl rfl rfl (by simp) (fun r _ hr => hk' r hr) hw0 (fun x o' hx => ⟨by rw [hK2, hK']; exact .inl (.inl hx), Nat.ne_of_lt (hKlt.out x o' hx)⟩)
                refine ⟨{ st2 with rem := Z.map pk }, ⟨_, _, n, g, Z, hXf, ⟨hR9.out.off hoffx hk', rfl, fun x hx => hok'.out x (List.mem_cons_of_mem _ hx)⟩, hS2.out, hn2.out, hlv'.out, ?_, ?_, hoffK.out⟩, .inl ⟨(x0, xn), hokx, ?_, rfl⟩⟩
                · have := hlen2.out; rw [hrem] at this; simp at this ⊢; omega
                · intro x hx; exact hcur'.out x (by rw [hrem]; exact List.mem_cons_of_mem _ hx)
                · rw [← hq2'.out]
                  exact nextE_told hrem htb0.out
              · have htb' : tb = false := by rw [← htb]; simp [g1, g2, g4]
                have g5 : (jv == (st2.lv : Int)) = false := by simp [g4]
                clear htb hdrew
                go_region_held3 (fun y => (∀ a : Addr, a.block < W8.heap.size → y.cell? a = W8.cell? a) ∧ (∀ b : Nat, b < W8.heap.size → y.heap[b]? = W8.heap[b]?) ∧ Below W8.heap.size W8 y) (first | with_reducible assumption | with_reducible exact hst | with_reducible exact onto_below (by assumption) (by assumption)) (first | (go_at_call 60; refine (hP.out _).mono ?_; rintro e y9 ⟨rfl, hb9⟩))
                have hB9 := (Below.refl _ W8).drew.trans (hb9.mono (Nat.le_refl _))
                have hend := hround.out _ hB9 htb'
                go_wp2_with fail
                exact ⟨⟨rfl, hend.1⟩, hend.2⟩
            · have g3 : (bits BinOp.and IntKind.i64 P.fl 2 != 0) = false := by rw [← Bool.not_eq_true]; exact g2
              have htb' := fun n => hdrew n (by rw [← htb]; simp [g2])
              clear htb
              go_quiet (fail)
              go_wp2_with fail
              exact ⟨⟨rfl, (htb' _).1⟩, (htb' _).2⟩
        · have htb' := fun n => hdrew n (by rw [← htb]; simp [g1])
          clear htb
          go_quiet (fail)
          go_wp2_with fail
          exact ⟨⟨rfl, (htb' _).1⟩, (htb' _).2⟩
        all_goals done
    all_goals done
end
end Go.Proofs.Ytoccmiinkfhohaa

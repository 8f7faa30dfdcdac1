/-
  Contracts: Enumerations beside one heap alone (for the laws' example): the same texts over a narrower notion of the heaps.
-/
import Derived.Test.YtoccmiinkfhohaaOO17
import Derived.Deep.Cut
namespace Go.Proofs.Ytoccmiinkfhohaa.Ein
open Go.RowKit Go.Shelf Go.Lib Go.Sort Go.Proofs Go.Maps
set_option linter.unusedVariables false
set_option maxHeartbeats 4000000
set_option maxRecDepth 100000

def Two (w : World) (hb rb : Nat) (lim : Int) (B : Nat) (H : List OB) (f f2 : Nat → Nat) : Prop :=
  Norm f w ∧ Norm f2 w ∧ HeapO w f hb lim (usedH H) B H ∧ True ∧ ∀ r, f2 r ≠ 0 → f r = 0
theorem Two.below {w w' : World} {hb rb B : Nat} {lim : Int} {H : List OB} {f f2 : Nat → Nat} (h : Two w hb rb lim B H f f2) (hb' : Below w.heap.size w w') : Two w' hb rb lim B H f f2 := by
  obtain ⟨h1, h2, h3, h4, h5⟩ := h
  exact ⟨h1.below hb'.size, h2.below hb'.size, h3.below h1 hb', h4, h5⟩
theorem Two.keep {w w' : World} {hb rb B : Nat} {lim : Int} {H : List OB} {f f2 : Nat → Nat} (h : Two w hb rb lim B H f f2) (ho : w'.os = w.os) (ht : w'.tape = w.tape) (hp : w'.output = w.output) (hs : w.heap.size ≤ w'.heap.size) {k0 : Nat} (hK : f k0 = 0 ∧ f2 k0 = 0) (hk : ∀ r, r < w.heap.size → r ≠ k0 → w'.heap[r]? = w.heap[r]?) : Two w' hb rb lim B H f f2 := by
  obtain ⟨h1, h2, h3, h4, h5⟩ := h
  have t1 : Turn (fun c => c = 0) f f w w' := ⟨ho, ht, hp, hs, fun _ _ => rfl, h1.below hs, fun r hr hn => hk r hr (fun e => hn (by rw [e]; exact hK.1))⟩
  exact ⟨h1.below hs, h2.below hs, h3.turn t1 (fun _ h => h), h4, h5⟩
def LawS (w0 w : World) (hb rb : Nat) (lim : Int) (B : Nat) (H : List OB) : Prop :=
  ∃ f f2, Two w hb rb lim B H f f2 ∧ Below w0.heap.size w0 w ∧ ∀ r, r < w0.heap.size → f r = 0 ∧ f2 r = 0
section
variable {w0 w w' : World} {hb rb B : Nat} {lim : Int} {H : List OB}
theorem LawS.base (h : LawS w0 w hb rb lim B H) : Below w0.heap.size w0 w := by
  obtain ⟨f, f2, h1, h2, h3⟩ := h
  exact h2
theorem LawS.below (h : LawS w0 w hb rb lim B H) (hb' : Below w.heap.size w w') : LawS w0 w' hb rb lim B H := by
  obtain ⟨f, f2, h1, h2, h3⟩ := h
  exact ⟨f, f2, h1.below hb', h2.trans (hb'.mono h2.size), h3⟩
theorem l_HHas (h : LawS w0 w hb rb lim B H) (o : Int) : Calls Try.prog 21 #[.pointer (some ⟨hb, 0, none⟩), .int .i64 o] w fun e w' => e = .returned (.bool (hasH H o)) ∧ w' = w := by
  obtain ⟨f, f2, h1, h2, h3⟩ := h
  exact c_HHas h1.2.2.1 o
theorem l_HProto (h : LawS w0 w hb rb lim B H) (o : Int) : Calls Try.prog 23 #[.pointer (some ⟨hb, 0, none⟩), .int .i64 o] w fun e w' => e = .returned (.int .i64 (proV H o)) ∧ w' = w := by
  obtain ⟨f, f2, h1, h2, h3⟩ := h
  exact c_HProto h1.2.2.1 o
theorem l_HKeys (h : LawS w0 w hb rb lim B H) (hB1 : 128 ≤ B) (hB : B ≤ 100000) (o : Int) : Calls Try.prog 17 #[.pointer (some ⟨hb, 0, none⟩), .int .i64 o] w fun e w' => ∃ v Z, e = .returned v ∧ RdK w' v Z ∧ KeysOf (gk (listH H o)) Z ∧ Below w.heap.size w w' := by
  obtain ⟨f, f2, h1, h2, h3⟩ := h
  exact c_HKeys h1.1 h1.2.2.1 hB1 hB o
theorem l_HOwnV (h : LawS w0 w hb rb lim B H) (o : Int) (k : KK) (hk : okK k) : Calls Try.prog 20 #[.pointer (some ⟨hb, 0, none⟩), .int .i64 o, .agg #[.string k.1, .int .i64 k.2]] w fun e w' => e = .returned (.tuple #[.agg (encP ((ownH H o (pk k)).getD zeroPV)).toArray, .bool (ownH H o (pk k)).isSome]) ∧ Below w.heap.size w w' := by
  obtain ⟨f, f2, h1, h2, h3⟩ := h
  exact (c_HOwn h1.1 h1.2.2.1 o k hk).mono fun e w' hx => ⟨hx.2, hx.1⟩
theorem l_HKeysF {w0 w : World} {hb rb B : Nat} {lim : Int} {H : List OB} (h : LawS w0 w hb rb lim B H) (hB1 : 128 ≤ B) (hB : B ≤ 100000) (o : Int) : Calls Try.prog 17 #[.pointer (some ⟨hb, 0, none⟩), .int .i64 o] w fun e w' => ∃ v Z, e = .returned v ∧ RdK w' v Z ∧ KeysOf (gk (listH H o)) Z ∧ Below w.heap.size w w' ∧ FreshL w.heap.size v := by
  obtain ⟨f, f2, h1, h2, h3⟩ := h
  exact c_HKeysF h1.1 h1.2.2.1 hB1 hB o
end
section

/-- a list does not lie in this block -/
def offL (L : Value) (b : Nat) : Prop := ∀ p n c, L = .slice (some p) (n + 1) c → p.block ≠ b
/-- .. nor in a block that a heap owns -/
def offF (f f2 : Nat → Nat) (L : Value) : Prop := ∀ c, (f c ≠ 0 ∨ f2 c ≠ 0) → offL L c
/-- an enumeration's blocks -/
structure EB where
  E : Nat
  l : Nat
  e : Nat
  h : Nat
  o : Nat
  s : Nat
  v : Nat
  n : Nat
  m : Nat
/-- where an enumeration stands -/
structure ES where
  o : Int
  lv : Nat
  rem : List KK
  seen : List KK
  cur : List KK
def nextV (b : EB) : Value := .func (.func 61) #[] #[.pointer (some ⟨b.l, 0, none⟩), .pointer (some ⟨b.e, 0, none⟩), .pointer (some ⟨b.h, 0, none⟩), .pointer (some ⟨b.o, 0, none⟩), .pointer (some ⟨b.s, 0, none⟩), .pointer (some ⟨b.v, 0, none⟩), .pointer (some ⟨b.n, 0, none⟩)]
def noteV (b : EB) : Value := .func (.func 59) #[] #[.pointer (some ⟨b.l, 0, none⟩), .pointer (some ⟨b.s, 0, none⟩), .pointer (some ⟨b.v, 0, none⟩)]
/-- what the map knows -/
def SeenG (g : Lit → Option Int) (st : ES) : Prop := ∀ K, okK K → (hadB st.seen K = true → ∃ j, g (klK K) = some j ∧ 0 < j ∧ j < (st.lv : Int)) ∧ (hadB st.seen K = false → g (klK K) = if hadB st.cur K then some (st.lv : Int) else none)
def EnumX (w : World) (f : Nat → Nat) (hb : Nat) (b : EB) (L : Value) (lk : Int) (n : Nat) (g : Lit → Option Int) (o lv : Int) : Prop :=
  (w.heap[b.l]? = some (.cells #[L] 51 (0, 0)) ∧ f b.l = 1) ∧ (w.heap[b.e]? = some (.cells #[.pointer (some ⟨b.E, 0, none⟩)] 76 (0, 0)) ∧ f b.e = 2) ∧ (w.heap[b.h]? = some (.cells #[.pointer (some ⟨hb, 0, none⟩)] 25 (0, 0)) ∧ f b.h = 3) ∧ (w.heap[b.o]? = some (.cells #[.int .i64 o] 3 (0, 0)) ∧ f b.o = 4) ∧
  (w.heap[b.s]? = some (.cells #[.map (some b.m)] 115 (0, 0)) ∧ f b.s = 5) ∧ (w.heap[b.v]? = some (.cells #[.int .i64 lv] 3 (0, 0)) ∧ f b.v = 6) ∧ (w.heap[b.n]? = some (.cells #[noteV b] 1 (0, 0)) ∧ f b.n = 7) ∧ (w.heap[b.E]? = some (.cells #[nextV b, .int .i64 lk] 82 (0, 0)) ∧ f b.E = 8) ∧ (MapG w 32 b.m n g ∧ f b.m = 10)
theorem EnumX.turn {C : Nat → Prop} {w w' : World} {f f' : Nat → Nat} {hb n : Nat} {b : EB} {L : Value} {lk o lv : Int} {g : Lit → Option Int} (h : EnumX w f hb b L lk n g o lv) (ht : Turn C f f' w w') (hC : ∀ c, C c → c = 0) : EnumX w' f' hb b L lk n g o lv := by
  obtain ⟨h1, h2, h3, h4, h5, h6, h7, h8, h9⟩ := h
  have hn : ∀ c, 0 < c → ¬ C c := fun c hc h => by have := hC c h; omega
  refine ⟨blk_turn h1 ht (hn _ (by omega)), blk_turn h2 ht (hn _ (by omega)), blk_turn h3 ht (hn _ (by omega)), blk_turn h4 ht (hn _ (by omega)), blk_turn h5 ht (hn _ (by omega)), blk_turn h6 ht (hn _ (by omega)), blk_turn h7 ht (hn _ (by omega)), blk_turn h8 ht (hn _ (by omega)), ?_, ?_⟩
  · exact h9.1.at (ht.block _ h9.1.lt (hn _ (by rw [h9.2]; omega)))
  · rw [ht.agree _ h9.1.lt]; exact h9.2
/-- the three of them, side by side; K: blocks that are nobody's -/
def LawX (K : Nat → Obj → Prop) (w0 w : World) (hb rb : Nat) (lim : Int) (B : Nat) (H : List OB) (b : EB) (L : Value) (lk : Int) (n : Nat) (g : Lit → Option Int) (o lv : Int) : Prop :=
  ∃ f f2 f3, Two w hb rb lim B H f f2 ∧ Below w0.heap.size w0 w ∧ (∀ r, r < w0.heap.size → f3 r = 0) ∧ (Norm f3 w ∧ EnumX w f3 hb b L lk n g o lv) ∧ (∀ r, f3 r ≠ 0 → f r = 0 ∧ f2 r = 0) ∧ (∀ c o, K c o → w.heap[c]? = some o ∧ f c = 0 ∧ f2 c = 0 ∧ f3 c = 0) ∧ offF f f2 L
/-- .. and what is to be told -/
def LawE (K : Nat → Obj → Prop) (w0 w : World) (hb rb : Nat) (lim : Int) (B : Nat) (H : List OB) (b : EB) (st : ES) : Prop :=
  ∃ L lk n g Z, LawX K w0 w hb rb lim B H b L lk n g st.o (st.lv : Int) ∧ (RdK w L Z ∧ Z.map pk = st.rem ∧ ∀ x ∈ Z, okK x) ∧ SeenG g st ∧ n ≤ st.lv * 100000 ∧ (1 ≤ st.lv ∧ st.lv ≤ 1000) ∧ st.rem.length ≤ 100000 ∧ (∀ x ∈ st.rem, hadB st.cur x = true) ∧ ∀ c o, K c o → offL L c
section
variable {K : Nat → Obj → Prop} {w0 w w' : World} {hb rb B n : Nat} {lim lk o lv : Int} {H : List OB} {b : EB} {st : ES} {L : Value} {g : Lit → Option Int}
theorem LawX.law (h : LawX K w0 w hb rb lim B H b L lk n g o lv) : LawS { w with heap := #[] } w hb rb lim B H := by
  obtain ⟨f, f2, f3, h1, h2, h3, _⟩ := h
  exact ⟨f, f2, h1, ⟨rfl, rfl, rfl, Nat.zero_le _, fun r hr => absurd hr (Nat.not_lt_zero _)⟩, fun r hr => absurd hr (Nat.not_lt_zero _)⟩
theorem LawX.base (h : LawX K w0 w hb rb lim B H b L lk n g o lv) : Below w0.heap.size w0 w := by
  obtain ⟨f, f2, f3, h1, h2, _⟩ := h
  exact h2
theorem LawX.below (h : LawX K w0 w hb rb lim B H b L lk n g o lv) (hb' : Below w.heap.size w w') : LawX K w0 w' hb rb lim B H b L lk n g o lv := by
  obtain ⟨f, f2, f3, h1, h2, h3, ⟨h4, h5⟩, h6, h7, h8⟩ := h
  refine ⟨f, f2, f3, h1.below hb', h2.trans (hb'.mono h2.size), h3, ⟨h4.below hb'.size, h5.turn (Turn.of_below (fun _ => False) h4 hb') (fun _ h => h.elim)⟩, h6, fun c o hK => ?_, h8⟩
  obtain ⟨g1, g2⟩ := h7 c o hK
  exact ⟨(hb'.block c (heapH_lt g1)).trans g1, g2⟩
theorem cell_one {w : World} {b : Nat} {t : TypeId} {u : Value} (h : w.heap[b]? = some (.cells #[u] t (0, 0))) : w.cell? ⟨b, 0, none⟩ = some u := by rw [cell_of_row _ _ 0 _ _ _ h]; rfl
theorem froz_of {w : World} {b : Nat} {t : TypeId} {cs : Array Value} (h : w.heap[b]? = some (.cells cs t (0, 0))) (j : Nat) : w.frozen? ⟨b, j, none⟩ = false := by simp [World.frozen?, h]
theorem LawX.cells (h : LawX K w0 w hb rb lim B H b L lk n g o lv) :
    (w.cell? ⟨b.l, 0, none⟩ = some L ∧ w.cell? ⟨b.e, 0, none⟩ = some (.pointer (some ⟨b.E, 0, none⟩)) ∧ w.cell? ⟨b.h, 0, none⟩ = some (.pointer (some ⟨hb, 0, none⟩)) ∧ w.cell? ⟨b.o, 0, none⟩ = some (.int .i64 o) ∧ w.cell? ⟨b.s, 0, none⟩ = some (.map (some b.m)) ∧ w.cell? ⟨b.v, 0, none⟩ = some (.int .i64 lv) ∧ w.cell? ⟨b.n, 0, none⟩ = some (noteV b)) ∧
    (w.cell? ⟨b.E, 0, none⟩ = some (nextV b) ∧ w.cell? ⟨b.E, 1, none⟩ = some (.int .i64 lk)) ∧ (w.frozen? ⟨b.l, 0, none⟩ = false ∧ w.frozen? ⟨b.o, 0, none⟩ = false ∧ w.frozen? ⟨b.v, 0, none⟩ = false ∧ w.frozen? ⟨b.E, 1, none⟩ = false) ∧
    (b.l < w.heap.size ∧ b.e < w.heap.size ∧ b.h < w.heap.size ∧ b.o < w.heap.size ∧ b.s < w.heap.size ∧ b.v < w.heap.size ∧ b.n < w.heap.size ∧ b.E < w.heap.size) := by
  obtain ⟨f, f2, f3, _, _, _, ⟨_, h1, h2, h3, h4, h5, h6, h7, h8, h9⟩, _⟩ := h
  refine ⟨⟨cell_one h1.1, cell_one h2.1, cell_one h3.1, cell_one h4.1, cell_one h5.1, cell_one h6.1, cell_one h7.1⟩, ⟨?_, ?_⟩, ⟨froz_of h1.1 0, froz_of h4.1 0, froz_of h6.1 0, froz_of h8.1 1⟩, heapH_lt h1.1, heapH_lt h2.1, heapH_lt h3.1, heapH_lt h4.1, heapH_lt h5.1, heapH_lt h6.1, heapH_lt h7.1, heapH_lt h8.1⟩
  · rw [cell_of_row _ _ 0 _ _ _ h8.1]; rfl
  · rw [cell_of_row _ _ 1 _ _ _ h8.1]; rfl
theorem set_other {w : World} {a c i : Nat} {v : Value} {u : Obj} (h : w.heap[c]? = some u) (hne : c ≠ a) : (w.setCell ⟨a, i, none⟩ v).heap[c]? = some u := (Below.heap_setCell _ _ _ _ hne).trans h
theorem MapG.set {a i : Nat} {v : Value} {c : Nat} {k : TypeId} (h : MapG w k c n g) (hne : c ≠ a) : MapG (w.setCell ⟨a, i, none⟩ v) k c n g := h.at (Below.heap_setCell _ _ _ _ hne)
/-- a store into one of the enumeration's blocks -/
theorem LawX.frame {a i : Nat} {v : Value} {L' : Value} {lk' o' lv' : Int} (h : LawX K w0 w hb rb lim B H b L lk n g o lv) (hL : ∀ f f2, Norm f w → Norm f2 w → offF f f2 L → offF f f2 L') (ha : ∀ f, EnumX w f hb b L lk n g o lv → f a ≠ 0 ∧ EnumX (w.setCell ⟨a, i, none⟩ v) f hb b L' lk' n g o' lv') : LawX K w0 (w.setCell ⟨a, i, none⟩ v) hb rb lim B H b L' lk' n g o' lv' := by
  obtain ⟨f, f2, f3, h1, h2, h3, ⟨h4, h5⟩, h6, h7, h8⟩ := h
  obtain ⟨ha1, ha2⟩ := ha f3 h5
  have hk : ∀ r, r ≠ a → (w.setCell ⟨a, i, none⟩ v).heap[r]? = w.heap[r]? := fun r hr => Below.heap_setCell _ _ _ _ hr
  refine ⟨f, f2, f3, h1.keep rfl rfl rfl (by simp) (h6 a ha1) (fun r _ hr => hk r hr), ?_, h3, ⟨h4.below (by simp), ha2⟩, h6, fun c o hK => ?_, hL f f2 h1.1 h1.2.1 h8⟩
  · refine h2.setCell (p := ⟨a, i, none⟩) ?_ v
    by_cases hlt : a < w0.heap.size
    · exact absurd (h3 a hlt) ha1
    · show w0.heap.size ≤ a; omega
  · obtain ⟨g1, g2, g3, g4⟩ := h7 c o hK
    exact ⟨(hk c (fun e => ha1 (by rw [← e]; exact g4))).trans g1, g2, g3, g4⟩
theorem LawX.setL (h : LawX K w0 w hb rb lim B H b L lk n g o lv) (L' : Value) (hL : ∀ f f2, Norm f w → Norm f2 w → offF f f2 L → offF f f2 L') : LawX K w0 (w.setCell ⟨b.l, 0, none⟩ L') hb rb lim B H b L' lk n g o lv := by
  refine h.frame hL fun f ⟨h1, h2, h3, h4, h5, h6, h7, h8, h9⟩ => ⟨by rw [h1.2]; decide, ?_⟩
  have hs : ∀ {c : Nat} {u : Obj} {m : Nat}, w.heap[c]? = some u ∧ f c = m → m ≠ 1 → (w.setCell ⟨b.l, 0, none⟩ L').heap[c]? = some u ∧ f c = m := fun hc hm => ⟨set_other hc.1 (fun e => hm (by rw [← hc.2, e]; exact h1.2)), hc.2⟩
  exact ⟨⟨heap_setCell_same w b.l 0 _ _ _ h1.1, h1.2⟩, hs h2 (by decide), hs h3 (by decide), hs h4 (by decide), hs h5 (by decide), hs h6 (by decide), hs h7 (by decide), hs h8 (by decide), h9.1.set (fun e => by have := h9.2; rw [e, h1.2] at this; cases this), h9.2⟩
theorem LawX.setO (h : LawX K w0 w hb rb lim B H b L lk n g o lv) (o' : Int) : LawX K w0 (w.setCell ⟨b.o, 0, none⟩ (.int .i64 o')) hb rb lim B H b L lk n g o' lv := by
  refine h.frame (fun _ _ _ _ h => h) fun f ⟨h1, h2, h3, h4, h5, h6, h7, h8, h9⟩ => ⟨by rw [h4.2]; decide, ?_⟩
  have hs : ∀ {c : Nat} {u : Obj} {m : Nat}, w.heap[c]? = some u ∧ f c = m → m ≠ 4 → (w.setCell ⟨b.o, 0, none⟩ (.int .i64 o')).heap[c]? = some u ∧ f c = m := fun hc hm => ⟨set_other hc.1 (fun e => hm (by rw [← hc.2, e]; exact h4.2)), hc.2⟩
  exact ⟨hs h1 (by decide), hs h2 (by decide), hs h3 (by decide), ⟨heap_setCell_same w b.o 0 _ _ _ h4.1, h4.2⟩, hs h5 (by decide), hs h6 (by decide), hs h7 (by decide), hs h8 (by decide), h9.1.set (fun e => by have := h9.2; rw [e, h4.2] at this; cases this), h9.2⟩
theorem LawX.setV (h : LawX K w0 w hb rb lim B H b L lk n g o lv) (lv' : Int) : LawX K w0 (w.setCell ⟨b.v, 0, none⟩ (.int .i64 lv')) hb rb lim B H b L lk n g o lv' := by
  refine h.frame (fun _ _ _ _ h => h) fun f ⟨h1, h2, h3, h4, h5, h6, h7, h8, h9⟩ => ⟨by rw [h6.2]; decide, ?_⟩
  have hs : ∀ {c : Nat} {u : Obj} {m : Nat}, w.heap[c]? = some u ∧ f c = m → m ≠ 6 → (w.setCell ⟨b.v, 0, none⟩ (.int .i64 lv')).heap[c]? = some u ∧ f c = m := fun hc hm => ⟨set_other hc.1 (fun e => hm (by rw [← hc.2, e]; exact h6.2)), hc.2⟩
  exact ⟨hs h1 (by decide), hs h2 (by decide), hs h3 (by decide), hs h4 (by decide), hs h5 (by decide), ⟨heap_setCell_same w b.v 0 _ _ _ h6.1, h6.2⟩, hs h7 (by decide), hs h8 (by decide), h9.1.set (fun e => by have := h9.2; rw [e, h6.2] at this; cases this), h9.2⟩
theorem LawX.setK (h : LawX K w0 w hb rb lim B H b L lk n g o lv) (lk' : Int) : LawX K w0 (w.setCell ⟨b.E, 1, none⟩ (.int .i64 lk')) hb rb lim B H b L lk' n g o lv := by
  refine h.frame (fun _ _ _ _ h => h) fun f ⟨h1, h2, h3, h4, h5, h6, h7, h8, h9⟩ => ⟨by rw [h8.2]; decide, ?_⟩
  have hs : ∀ {c : Nat} {u : Obj} {m : Nat}, w.heap[c]? = some u ∧ f c = m → m ≠ 8 → (w.setCell ⟨b.E, 1, none⟩ (.int .i64 lk')).heap[c]? = some u ∧ f c = m := fun hc hm => ⟨set_other hc.1 (fun e => hm (by rw [← hc.2, e]; exact h8.2)), hc.2⟩
  exact ⟨hs h1 (by decide), hs h2 (by decide), hs h3 (by decide), hs h4 (by decide), hs h5 (by decide), hs h6 (by decide), hs h7 (by decide), ⟨heap_setCell_same w b.E 1 _ _ _ h8.1, h8.2⟩, h9.1.set (fun e => by have := h9.2; rw [e, h8.2] at this; cases this), h9.2⟩
theorem LawX.map (h : LawX K w0 w hb rb lim B H b L lk n g o lv) : MapG w 32 b.m n g := by
  obtain ⟨f, f2, f3, _, _, _, ⟨_, h1, h2, h3, h4, h5, h6, h7, h8, h9⟩, _⟩ := h
  exact h9.1
/-- note has been called -/
theorem LawX.noted {Ks : List KK} {lv2 : Int} {i : Nat} (h : LawX K w0 w hb rb lim B H b L lk n g o lv) (hN : NoteI w b.m n g Ks lv2 i w') : ∃ n' g', LawX K w0 w' hb rb lim B H b L lk n' g' o lv ∧ n' ≤ n + i ∧ noteG g (Ks.take i) lv2 g' := by
  obtain ⟨f, f2, f3, h1, h2, h3, ⟨h4, g1, g2, g3, g4, g5, g6, g7, g8, g9⟩, h6, h7, h8⟩ := h
  obtain ⟨q1, q2, n', g', q3, q4, q5⟩ := hN
  have hk : ∀ r, r < w.heap.size → r ≠ b.m → w'.heap[r]? = w.heap[r]? := fun r hr hne => q1.block r hr (fun e => hne (Option.some.inj e))
  have hm0 : f3 b.m ≠ 0 := by rw [g9.2]; decide
  have hs : ∀ {c : Nat} {u : Obj} {m : Nat}, w.heap[c]? = some u ∧ f3 c = m → m ≠ 10 → w'.heap[c]? = some u ∧ f3 c = m := fun hc hm => ⟨(hk _ (heapH_lt hc.1) (fun e => hm (by rw [← hc.2, e]; exact g9.2))).trans hc.1, hc.2⟩
  refine ⟨n', g', ⟨f, f2, f3, h1.keep q1.os q1.tape q1.output q1.size (h6 b.m hm0) hk, ⟨q1.os.trans h2.os, q1.tape.trans h2.tape, q1.output.trans h2.output, Nat.le_trans h2.size q1.size, fun r hr => ?_⟩, h3, ⟨h4.below q1.size, hs g1 (by decide), hs g2 (by decide), hs g3 (by decide), hs g4 (by decide), hs g5 (by decide), hs g6 (by decide), hs g7 (by decide), hs g8 (by decide), q3, g9.2⟩, h6, fun c o hK => ?_, h8⟩, q4, q5⟩
  · rw [hk r (Nat.lt_of_lt_of_le hr h2.size) (fun e => hm0 (by rw [← e]; exact (h3 r hr)))]
    exact h2.block r hr
  · obtain ⟨e1, e2, e3, e4⟩ := h7 c o hK
    exact ⟨(hk c (heapH_lt e1) (fun e => hm0 (by rw [← e]; exact e4))).trans e1, e2, e3, e4⟩
/-- a block more is watched -/
theorem LawX.watch {c : Nat} {ob : Obj} (h : LawX K w0 w hb rb lim B H b L lk n g o lv) (hb' : Below w.heap.size w w') (hc : c = w.heap.size) (ho : w'.heap[c]? = some ob) : LawX (fun x o' => K x o' ∨ (x = c ∧ o' = ob)) w0 w' hb rb lim B H b L lk n g o lv := by
  obtain ⟨f, f2, f3, h1, h2, h3, ⟨h4, h5⟩, h6, h7, h8⟩ := h.below hb'
  have h0 := h
  obtain ⟨f', f2', f3', q1, q2, q3, ⟨q4, q5⟩, q6, q7, q8⟩ := h0
  refine ⟨f', f2', f3', q1.below hb', q2.trans (hb'.mono q2.size), q3, ⟨q4.below hb'.size, q5.turn (Turn.of_below (fun _ => False) q4 hb') (fun _ h => h.elim)⟩, q6, ?_, q8⟩
  rintro x o' (hK | ⟨rfl, rfl⟩)
  · obtain ⟨g1, g2⟩ := q7 x o' hK
    exact ⟨(hb'.block x (heapH_lt g1)).trans g1, g2⟩
  · exact ⟨ho, q1.1 _ (by omega), q1.2.1 _ (by omega), q4 _ (by omega)⟩
theorem LawX.weaken {K' : Nat → Obj → Prop} (h : LawX K w0 w hb rb lim B H b L lk n g o lv) (hK : ∀ c o, K' c o → K c o) : LawX K' w0 w hb rb lim B H b L lk n g o lv := by
  obtain ⟨f, f2, f3, h1, h2, h3, h4, h6, h7, h8⟩ := h
  exact ⟨f, f2, f3, h1, h2, h3, h4, h6, fun c o hk => h7 c o (hK c o hk), h8⟩
theorem LawX.held {c : Nat} {ob : Obj} (h : LawX K w0 w hb rb lim B H b L lk n g o lv) (hK : K c ob) : w.heap[c]? = some ob := by
  obtain ⟨f, f2, f3, h1, h2, h3, h4, h6, h7, h8⟩ := h
  exact (h7 c ob hK).1
/-- a change of a watched block alone -/
theorem LawX.free {K' : Nat → Obj → Prop} {c : Nat} {ob : Obj} (h : LawX K w0 w hb rb lim B H b L lk n g o lv) (hK : K c ob) (ho : w'.os = w.os) (ht : w'.tape = w.tape) (hp : w'.output = w.output) (hs : w.heap.size ≤ w'.heap.size) (hk : ∀ r, r < w.heap.size → r ≠ c → w'.heap[r]? = w.heap[r]?) (hc0 : w0.heap.size ≤ c) (hK' : ∀ x o', K' x o' → K x o' ∧ x ≠ c) : LawX K' w0 w' hb rb lim B H b L lk n g o lv := by
  obtain ⟨f, f2, f3, h1, h2, h3, ⟨h4, h5⟩, h6, h7, h8⟩ := h
  obtain ⟨e1, e2, e3, e4⟩ := h7 c ob hK
  have t3 : Turn (fun c => c = 0) f3 f3 w w' := ⟨ho, ht, hp, hs, fun _ _ => rfl, h4.below hs, fun r hr hn => hk r hr (fun e => hn (by rw [e]; exact e4))⟩
  refine ⟨f, f2, f3, h1.keep ho ht hp hs ⟨e2, e3⟩ hk, ⟨ho.trans h2.os, ht.trans h2.tape, hp.trans h2.output, Nat.le_trans h2.size hs, fun r hr => (hk r (Nat.lt_of_lt_of_le hr h2.size) (by omega)).trans (h2.block r hr)⟩, h3, ⟨h4.below hs, h5.turn t3 (fun _ h => h)⟩, h6, fun x o' hx => ?_, h8⟩
  obtain ⟨g1, g2⟩ := hK' x o' hx
  obtain ⟨r1, r2⟩ := h7 x o' g1
  exact ⟨(hk x (heapH_lt r1) g2).trans r1, r2⟩
/-- a new list -/
theorem LawX.newL {L' : Value} (h : LawX K w0 w hb rb lim B H b L lk n g o lv) (hb' : Below w.heap.size w w') (hf : ∀ c, c < w.heap.size → offL L' c) : LawX K w0 (w'.setCell ⟨b.l, 0, none⟩ L') hb rb lim B H b L' lk n g o lv := by
  obtain ⟨f, f2, f3, h1, h2, h3, ⟨h4, h5⟩, h6, h7, h8⟩ := h
  have hoff : offF f f2 L' := fun c hc => hf c (Nat.lt_of_not_le fun hle => by
    rcases hc with hc | hc
    · exact hc (h1.1 c hle)
    · exact hc (h1.2.1 c hle))
  have hl : f3 b.l = 1 := h5.1.2
  have hE := h5.turn (Turn.of_below (fun _ => False) h4 hb') (fun _ h => h.elim)
  obtain ⟨g1, g2, g3, g4, g5, g6, g7, g8, g9⟩ := hE
  have hs : ∀ {c : Nat} {u : Obj} {m : Nat}, w'.heap[c]? = some u ∧ f3 c = m → m ≠ 1 → (w'.setCell ⟨b.l, 0, none⟩ L').heap[c]? = some u ∧ f3 c = m := fun hc hm => ⟨set_other hc.1 (fun e => hm (by rw [← hc.2, e]; exact hl)), hc.2⟩
  have hk : ∀ r, r ≠ b.l → (w'.setCell ⟨b.l, 0, none⟩ L').heap[r]? = w'.heap[r]? := fun r hr => Below.heap_setCell _ _ _ _ hr
  refine ⟨f, f2, f3, (h1.below hb').keep rfl rfl rfl (by simp) (h6 b.l (by rw [hl]; decide)) (fun r _ hr => hk r hr), ?_, h3, ⟨fun r hr => h4 r (Nat.le_trans hb'.size (by simpa using hr)), ⟨heap_setCell_same w' b.l 0 _ _ _ g1.1, hl⟩, hs g2 (by decide), hs g3 (by decide), hs g4 (by decide), hs g5 (by decide), hs g6 (by decide), hs g7 (by decide), hs g8 (by decide), g9.1.set (fun e => by have := g9.2; rw [e, hl] at this; cases this), g9.2⟩, h6, fun c o hK => ?_, hoff⟩
  · refine (h2.trans (hb'.mono h2.size)).setCell (p := ⟨b.l, 0, none⟩) ?_ L'
    by_cases hlt : b.l < w0.heap.size
    · have := h3 b.l hlt; rw [hl] at this; cases this
    · show w0.heap.size ≤ b.l; omega
  · obtain ⟨e1, e2, e3, e4⟩ := h7 c o hK
    exact ⟨(hk c (fun e => by rw [e, hl] at e4; cases e4)).trans ((hb'.block c (heapH_lt e1)).trans e1), e2, e3, e4⟩
end
/-- the next key, and where the enumeration stands behind it -/
noncomputable def advE (H : List OB) (st : ES) : ES := ⟨proZ H st.o, st.lv + 1, keysH H (proZ H st.o), st.seen ++ st.cur, keysH H (proZ H st.o)⟩
noncomputable def nextE (H : List OB) : Nat → ES → Option KK × ES
  | n, st => match st.rem.dropWhile (fun K => !toldB H st.o st.seen K) with
    | K :: rest => (some K, { st with rem := rest })
    | [] => match n with
      | 0 => (none, { st with rem := [] })
      | m + 1 => if hasH H st.o then nextE H m (advE H st) else (none, { st with rem := [] })
theorem nextE_skip {H : List OB} {n : Nat} {st : ES} {x : KK} {r : List KK} (hr : st.rem = x :: r) (ht : toldB H st.o st.seen x = false) : nextE H n st = nextE H n { st with rem := r } := by
  cases n <;> (unfold nextE; rw [hr]; simp [List.dropWhile, ht]) <;> rfl
theorem nextE_told {H : List OB} {n : Nat} {st : ES} {x : KK} {r : List KK} (hr : st.rem = x :: r) (ht : toldB H st.o st.seen x = true) : nextE H n st = (some x, { st with rem := r }) := by
  cases n <;> (unfold nextE; rw [hr]; simp [List.dropWhile, ht])
theorem nextE_stop {H : List OB} {n : Nat} {st : ES} (hr : st.rem = []) (ht : hasH H st.o = false ∨ n = 0) : nextE H n st = (none, st) := by
  obtain ⟨o, lv, rem, seen, cur⟩ := st
  dsimp only at hr
  subst hr
  cases n with
  | zero => unfold nextE; rfl
  | succ n =>
    have h : hasH H o = false := by rcases ht with h | h; exact h; cases h
    unfold nextE
    simp [h]
theorem nextE_adv {H : List OB} {n : Nat} {st : ES} (hr : st.rem = []) (ht : hasH H st.o = true) : nextE H (n + 1) st = nextE H n (advE H st) := by
  obtain ⟨o, lv, rem, seen, cur⟩ := st
  dsimp only at hr ht
  subst hr
  rw [nextE]
  simp [ht]
end
section

theorem RdK.off {w w' : World} {L : Value} {Z : List KK} {b : Nat} (h : RdK w L Z) (ho : offL L b) (hk : ∀ r, r ≠ b → w'.heap[r]? = w.heap[r]?) : RdK w' L Z := by
  rcases h with h | ⟨p, c, rfl, h2, h3⟩
  · exact .inl h
  · refine .inr ⟨p, c, rfl, h2, fun k x hx => ?_⟩
    obtain ⟨h4, h5, h6⟩ := h3 k x hx
    have hne : p.block ≠ b := by
      cases Z with
      | nil => simp at hx
      | cons a Z => exact ho p Z.length c rfl
    have e := hk p.block hne
    exact ⟨h4, (World.cell?_of_block (w := w) (a := ⟨p.block, p.off + k * 2, none⟩) e).trans h5, (World.cell?_of_block (w := w) (a := ⟨p.block, p.off + k * 2 + 1, none⟩) e).trans h6⟩
theorem slice_tail {w : World} {L : Value} {x : KK} {Z : List KK} (h : RdK w L (x :: Z)) : ∃ L', RdK w L' Z ∧ (∀ y, (Instr.slice 51 L (some (.int .i64 1)) none none).run Try.prog y = .ok L' y) ∧ ∀ b, offL L b → offL L' b := by
  rcases h with ⟨_, h⟩ | ⟨p, c, rfl, hc, h⟩
  · cases h
  have ht : Try.prog.underlying 51 = some (.slice (Try.prog.elem 51)) := by rw [show Try.prog.elem 51 = 32 by kernel_rfl]; exact Try.underlying51
  have hs : ∀ y, (Go.sizeOf (Try.prog.elem 51)).run Try.prog y = .ok 2 y := fun y => by
    rw [show Try.prog.elem 51 = 32 by kernel_rfl]
    have := infoKeyRowZ
    cases hi : Try.prog.info? 32 with
    | none => rw [hi] at this; cases this
    | some i => rw [hi] at this; injection this with this; simp [Go.sizeOf, Go.typeInfo, hi, this]
  refine ⟨sliced (some p) 1 (x :: Z).length c 2, ?_, fun y => ?_, ?_⟩
  · unfold sliced
    rw [List.length_cons] at *
    refine .inr ?_
    by_cases hc1 : c = 1
    · subst hc1
      obtain rfl : Z = [] := by cases Z with | nil => rfl | cons a b => simp at hc
      exact ⟨p, 0, by simp, Nat.le_refl _, fun k x hx => by simp at hx⟩
    · refine ⟨p.add 2, c - 1, by simp [hc1], by omega, fun k y hk => ?_⟩
      obtain ⟨h1, h2, h3⟩ := h (k + 1) y (by simpa using hk)
      have e1 : p.off + 2 + k * 2 = p.off + (k + 1) * 2 := by omega
      have e2 : p.off + 2 + k * 2 + 1 = p.off + (k + 1) * 2 + 1 := by omega
      refine ⟨by simp [Addr.add], ?_, ?_⟩
      · show w.cell? ⟨p.block, p.off + 2 + k * 2, none⟩ = _
        rw [e1]; exact h2
      · show w.cell? ⟨p.block, p.off + 2 + k * 2 + 1, none⟩ = _
        rw [e2]; exact h3
  · rw [run_slice_l (P := Try.prog) (w := y) (t := 51) (ht := ht) (kl := .i64) (l := 1) (h0 := by omega) (h1 := by simp; omega), hs]
    rfl
  · intro b hb q n cq hq
    unfold sliced at hq
    injection hq with hq1 hq2 hq3
    cases Z with
    | nil => simp at hq2
    | cons x2 Z =>
      have hp : q.block = p.block := by
        split at hq1
        · injection hq1 with hq1; rw [hq1]
        · simp only [Option.map_some] at hq1; injection hq1 with hq1; rw [← hq1]; rfl
      rw [hp]
      exact hb p (x2 :: Z).length c rfl
theorem RdK.offNew {w : World} {L : Value} {Z : List KK} (h : RdK w L Z) {b : Nat} (hb : w.heap.size ≤ b) : offL L b := by
  rintro p n c rfl e
  rcases h with ⟨h, _⟩ | ⟨q, c', h1, h2, h3⟩
  · cases h
  · injection h1 with h1 h4
    injection h1 with h1
    subst h1
    cases Z with
    | nil => cases h4
    | cons x Z =>
      obtain ⟨_, h5, _⟩ := h3 0 x rfl
      have := cell_lt h5
      dsimp only at this
      omega
theorem FreshL.off {B : Nat} {L : Value} (h : FreshL B L) {b : Nat} (hb : b < B) : offL L b := fun p n c e e2 => by have := h p n c e; omega
/-- does a block hold a text? -/
def texty (w : World) (r : Nat) : Prop := ∃ j s, w.cell? ⟨r, j, none⟩ = some (.string s)
theorem RdK.block {w w' : World} {L : Value} {Z : List KK} (h : RdK w L Z) (hk : ∀ r, texty w r → w'.heap[r]? = w.heap[r]?) : RdK w' L Z := by
  rcases h with h | ⟨p, c, h1, h2, h3⟩
  · exact .inl h
  · refine .inr ⟨p, c, h1, h2, fun k x hx => ?_⟩
    obtain ⟨h4, h5, h6⟩ := h3 k x hx
    have e := hk p.block ⟨_, _, h5⟩
    exact ⟨h4, (World.cell?_of_block (w := w) (a := ⟨p.block, p.off + k * 2, none⟩) e).trans h5, (World.cell?_of_block (w := w) (a := ⟨p.block, p.off + k * 2 + 1, none⟩) e).trans h6⟩
theorem RdK.set {w : World} {L : Value} {Z : List KK} (h : RdK w L Z) {a i : Nat} {v : Value} (ha : ¬ texty w a) : RdK (w.setCell ⟨a, i, none⟩ v) L Z :=
  h.block fun r hr => Below.heap_setCell _ _ _ _ (fun e => ha ((show r = a from e) ▸ hr))
theorem not_texty1 {w : World} {a : Nat} {u : Value} {t : TypeId} (h : w.heap[a]? = some (.cells #[u] t (0, 0))) (hu : ∀ s, u ≠ .string s) : ¬ texty w a := by
  rintro ⟨j, s, hc⟩
  rw [cell_of_row _ _ j _ _ _ h] at hc
  cases j with
  | zero => exact hu s (by injection hc)
  | succ j => simp at hc
theorem not_texty2 {w : World} {a : Nat} {u v : Value} {t : TypeId} (h : w.heap[a]? = some (.cells #[u, v] t (0, 0))) (hu : ∀ s, u ≠ .string s) (hv : ∀ s, v ≠ .string s) : ¬ texty w a := by
  rintro ⟨j, s, hc⟩
  rw [cell_of_row _ _ j _ _ _ h] at hc
  match j, hc with
  | 0, hc => exact hu s (by injection hc)
  | 1, hc => exact hv s (by injection hc)
  | j + 2, hc => simp at hc
section
variable {K : Nat → Obj → Prop} {w0 w w' : World} {hb rb B n : Nat} {lim lk o lv : Int} {H : List OB} {b : EB} {st : ES} {L : Value} {g : Lit → Option Int}
theorem LawX.untexty (h : LawX K w0 w hb rb lim B H b L lk n g o lv) (hL : ∀ s, L ≠ .string s) : ¬ texty w b.l ∧ ¬ texty w b.o ∧ ¬ texty w b.v ∧ ¬ texty w b.E ∧ ¬ texty w b.m := by
  obtain ⟨f, f2, f3, _, _, _, ⟨_, h1, h2, h3, h4, h5, h6, h7, h8, h9⟩, _⟩ := h
  exact ⟨not_texty1 h1.1 hL, not_texty1 h4.1 (by intro s h; cases h), not_texty1 h6.1 (by intro s h; cases h), not_texty2 h8.1 (by unfold nextV; intro s h; cases h) (by intro s h; cases h), fun ⟨j, s, hc⟩ => no_cell h9.1 hc⟩
theorem RdK.notext {w : World} {L : Value} {Z : List KK} (h : RdK w L Z) : ∀ s, L ≠ .string s := by
  obtain ⟨p, c, rfl, _⟩ := h.form
  intro s h; cases h
/-- a block more is watched -/
theorem LawE.watch {c : Nat} {ob : Obj} (h : LawE K w0 w hb rb lim B H b st) (hb' : Below w.heap.size w w') (hc : c = w.heap.size) (ho : w'.heap[c]? = some ob) : LawE (fun x o' => K x o' ∨ (x = c ∧ o' = ob)) w0 w' hb rb lim B H b st := by
  obtain ⟨L, lk, n, g, Z, h1, h2, h3, h4, h5, h6, h7, h8⟩ := h
  refine ⟨L, lk, n, g, Z, h1.watch hb' hc ho, ⟨h2.1.keep hb', h2.2⟩, h3, h4, h5, h6, h7, ?_⟩
  rintro x o' (hk | ⟨rfl, rfl⟩)
  · exact h8 x o' hk
  · exact h2.1.offNew (by omega)
end
end
section

def lvM (b : EB) (w : World) : Nat := match w.cell? ⟨b.v, 0, none⟩ with | some (.int _ z) => (1000 - z).toNat | _ => 0
def lenW : Value → Nat | .slice _ n _ => n | _ => 0
def lnM (b : EB) (w : World) : Nat := match w.cell? ⟨b.l, 0, none⟩ with | some v => lenW v | none => 0
def eArgs (b : EB) : Array Value := #[.pointer (some ⟨b.l, 0, none⟩), .pointer (some ⟨b.e, 0, none⟩), .pointer (some ⟨b.h, 0, none⟩), .pointer (some ⟨b.o, 0, none⟩), .pointer (some ⟨b.s, 0, none⟩), .pointer (some ⟨b.v, 0, none⟩), .pointer (some ⟨b.n, 0, none⟩)]
/-- what the next key's call leaves -/
def NextP (K : Nat → Obj → Prop) (w0 : World) (hb rb : Nat) (lim : Int) (B : Nat) (H : List OB) (b : EB) (st : ES) (e : Ending) (w' : World) : Prop :=
  ∃ st', LawE K w0 w' hb rb lim B H b st' ∧ ((∃ k : KK, okK k ∧ nextE H (1000 - st.lv) st = (some (pk k), st') ∧ e = .returned (.tuple #[.agg #[.string k.1, .int .i64 k.2], .bool true])) ∨ (nextE H (1000 - st.lv) st = (none, st') ∧ e = .returned (.tuple #[.agg #[.string ⟨#[]⟩, .int .i64 0], .bool false])))
section
variable {K : Nat → Obj → Prop} {w0 w w' : World} {hb rb B : Nat} {lim : Int} {H : List OB} {b : EB}
theorem LawX.lvM {L : Value} {lk o lv : Int} {n : Nat} {g : Lit → Option Int} (h : LawX K w0 w hb rb lim B H b L lk n g o lv) : lvM b w = (1000 - lv).toNat := by
  unfold Go.Proofs.Ytoccmiinkfhohaa.Ein.lvM; rw [h.cells.1.2.2.2.2.2.1]
theorem LawX.lnM {L : Value} {lk o lv : Int} {n : Nat} {g : Lit → Option Int} (h : LawX K w0 w hb rb lim B H b L lk n g o lv) : lnM b w = lenW L := by
  unfold Go.Proofs.Ytoccmiinkfhohaa.Ein.lnM; rw [h.cells.1.1]
theorem LawX.blocks {L : Value} {lk o lv : Int} {n : Nat} {g : Lit → Option Int} (h : LawX K w0 w hb rb lim B H b L lk n g o lv) : w.heap[b.l]? = some (.cells #[L] 51 (0, 0)) ∧ w.heap[b.s]? = some (.cells #[.map (some b.m)] 115 (0, 0)) ∧ w.heap[b.v]? = some (.cells #[.int .i64 lv] 3 (0, 0)) := by
  obtain ⟨f, f2, f3, _, _, _, ⟨_, h1, h2, h3, h4, h5, h6, h7, h8, h9⟩, _⟩ := h
  exact ⟨h1.1, h5.1, h6.1⟩
theorem goodB_pk (H : List OB) (o : Int) (k : KK) : goodB H o (pk k) = (decide (k.2 ≤ 0) && ((ownH H o (pk k)).isSome && numB ((ownH H o (pk k)).getD zeroPV).fl)) := by
  unfold goodB
  have h : decide ((pk k).2 ≤ 0) = decide (k.2 ≤ 0) := by
    unfold pk
    by_cases h0 : 0 < k.2
    · rw [if_pos h0]
    · rw [if_neg h0]
      exact decide_eq_decide.2 ⟨fun _ => by omega, fun _ => by simp⟩
  rw [h]
  cases ownH H o (pk k) <;> rfl
theorem results_ck {fn : Func} {p u : Tmp} (h : fn.results = #[.cell p 32, .tmp u]) (tmps : Array Value) (w : World) (g : Nat) (t : TypeId) (cs : Array Value) (fr : Nat × Nat) (x : Value)
    (hp : tmps.getD p undef = .pointer (some ⟨g, 0, none⟩)) (hx : tmps.getD u undef = x) (hg : w.heap[g]? = some (.cells cs t fr)) (hi : (Try.prog.info? 32).map (·.size) = some cs.size) :
    (results fn tmps).run Try.prog w = .ok (.tuple #[.agg cs, x]) w := by
  have hl := run_loadVar_row (P := Try.prog) w g t 32 cs fr _ hg Try.underlying32 rfl hi
  rw [results_cell_tmp h, hp, hx]
  simp [asAddr, hl, Result.andThen]
theorem set2_block {w : World} {r : Nat} {a b u v : Value} {t : TypeId} (h : w.heap[r]? = some (.cells #[a, b] t (0, 0))) : ((w.setCell ⟨r, 0, none⟩ u).setCell ⟨r, 1, none⟩ v).heap[r]? = some (.cells #[u, v] t (0, 0)) := by
  have h1 := heap_setCell_same w r 0 _ _ u h
  exact heap_setCell_same _ r 1 _ _ v h1
theorem set2_other {w : World} {r : Nat} {u v : Value} (c : Nat) (hc : c ≠ r) : ((w.setCell ⟨r, 0, none⟩ u).setCell ⟨r, 1, none⟩ v).heap[c]? = w.heap[c]? :=
  (Below.heap_setCell _ _ _ _ hc).trans (Below.heap_setCell _ _ _ _ hc)
theorem c_Next2 {st : ES} (h : LawE K w0 w hb rb lim B H b st) (hB1 : 128 ≤ B) (hB : B ≤ 100000) (hu : usedH H ≤ 100000) :
    Calls Try.prog 61 (eArgs b) w (NextP K w0 hb rb lim B H b st) := by
  obtain ⟨W1, hW1⟩ : ∃ W1, w.alloc (.cells #[.string ⟨#[]⟩, .int .i64 0] 32) = W1 := ⟨_, rfl⟩
  have hb1 : Below w.heap.size w W1 := by rw [← hW1]; exact (Below.refl _ _).alloc (Nat.le_refl _) _
  have d0 : W1.heap[w.heap.size]? = some (.cells #[.string ⟨#[]⟩, .int .i64 0] 32 (0, 0)) := by rw [← hW1]; exact heap_alloc_new w _
  obtain ⟨rx, hrx⟩ : ∃ rx, rx = w.heap.size := ⟨_, rfl⟩
  obtain ⟨K', hK'⟩ : ∃ K' : Nat → Obj → Prop, K' = fun x o' => K x o' ∨ (x = rx ∧ o' = .cells #[.string ⟨#[]⟩, .int .i64 0] 32 (0, 0)) := ⟨_, rfl⟩
  have hE : LawE K' w0 W1 hb rb lim B H b st := by
    rw [hK']
    exact h.watch hb1 hrx (by rw [hrx]; exact d0)
  have hKlt : ∀ c o, K c o → c < rx := by
    obtain ⟨L, lk, n, g, Z, h1, _⟩ := h
    intro c o hk
    rw [hrx]
    exact heapH_lt (h1.held hk)
  replace hKlt := Lib.hid hKlt
  have hw0 : w0.heap.size ≤ rx := by
    obtain ⟨L, lk, n, g, Z, h1, _⟩ := h
    rw [hrx]
    exact h1.base.size
  unfold eArgs
  rw [← hrx] at d0
  replace d0 := Lib.hid d0
  clear h hb1
  go_enter Try.func61, Try.ntmps61
  go_wp2_with fail
  rw [← hrx]
  clear hW1 hrx
  go_loopw [8] (fun v8 wr => v8 = .bool false ∧ ∃ st1, LawE K' w0 wr hb rb lim B H b st1 ∧ nextE H (1000 - st1.lv) st1 = nextE H (1000 - st.lv) st) (fun _ wr => lvM b wr)
  case atStart => exact ⟨rfl, st, hE, rfl⟩
  case round =>
    obtain ⟨rfl, st1, hE1, hq1⟩ := hrel
    obtain ⟨W2, rfl⟩ : ∃ W2, W2 = wr := ⟨_, rfl⟩
    obtain ⟨lv1, hlv1⟩ : ∃ lv1, st1.lv = lv1 := ⟨_, rfl⟩
    have hm1 : lvM b W2 = 1000 - lv1 := by
      obtain ⟨L, lk, n, g, Z, hX, _⟩ := hE1
      rw [hX.lvM]; omega
    replace hm1 := Lib.hid hm1
    clear hE
    go_wp2_with fail
    go_loopw [8] (fun v8 wr => v8 = .bool false ∧ ∃ st2, LawE K' w0 wr hb rb lim B H b st2 ∧ nextE H (1000 - lv1) st2 = nextE H (1000 - st.lv) st ∧ st2.lv = lv1) (fun _ wr => lnM b wr)
    case atStart => exact ⟨rfl, st1, hE1, by rw [← hlv1]; exact hq1, hlv1⟩
    case round =>
      obtain ⟨rfl, st2, hE2, hq2, hlv2⟩ := hrel
      obtain ⟨W3, rfl⟩ : ∃ W3, W3 = wr := ⟨_, rfl⟩
      clear hE1 hq1 hlv1
      obtain ⟨L, lk, n, g, Z, hX, ⟨hR, hZ, hok⟩, hS, hn, hlv, hlen, hcur, hoffE⟩ := hE2
      have hmL := Lib.hid hX.lnM
      cases Z with
      | nil =>
        have hrem : st2.rem = [] := hZ.symm
        obtain ⟨p, c, rfl, -, -, -⟩ := hR.form
        obtain ⟨⟨c0, c1, c2, c3, c4, c5, c6⟩, ⟨c7, c8⟩, ⟨z1, z2, z3, z4⟩, l1, l2, l3, l4, l5, l6, l7, l8⟩ := hX.cells
        have kx3 := hX.held (show K' rx _ by rw [hK']; exact .inr ⟨rfl, rfl⟩)
        have kx0 : W3.cell? ⟨rx, 0, none⟩ = some (.string ⟨#[]⟩) := by rw [cell_of_row _ _ 0 _ _ _ kx3]; rfl
        have kx1 : W3.cell? ⟨rx, 1, none⟩ = some (.int .i64 0) := by rw [cell_of_row _ _ 1 _ _ _ kx3]; rfl
        have kf0 := froz_of kx3 0
        have kf1 := froz_of kx3 1
        have lx3 := heapH_lt kx3
        have hHas := l_HHas hX.law st2.o
        have hPro := l_HProto hX.law st2.o
        have hstop : (hasH H st2.o = false ∨ 1000 - lv1 = 0) → NextP K w0 hb rb lim B H b st (.returned (.tuple #[.agg #[.string ⟨#[]⟩, .int .i64 0], .bool false])) ((W3.setCell ⟨rx, 0, none⟩ (.string ⟨#[]⟩)).setCell ⟨rx, 1, none⟩ (.int .i64 0)) := fun hs => by
          have hk' : ∀ r, r ≠ rx → ((W3.setCell ⟨rx, 0, none⟩ (.string ⟨#[]⟩)).setCell ⟨rx, 1, none⟩ (.int .i64 0)).heap[r]? = W3.heap[r]? := fun r hr => set2_other r hr
          have hXf := hX.free (K' := K) (w' := (W3.setCell ⟨rx, 0, none⟩ (.string ⟨#[]⟩)).setCell ⟨rx, 1, none⟩ (.int .i64 0)) (show K' rx _ by rw [hK']; exact .inr ⟨rfl, rfl⟩) rfl rfl rfl (by simp) (fun r _ hr => hk' r hr) hw0 (fun x o' hx => ⟨by rw [hK']; exact .inl hx, Nat.ne_of_lt (hKlt.out x o' hx)⟩)
          refine ⟨st2, ⟨_, _, n, g, [], hXf, ⟨hR.off (fun _ _ _ h => by injection h with _ h; cases h) hk', hrem.symm, hok⟩, hS, hn, hlv, hlen, hcur, fun _ _ _ _ _ _ h => (by injection h with _ h; cases h)⟩, .inr ⟨?_, rfl⟩⟩
          rw [← hq2]
          exact nextE_stop hrem hs
        have hX' := Lib.hid hX
        have hS' := Lib.hid hS
        have hn' := Lib.hid hn
        have hlv' := Lib.hid hlv
        have hlv2' := Lib.hid hlv2
        have hq2' := Lib.hid hq2
        replace hHas := Lib.hid hHas
        replace hPro := Lib.hid hPro
        replace hstop := Lib.hid hstop
        have q0 : ¬ ((0 : Int) < ((([] : List KK).length : Nat) : Int)) := by simp
        clear hX hq2 hlv2 hZ hok hS hn hlv hlen hcur hR c1 c6 c7 c8 z1 z4
        cases hh : hasH H st2.o with
        | false =>
          rw [hh] at hHas
          go_wp2_with (first | (go_at_call 21; refine hHas.out.mono ?_; rintro e y ⟨rfl, rfl⟩))
          refine bodyPost_ret (results_ck rfl _ _ rx 32 #[.string ⟨#[]⟩, .int .i64 0] (0, 0) _ rfl rfl (set2_block kx3) infoKeyRowZ) rfl ?_
          exact hstop.out (.inl hh)
        | true =>
          rw [hh] at hHas
          by_cases g1 : (1000 : Int) ≤ (st2.lv : Int)
          · go_wp2_with (first | (go_at_call 21; refine hHas.out.mono ?_; rintro e y ⟨rfl, rfl⟩))
            refine bodyPost_ret (results_ck rfl _ _ rx 32 #[.string ⟨#[]⟩, .int .i64 0] (0, 0) _ rfl rfl (set2_block kx3) infoKeyRowZ) rfl ?_
            exact hstop.out (.inr (by have := hlv2'.out; omega))
          · clear hstop kx0 kx1 kf0 kf1 lx3 kx3
            go_upto_region 10 with (first | (go_at_call 21; refine hHas.out.mono ?_; rintro e y ⟨rfl, rfl⟩))
            obtain ⟨W4, rfl⟩ : ∃ W4, W4 = y := ⟨_, rfl⟩
            obtain ⟨o4, ho4⟩ : ∃ o4, o4 = proV H st2.o := ⟨_, rfl⟩
            rw [← ho4] at hPro
            replace ho4 := Lib.hid ho4
            go_upto_region 11 with (first | (go_at_call 23; refine hPro.out.mono ?_; rintro e y ⟨rfl, rfl⟩))
            obtain ⟨W5, hW5⟩ : ∃ W5, y.setCell ⟨b.o, 0, none⟩ (.int .i64 o4) = W5 := ⟨_, rfl⟩
            rw [hW5]
            have hX5 := hX'.out.setO o4
            have hnt := hX'.out.untexty (fun s h => by cases h)
            rw [hW5] at hX5
            clear hW5 c0 c2 c3 c4 c5 z2 z3 l1 l2 l3 l4 l5 l6 l7 l8
            obtain ⟨⟨-, -, -, -, -, c5, -⟩, -, ⟨-, -, z3, -⟩, -, -, -, -, -, l6, -⟩ := hX5.cells
            obtain ⟨W6, hW6⟩ : ∃ W6, W5.setCell ⟨b.v, 0, none⟩ (.int .i64 ((st2.lv : Int) + 1)) = W6 := ⟨_, rfl⟩
            have hX6 := hX5.setV ((st2.lv : Int) + 1)
            rw [hW6] at hX6
            have hX6' := Lib.hid hX6
            have q1 : wrap64 ((st2.lv : Int) + 1) = (st2.lv : Int) + 1 := by have := hlv'.out; unfold wrap64; omega
            clear hX5 hX6
            go_upto_region 12 with fail
            clear hW6 c5 z3 l6 q1
            have hKs := Lib.hid (l_HKeysF hX6'.out.law hB1 hB o4)
            obtain ⟨⟨-, -, c2, c3, -⟩, -, -, -⟩ := hX6'.out.cells
            go_upto_region 13 with (first | (go_at_call 17; refine hKs.out.mono ?_; rintro e y7 ⟨v7, Z7, rfl, hr7, hk7, hb7, hf7⟩; obtain ⟨p7, cp7, rfl, -⟩ := hr7.form; have hX7 := hX6'.out.below hb7; have hoff7 := Lib.hid (fun (c : Nat) (ob : Obj) (hk : K' c ob) => hf7.off (heapH_lt (hX6'.out.held hk))); obtain ⟨⟨c0, -⟩, -, ⟨z1, -⟩, l1, -⟩ := hX7.cells))
            clear c0 z1 l1 c2 c3
            obtain ⟨W8, hW8⟩ : ∃ W8, y7.setCell ⟨b.l, 0, none⟩ (.slice p7 Z7.length cp7) = W8 := ⟨_, rfl⟩
            rw [hW8]
            have hX8 := hX6'.out.newL hb7 (L' := .slice p7 Z7.length cp7) (fun c hc => hf7.off hc)
            have hR8 := hr7.set (i := 0) (v := .slice p7 Z7.length cp7) (hX7.untexty (fun s h => by cases h)).1
            rw [hW8] at hX8 hR8
            have hlK : Z7.length ≤ 100000 := by
              rw [hk7.len]
              unfold listH gk
              rcases objH_cases H o4 with ⟨_, h2⟩ | ⟨n, a, _, _, ha, h3, _⟩
              · rw [h2]; simp
              · rw [h3, List.length_map]
                have := len_used (List.mem_of_getElem? ha)
                show a.l.length ≤ _
                omega
            have hpos : ∀ K, okK K → ∀ j, g (klK K) = some j → 0 < j := fun x hx j hj => by
              have h1 := hS'.out x hx
              cases hs : hadB st2.seen x with
              | true =>
                obtain ⟨j2, h3, h4, _⟩ := h1.1 hs
                rw [hj] at h3; injection h3 with h3; omega
              | false =>
                have h3 := h1.2 hs
                rw [hj] at h3
                have := hlv'.out
                split at h3
                · injection h3 with h3; omega
                · cases h3
            obtain ⟨e1, e2, e3⟩ := hX8.blocks
            have hnote := c_note e1 e2 e3 hR8 hk7.ok (by omega) hX8.map (by have := hn'.out; have := hlv'.out; omega) (by have := hlv'.out; omega) (WalkArith.wf_i64 (by have := hlv'.out; omega)) hpos
            replace hnote := Lib.hid hnote
            obtain ⟨⟨-, -, -, -, -, -, c6⟩, -, -, -⟩ := hX8.cells
            unfold noteV at c6
            replace hX8 := Lib.hid hX8
            replace hR8 := Lib.hid hR8
            clear hX7 hX6' hr7 hb7 hW8 hpos
            go_wp2_with (first | (go_at_call 59; refine hnote.out.mono ?_; rintro e y9 ⟨rfl, hN9⟩))
            obtain ⟨n9, g9, hX9, hn9, hg9⟩ := hX8.out.noted hN9
            rw [List.take_of_length_le (by simp)] at hg9
            have hR9 : RdK y9 (.slice p7 Z7.length cp7) Z7 := hR8.out.block fun r ⟨j, s, hc⟩ => hN9.1.block r (cell_lt hc) (fun e => by
              have e := Option.some.inj e
              subst e
              exact no_cell hX8.out.map hc)
            have hord : Z7.map pk = keysH H o4 := ordK_eq hk7
            have hadv : advE H st2 = ⟨o4, st2.lv + 1, Z7.map pk, st2.seen ++ st2.cur, Z7.map pk⟩ := by
              unfold advE
              rw [show proZ H st2.o = o4 from ho4.out.symm, hord]
            have hhS := hS'.out
            have hhlv := hlv'.out
            refine ⟨⟨rfl, ⟨o4, st2.lv + 1, Z7.map pk, st2.seen ++ st2.cur, Z7.map pk⟩, ⟨_, lk, n9, g9, Z7, ?_, ⟨hR9, rfl, hk7.ok⟩, ?_, ?_, ⟨by simp, by simp; omega⟩, by simpa using hlK, fun x hx => hadB_iff.2 hx, hoff7.out⟩, ?_⟩, ?_⟩
            · have : (((st2.lv + 1 : Nat) : Int)) = (st2.lv : Int) + 1 := by simp
              dsimp only
              rw [this]
              exact hX9
            · intro x hx
              obtain ⟨s1, s2⟩ := hhS x hx
              have hg := hg9 x hx
              have happ : hadB (st2.seen ++ st2.cur) x = (hadB st2.seen x || hadB st2.cur x) := by unfold hadB; rw [List.any_append]
              refine ⟨fun hs => ?_, fun hs => ?_⟩
              · dsimp only at hs
                rw [happ] at hs
                cases h1 : hadB st2.seen x with
                | true =>
                  obtain ⟨j, h3, h4, h5⟩ := s1 h1
                  rw [h3] at hg
                  exact ⟨j, hg, h4, by simp; omega⟩
                | false =>
                  rw [h1, Bool.false_or] at hs
                  have h3 := s2 h1
                  rw [hs, if_pos rfl] at h3
                  rw [h3] at hg
                  exact ⟨_, hg, by omega, by simp; omega⟩
              · dsimp only at hs
                rw [happ] at hs
                have h1 : hadB st2.seen x = false := by cases h : hadB st2.seen x with | true => rw [h] at hs; cases hs | false => rfl
                rw [h1, Bool.false_or] at hs
                have h3 := s2 h1
                rw [hs] at h3
                rw [h3] at hg
                simpa using hg
            · have := hn'.out; dsimp only; omega
            · dsimp only
              rw [← hadv, ← hq2'.out]
              obtain ⟨m, hm⟩ : ∃ m, 1000 - lv1 = m + 1 := ⟨1000 - lv1 - 1, by have := hlv2'.out; omega⟩
              rw [hm, nextE_adv hrem hh, show 1000 - (st2.lv + 1) = m by have := hlv2'.out; omega]
            · rw [hX9.lvM, hm1.out]
              have := hlv2'.out
              omega
      | cons x Z =>
        obtain ⟨L2, hR2, hsl, hoff⟩ := slice_tail hR
        obtain ⟨p2, cp2, rfl, -⟩ := hR2.form
        have hnt := hR.notext
        obtain ⟨p, c, rfl, -, hc, hcell⟩ := hR.form
        obtain ⟨⟨c0, c1, c2, c3, c4, c5, c6⟩, ⟨c7, c8⟩, ⟨z1, z2, z3, z4⟩, l1, l2, l3, l4, l5, l6, l7, l8⟩ := hX.cells
        obtain ⟨bk, ok, rfl, lbk, hy⟩ := hcell 0 x rfl
        obtain ⟨y1, y2⟩ := hy _ (Below.refl _ _)
        rw [show ok + 0 * 2 = ok by omega] at y1 y2
        clear hcell hy
        rw [List.length_cons] at *
        have q1 : (0 : Int) < ((Z.length + 1 : Nat) : Int) := by omega
        obtain ⟨x0, xn⟩ := x
        dsimp only at y1 y2
        obtain ⟨W4, hW4⟩ : ∃ W4, W3.alloc (.cells #[.string x0, .int .i64 xn] 32) = W4 := ⟨_, rfl⟩
        have hb4 : Below W3.heap.size W3 W4 := by rw [← hW4]; exact (Below.refl _ _).alloc (Nat.le_refl _) _
        have d4 : W4.heap[W3.heap.size]? = some (.cells #[.string x0, .int .i64 xn] 32 (0, 0)) := by rw [← hW4]; exact heap_alloc_new W3 _
        obtain ⟨rk, hrk⟩ : ∃ rk, rk = W3.heap.size := ⟨_, rfl⟩
        obtain ⟨K2, hK2⟩ : ∃ K2 : Nat → Obj → Prop, K2 = fun x o' => K' x o' ∨ (x = rk ∧ o' = .cells #[.string x0, .int .i64 xn] 32 (0, 0)) := ⟨_, rfl⟩
        have hoffx := hoff rx (hoffE rx _ (show K' rx _ by rw [hK']; exact .inr ⟨rfl, rfl⟩))
        have hoffK' := Lib.hid (fun (c : Nat) (ob : Obj) (hk : K' c ob) => hoff c (hoffE c ob hk))
        have hoffK := Lib.hid (fun (c : Nat) (ob : Obj) (hk : K c ob) => hoffK'.out c ob (by rw [hK']; exact .inl hk))
        have hoff0 := hoff
        clear hoff hoffE
        have hX4 : LawX K2 w0 W4 hb rb lim B H b (.slice (some ⟨bk, ok, none⟩) (Z.length + 1) c) lk n g st2.o (st2.lv : Int) := by
          rw [hK2]; exact hX.watch hb4 hrk (by rw [hrk]; exact d4)
        have hk2 : K2 rk (.cells #[.string x0, .int .i64 xn] 32 (0, 0)) := by rw [hK2]; exact .inr ⟨rfl, rfl⟩
        obtain ⟨W5, hW5⟩ : ∃ W5, W4.setCell ⟨b.l, 0, none⟩ (.slice p2 Z.length cp2) = W5 := ⟨_, rfl⟩
        have hX5 := hX4.setL (.slice p2 Z.length cp2) (fun f f2 _ _ h c hc => hoff0 c (h c hc))
        have hR5 := (hR2.keep hb4).set (i := 0) (v := (.slice p2 Z.length cp2)) (hX4.untexty hnt).1
        rw [hW5] at hX5 hR5
        obtain ⟨W6, hW6⟩ : ∃ W6, W5.setCell ⟨b.E, 1, none⟩ (.int .i64 (wrap64 (lk + 1))) = W6 := ⟨_, rfl⟩
        have hX6 := hX5.setK (wrap64 (lk + 1))
        have hR6 := hR5.set (i := 1) (v := .int .i64 (wrap64 (lk + 1))) (hX5.untexty hR5.notext).2.2.2.1
        rw [hW6] at hX6 hR6
        have hc4 := Lib.hid hX4.cells
        have hc5 := Lib.hid hX5.cells
        have hc6 := Lib.hid hX6.cells
        have hsl0 := Lib.hid hsl
        have hX6' := Lib.hid hX6
        have hok' := Lib.hid hok
        have hZ' := Lib.hid hZ
        have hS' := Lib.hid hS
        have hcur' := Lib.hid hcur
        have hq2' := Lib.hid hq2
        have hlv' := Lib.hid hlv
        have hlen' := Lib.hid hlen
        have hn' := Lib.hid hn
        have hlv2' := Lib.hid hlv2
        clear hX hX4 hX5 hX6 hq2 hlv2 c1 c2 c3 c4 c5 c6 c7 c8 hZ hok hS hn hlv hlen hcur hsl hR2 hR hR5 hnt hb4
        go_upto_region 3 with (fail)
        rw [← hrk]
        clear hrk
        clear c0 y1 y2 hW4 z1 z2 z3 z4 l1 l2 l3 l4 l5 l6 l7 l8 lbk
        obtain ⟨⟨c0, -⟩, -, ⟨z1, -⟩, l1, -⟩ := hc4.out
        have hslc := hsl0.out
        go_upto_region 4 with (fail)
        clear hslc hW5 c0 z1 l1
        obtain ⟨⟨-, c1, -⟩, ⟨c7, c8⟩, ⟨-, -, -, z4⟩, -, l2, -⟩ := hc5.out
        go_upto_region 5 with (fail)
        clear hW6 c1 c7 c8 z4 l2
        obtain ⟨⟨-, -, c2, c3, -⟩, -, -, -⟩ := hc6.out
        have hX6w := hX6'.out
        have kb6 := hX6w.held hk2
        have kc0 : W6.cell? ⟨rk, 0, none⟩ = some (.string x0) := by rw [cell_of_row _ _ 0 _ _ _ kb6]; rfl
        have kc1 : W6.cell? ⟨rk, 1, none⟩ = some (.int .i64 xn) := by rw [cell_of_row _ _ 1 _ _ _ kb6]; rfl
        have hokx := hok'.out (x0, xn) (List.mem_cons_self ..)
        have hOx := l_HOwnV hX6w.law st2.o (x0, xn) hokx
        have hgd := goodB_pk H st2.o (x0, xn)
        dsimp only at hOx hgd
        generalize (ownH H st2.o (pk (x0, xn))).getD zeroPV = P at *
        generalize (ownH H st2.o (pk (x0, xn))).isSome = bI at *
        have hi13 : (Try.prog.info? 37).map (·.size) = some (encP P).toArray.size := infoProp
        have hi13l : (Try.prog.info? 37).map (·.size) = some (encP P).length := infoProp
        have ho13 := all_oneCell_toArray (encP_one P)
        have hq := fun (y : World) => zeroQ_set y P
        have hth := fun (y : World) => (zeroQ_there y : (y.alloc (.cells zeroQ 37)).there y.heap.size 0 (encP P).toArray.size)
        replace hOx := Lib.hid hOx
        replace hq := Lib.hid hq
        replace hX6 := Lib.hid hX6w
        replace hgd := Lib.hid hgd
        have tokD : True := trivial
        clear hX6w kb6 hokx
        go_upto_region 6 with (first | (go_at_call 20; refine hOx.out.mono ?_; rintro e y7 ⟨rfl, hb7⟩; have hth7 := hth y7; obtain ⟨hq1, hq2⟩ := hq.out y7; clear kc0 kc1) | (clear tokD; refine wpList_store_mid rfl 37 (.tmp 10) (.tmp 32) rfl y7.heap.size 0 (encP P).toArray rfl rfl hth7 hi13 ho13 ?_; generalize hW8 : World.setCells _ _ _ _ = W8; rw [show (y7.alloc (.cells zeroQ 37)).setCells y7.heap.size 0 (encP P) = W8 from hW8] at hq1 hq2; clear hW8 hth7))
        have hb78 : Below W6.heap.size W6 W8 := hb7.trans (hq1.mono hb7.size)
        have hX8 := hX6.out.below hb78
        have hR8 := hR6.keep hb78
        obtain ⟨-, -, -, -, -, -, -, -, -, -, -, -, a12⟩ := cells13 hq2
        obtain ⟨⟨-, -, -, -, c4, c5, -⟩, -, -, -, -, -, -, l5, l6, -⟩ := hX8.cells
        have kb8 := hX8.held hk2
        have kc0 : W8.cell? ⟨rk, 0, none⟩ = some (.string x0) := by rw [cell_of_row _ _ 0 _ _ _ kb8]; rfl
        have kc1 : W8.cell? ⟨rk, 1, none⟩ = some (.int .i64 xn) := by rw [cell_of_row _ _ 1 _ _ _ kb8]; rfl
        have lk8 := heapH_lt kb8
        have lq8 := heapH_lt hq2
        have hmap := hX8.map
        have lm8 := hmap.lt
        have hokx := hok'.out (x0, xn) (List.mem_cons_self ..)
        have hrem : st2.rem = pk (x0, xn) :: Z.map pk := hZ'.out.symm
        obtain ⟨tb, htb⟩ : ∃ tb, toldB H st2.o st2.seen (pk (x0, xn)) = tb := ⟨_, rfl⟩
        have hround : ∀ y, Below W8.heap.size W8 y → tb = false → (∃ st', LawE K' w0 y hb rb lim B H b st' ∧ nextE H (1000 - lv1) st' = nextE H (1000 - st.lv) st ∧ st'.lv = lv1) ∧ lnM b y < lnM b W3 := fun y hy e => by
          rw [e] at htb
          have hXy := hX8.below hy
          refine ⟨⟨{ st2 with rem := Z.map pk }, ⟨_, _, n, g, Z, hXy.weaken (fun c o h => by rw [hK2]; exact .inl h), ⟨hR8.keep hy, rfl, fun x hx => hok'.out x (List.mem_cons_of_mem _ hx)⟩, hS'.out, hn'.out, hlv'.out, ?_, ?_, hoffK'.out⟩, ?_, hlv2'.out⟩, ?_⟩
          · have := hlen'.out; rw [hrem] at this; simp at this ⊢; omega
          · intro x hx; exact hcur'.out x (by rw [hrem]; exact List.mem_cons_of_mem _ hx)
          · rw [← hq2'.out]; exact (nextE_skip hrem htb).symm
          · rw [hXy.lnM, hmL.out]; show Z.length < Z.length + 1; omega
        have hread : ∃ j : Int, g (klK (pk (x0, xn))) = some j ∧ (hadB st2.seen (pk (x0, xn)) = decide (j ≠ (st2.lv : Int))) := by
          have hok2 := pk_ok hokx
          have h1 := hS'.out _ hok2
          have h2 := hcur'.out (pk (x0, xn)) (by rw [hrem]; exact List.mem_cons_self ..)
          cases hs : hadB st2.seen (pk (x0, xn)) with
          | true =>
            obtain ⟨j, h3, h4, h5⟩ := h1.1 hs
            exact ⟨j, h3, (decide_eq_true (by omega)).symm⟩
          | false =>
            have h3 := h1.2 hs
            rw [h2] at h3
            exact ⟨_, h3, (decide_eq_false (by simp)).symm⟩
        obtain ⟨jv, hjv, hhad⟩ := hread
        have hgd0 := hgd.out
        have htb0 := Lib.hid htb
        have hS2 := hS'
        have hn2 := hn'
        have hlen2 := hlen'
        rw [toldB, hgd0, hhad] at htb
        have hlk := fun y hy => look_G1 hmap (pk (x0, xn)) (pk_ok hokx) jv hjv y hy
        have hP := c_Iplain (x0, xn) hokx.1
        have hst := onto_drew W8
        unfold keyV at hP hlk
        dsimp only at hP
        replace hP := Lib.hid hP
        replace hround := Lib.hid hround
        replace hX8 := Lib.hid hX8
        clear hX6 hc4 hc5 hc6 hX6' hsl0 hgd hgd0 hOx hq hth hi13 hi13l ho13 hq1 hq2 hb78 hb7 c2 c3 hmap kb8 hS' hlen' hn' hR6
        have hdrew := fun n => hround.out (W8.drewN n) ⟨rfl, rfl, rfl, Nat.le_refl _, fun _ _ => rfl⟩
        by_cases g1 : xn ≤ 0
        · cases bI with
          | false =>
            have htb' := fun n => hdrew n (by rw [← htb]; simp)
            clear htb
            go_quiet (fail)
            go_wp2_with fail
            exact ⟨⟨rfl, (htb' _).1⟩, (htb' _).2⟩
          | true =>
            by_cases g2 : numB P.fl = true
            · have g3 : (bits BinOp.and IntKind.i64 P.fl 2 != 0) = true := g2
              by_cases g4 : jv = (st2.lv : Int)
              · have htb' : tb = true := by rw [← htb]; simp [g1, g2, g4]
                have g5 : (jv == (st2.lv : Int)) = true := by simp [g4]
                clear htb hdrew
                rw [htb'] at htb0
                go_region_held3 (fun y => (∀ a : Addr, a.block < W8.heap.size → y.cell? a = W8.cell? a) ∧ (∀ b : Nat, b < W8.heap.size → y.heap[b]? = W8.heap[b]?) ∧ Below W8.heap.size W8 y) (first | with_reducible assumption | with_reducible exact hst | with_reducible exact onto_below (by assumption) (by assumption)) (first | (go_at_call 60; refine (hP.out _).mono ?_; rintro e y9 ⟨rfl, hb9⟩))
                have hB9 := (Below.refl _ W8).drew.trans (hb9.mono (Nat.le_refl _))
                have hX9 := hX8.out.below hB9
                have kk9 := hX9.held hk2
                have kx9 := hX9.held (show K2 rx _ by rw [hK2, hK']; exact .inl (.inr ⟨rfl, rfl⟩))
                have kc0 : y9.cell? ⟨rk, 0, none⟩ = some (.string x0) := by rw [cell_of_row _ _ 0 _ _ _ kk9]; rfl
                have kc1 : y9.cell? ⟨rk, 1, none⟩ = some (.int .i64 xn) := by rw [cell_of_row _ _ 1 _ _ _ kk9]; rfl
                have kx0 : y9.cell? ⟨rx, 0, none⟩ = some (.string ⟨#[]⟩) := by rw [cell_of_row _ _ 0 _ _ _ kx9]; rfl
                have kx1 : y9.cell? ⟨rx, 1, none⟩ = some (.int .i64 0) := by rw [cell_of_row _ _ 1 _ _ _ kx9]; rfl
                have kf0 := froz_of kx9 0
                have kf1 := froz_of kx9 1
                have lx9 := heapH_lt kx9
                have hR9 := Lib.hid (hR8.keep hB9)
                have hX9' := Lib.hid hX9
                clear hst hlk hX9 c4 c5 a12 hB9 hb9 lk8 lq8 lm8 l5 l6
                go_wp2_with fail
                refine bodyPost_ret (results_ck rfl _ _ rx 32 #[.string x0, .int .i64 xn] (0, 0) _ rfl rfl (set2_block kx9) infoKeyRowZ) rfl ?_
                have hk' : ∀ r, r ≠ rx → ((y9.setCell ⟨rx, 0, none⟩ (.string x0)).setCell ⟨rx, 1, none⟩ (.int .i64 xn)).heap[r]? = y9.heap[r]? := fun r hr => set2_other r hr
                have hXf := hX9'.out.free (K' := K) (w' := (y9.setCell ⟨rx, 0, none⟩ (.string x0)).setCell ⟨rx, 1, none⟩ (.int .i64 xn)) (show K2 rx _ by rw [hK2, hK']; exact .inl (.inr ⟨rfl, rfl⟩)) rfl rfl rfl (by simp) (fun r _ hr => hk' r hr) hw0 (fun x o' hx => ⟨by rw [hK2, hK']; exact .inl (.inl hx), Nat.ne_of_lt (hKlt.out x o' hx)⟩)
                refine ⟨{ st2 with rem := Z.map pk }, ⟨_, _, n, g, Z, hXf, ⟨hR9.out.off hoffx hk', rfl, fun x hx => hok'.out x (List.mem_cons_of_mem _ hx)⟩, hS2.out, hn2.out, hlv'.out, ?_, ?_, hoffK.out⟩, .inl ⟨(x0, xn), hokx, ?_, rfl⟩⟩
                · have := hlen2.out; rw [hrem] at this; simp at this ⊢; omega
                · intro x hx; exact hcur'.out x (by rw [hrem]; exact List.mem_cons_of_mem _ hx)
                · rw [← hq2'.out]
                  exact nextE_told hrem htb0.out
              · have htb' : tb = false := by rw [← htb]; simp [g1, g2, g4]
                have g5 : (jv == (st2.lv : Int)) = false := by simp [g4]
                clear htb hdrew
                go_region_held3 (fun y => (∀ a : Addr, a.block < W8.heap.size → y.cell? a = W8.cell? a) ∧ (∀ b : Nat, b < W8.heap.size → y.heap[b]? = W8.heap[b]?) ∧ Below W8.heap.size W8 y) (first | with_reducible assumption | with_reducible exact hst | with_reducible exact onto_below (by assumption) (by assumption)) (first | (go_at_call 60; refine (hP.out _).mono ?_; rintro e y9 ⟨rfl, hb9⟩))
                have hB9 := (Below.refl _ W8).drew.trans (hb9.mono (Nat.le_refl _))
                have hend := hround.out _ hB9 htb'
                go_wp2_with fail
                exact ⟨⟨rfl, hend.1⟩, hend.2⟩
            · have g3 : (bits BinOp.and IntKind.i64 P.fl 2 != 0) = false := by rw [← Bool.not_eq_true]; exact g2
              have htb' := fun n => hdrew n (by rw [← htb]; simp [g2])
              clear htb
              go_quiet (fail)
              go_wp2_with fail
              exact ⟨⟨rfl, (htb' _).1⟩, (htb' _).2⟩
        · have htb' := fun n => hdrew n (by rw [← htb]; simp [g1])
          clear htb
          go_quiet (fail)
          go_wp2_with fail
          exact ⟨⟨rfl, (htb' _).1⟩, (htb' _).2⟩
        all_goals done
    all_goals done
end
end
section

/-- both heaps, and blocks that are neither's -/
def LawK (K : Nat → Obj → Prop) (w : World) (hb rb : Nat) (lim : Int) (B : Nat) (H : List OB) : Prop :=
  ∃ f f2, Two w hb rb lim B H f f2 ∧ ∀ c o, K c o → w.heap[c]? = some o ∧ f c = 0 ∧ f2 c = 0
def allocs (w : World) : List Obj → World
  | [] => w
  | o :: l => allocs (w.alloc o) l
theorem allocs_below (l : List Obj) : ∀ w : World, Below w.heap.size w (allocs w l) := by
  induction l with
  | nil => exact fun w => Below.refl _ _
  | cons o l ih => exact fun w => ((Below.refl _ _).alloc (Nat.le_refl _) o).trans ((ih (w.alloc o)).mono (by simp))
theorem allocs_size (l : List Obj) : ∀ w : World, (allocs w l).heap.size = w.heap.size + l.length := by
  induction l with
  | nil => exact fun w => rfl
  | cons o l ih => intro w; rw [allocs, ih]; simp; omega
theorem allocs_get (l : List Obj) : ∀ (w : World) (i : Nat) (o : Obj), l[i]? = some o → (allocs w l).heap[w.heap.size + i]? = some o := by
  induction l with
  | nil => intro w i o h; simp at h
  | cons x l ih =>
    intro w i o h
    cases i with
    | zero =>
      simp at h; subst h
      rw [allocs, (allocs_below l (w.alloc x)).block _ (by simp)]
      exact heap_alloc_new w x
    | succ i =>
      have := ih (w.alloc x) i o (by simpa using h)
      rw [allocs, ← this]
      congr 1
      simp; omega
theorem mapG_of {w : World} {b : Nat} (k : TypeId) (n : Nat) (h : w.heap[b]? = some (.map #[] 0)) : MapG w k b n (fun _ => none) := by
  have hlt := heapH_lt h
  obtain ⟨v, hv⟩ : ∃ v : World, v = { w with heap := w.heap.extract 0 b } := ⟨_, rfl⟩
  have hs : v.heap.size = b := by rw [hv]; simp; omega
  have h1 := MapG.made v k n
  rw [hs] at h1
  refine h1.at ?_
  rw [h, ← hs]
  exact (heap_alloc_new v _).symm
theorem keys_few {H : List OB} (hu : usedH H ≤ 100000) {o : Int} {Z : List KK} (hk : KeysOf (gk (listH H o)) Z) : Z.length ≤ 100000 := by
  rw [hk.len]
  unfold listH gk
  rcases objH_cases H o with ⟨_, h2⟩ | ⟨n, a, _, _, ha, h3, _⟩
  · rw [h2]; simp
  · rw [h3, List.length_map]
    have := len_used (List.mem_of_getElem? ha)
    show a.l.length ≤ _
    omega
section
variable {K : Nat → Obj → Prop} {w0 w w' : World} {hb rb B : Nat} {lim : Int} {H : List OB} {b : EB}
theorem LawK.law (h : LawK K w hb rb lim B H) : LawS { w with heap := #[] } w hb rb lim B H := by
  obtain ⟨f, f2, h1, h2⟩ := h
  exact ⟨f, f2, h1, ⟨rfl, rfl, rfl, Nat.zero_le _, fun r hr => absurd hr (Nat.not_lt_zero _)⟩, fun r hr => absurd hr (Nat.not_lt_zero _)⟩
theorem LawK.below (h : LawK K w hb rb lim B H) (hb' : Below w.heap.size w w') : LawK K w' hb rb lim B H := by
  obtain ⟨f, f2, h1, h2⟩ := h
  exact ⟨f, f2, h1.below hb', fun c o hK => ⟨(hb'.block c (heapH_lt (h2 c o hK).1)).trans (h2 c o hK).1, (h2 c o hK).2⟩⟩
theorem c_INew (h : LawK K w hb rb lim B H) (hB1 : 128 ≤ B) (hB : B ≤ 100000) (hu : usedH H ≤ 100000) (o : Int) :
    Calls Try.prog 38 #[.pointer (some ⟨hb, 0, none⟩), .int .i64 o] w fun e w' => ∃ b : EB, e = .returned (.pointer (some ⟨b.E, 0, none⟩)) ∧ LawE K w w' hb rb lim B H b ⟨o, 1, keysH H o, [], keysH H o⟩ := by
  have hmm := @run_makeMap Try.prog
  have rsf := fun (w : World) (a : Addr) (fn : Fn) (b c : Array Value) => run_store Try.prog w a (.func fn b c) .plain rfl
  obtain ⟨s, hs⟩ : ∃ s, s = w.heap.size := ⟨_, rfl⟩
  obtain ⟨W7, hW7⟩ : ∃ W7, allocs w [.cells #[.pointer (some ⟨hb, 0, none⟩)] 25 (0, 0), .cells #[.int .i64 o] 3 (0, 0), .cells #[.nilFunc, .int .i64 0] 82 (0, 0), .cells #[.pointer (some ⟨s + 1 + 1, 0, none⟩)] 76 (0, 0), .map #[] 0, .cells #[.map (some (s + 1 + 1 + 1 + 1))] 115 (0, 0), .cells #[.int .i64 1] 3 (0, 0)] = W7 := ⟨_, rfl⟩
  have hb7 : Below w.heap.size w W7 := by rw [← hW7]; exact allocs_below _ w
  have hs7 : W7.heap.size = s + 7 := by rw [← hW7, allocs_size, hs]; rfl
  have hd := fun (i : Nat) (ob : Obj) hx => hW7 ▸ allocs_get _ w i ob hx
  rw [← hs] at hd
  have d0 : W7.heap[s]? = _ := hd 0 _ rfl
  have d1 : W7.heap[s + 1]? = _ := hd 1 _ rfl
  have d2 : W7.heap[s + 1 + 1]? = _ := hd 2 _ rfl
  have d3 : W7.heap[s + 1 + 1 + 1]? = _ := hd 3 _ rfl
  have d4 : W7.heap[s + 1 + 1 + 1 + 1]? = _ := hd 4 _ rfl
  have d5 : W7.heap[s + 1 + 1 + 1 + 1 + 1]? = _ := hd 5 _ rfl
  have d6 : W7.heap[s + 1 + 1 + 1 + 1 + 1 + 1]? = _ := hd 6 _ rfl
  have hL7 := h.below hb7
  have hKs := l_HKeysF hL7.law hB1 hB o
  simp only [allocs] at hW7
  clear hd
  go_enter Try.func38, Try.ntmps38
  go_upto_region 4 with fail
  rw [← hs, hW7]
  clear hW7
  generalize hq6 : s + 1 + 1 + 1 + 1 + 1 + 1 = q6 at *
  generalize hq5 : s + 1 + 1 + 1 + 1 + 1 = q5 at *
  generalize hq4 : s + 1 + 1 + 1 + 1 = q4 at *
  generalize hq3 : s + 1 + 1 + 1 = q3 at *
  generalize hq2 : s + 1 + 1 = q2 at *
  generalize hq1 : s + 1 = q1 at *
  have hord := Lib.hid (show q1 = s + 1 ∧ q2 = s + 2 ∧ q3 = s + 3 ∧ q4 = s + 4 ∧ q5 = s + 5 ∧ q6 = s + 6 from by omega)
  have c0 := cell_one d0
  have c1 := cell_one d1
  replace hs := Lib.hid hs
  replace hs7 := Lib.hid hs7
  replace hb7 := Lib.hid hb7
  clear hq1 hq2 hq3 hq4 hq5 hq6
  go_upto_region 5 with (first | (go_at_call 17; refine hKs.mono ?_; rintro e y8 ⟨v8, Z8, rfl, hr8, hk8, hb8, hf8⟩; obtain ⟨p8, cp8, rfl, -⟩ := hr8.form))
  go_upto_region 6 with fail
  obtain ⟨l8, hl8⟩ : ∃ l8, l8 = y8.heap.size := ⟨_, rfl⟩
  obtain ⟨n8, hn8⟩ : ∃ n8, n8 = y8.heap.size + 1 := ⟨_, rfl⟩
  obtain ⟨W10, hW10⟩ : ∃ W10, allocs y8 [.cells #[.slice p8 Z8.length cp8] 51 (0, 0), .cells #[.func (.func 59) #[] #[.pointer (some ⟨y8.heap.size, 0, none⟩), .pointer (some ⟨q5, 0, none⟩), .pointer (some ⟨q6, 0, none⟩)]] 1 (0, 0)] = W10 := ⟨_, rfl⟩
  have hb10 : Below y8.heap.size y8 W10 := by rw [← hW10]; exact allocs_below _ y8
  have hs10 : W10.heap.size = y8.heap.size + 2 := by rw [← hW10, allocs_size]; rfl
  have hd10 := fun (i : Nat) (ob : Obj) hx => hW10 ▸ allocs_get _ y8 i ob hx
  have d7 : W10.heap[y8.heap.size]? = _ := hd10 0 _ rfl
  have d8 : W10.heap[y8.heap.size + 1]? = _ := hd10 1 _ rfl
  clear hd10
  simp only [allocs] at hW10
  rw [hW10]
  rw [← hn8, ← hl8] at d8
  rw [← hl8] at d7
  rw [← hn8, ← hl8]
  have hb78 : Below W7.heap.size W7 W10 := hb8.trans (hb10.mono hb8.size)
  have hsz8 := hb8.size
  have hup : ∀ {i : Nat} {ob : Obj}, W7.heap[i]? = some ob → W10.heap[i]? = some ob := fun h => (hb78.block _ (heapH_lt h)).trans h
  replace d0 := hup d0
  replace d1 := hup d1
  replace d2 := hup d2
  replace d3 := hup d3
  replace d4 := hup d4
  replace d5 := hup d5
  replace d6 := hup d6
  have hlK := keys_few hu hk8
  have hL10 := hL7.below hb78
  have hR10 := hr8.keep hb10
  have hnote := c_note d7 d5 d6 hR10 hk8.ok (by omega) (mapG_of 32 0 d4) (by omega) (by omega) (WalkArith.wf_i64 (by omega)) (fun K hK j hj => by cases hj)
  have hsw7 := hb7.out.size
  have hpos := Lib.hid (show s + 7 ≤ l8 ∧ n8 = l8 + 1 from by have := hs7.out; omega)
  have hbw := Lib.hid (hb7.out.trans (hb78.mono hb7.out.size))
  clear hs7 hb7 hl8 hn8 hs10 hsz8 hW10 hup hb10 hb78 hr8 hb8 hL7 hKs c0 c1
  have c8 := cell_one d8
  replace hnote := Lib.hid hnote
  go_upto_region 7 with (first | (go_at_call 59; refine hnote.out.mono ?_; rintro e y9 ⟨rfl, hN9⟩))
  obtain ⟨o1, o2, o3, o4, o5, o6⟩ := hord.out
  obtain ⟨p1, p2⟩ := hpos.out
  have hup9 : ∀ {i : Nat} {ob : Obj}, W10.heap[i]? = some ob → i ≠ q4 → y9.heap[i]? = some ob := fun h hne => (hN9.1.block _ (heapH_lt h) (fun e => hne (Option.some.inj e))).trans h
  have e0 := hup9 d0 (by omega)
  have e1 := hup9 d1 (by omega)
  have e2 := hup9 d2 (by omega)
  have e3 := hup9 d3 (by omega)
  have e5 := hup9 d5 (by omega)
  have e6 := hup9 d6 (by omega)
  have e7 := hup9 d7 (by omega)
  have e8 := hup9 d8 (by omega)
  have hR9 : RdK y9 (.slice p8 Z8.length cp8) Z8 := hR10.block fun r ⟨j, u, hc⟩ => hN9.1.block r (cell_lt hc) (fun e => by
    have e := Option.some.inj e
    subst e
    exact no_cell (mapG_of 32 0 d4) hc)
  have hR11 := hR9.set (i := 0) (v := nextV ⟨q2, l8, q3, s, q1, q5, q6, n8, q4⟩) (not_texty2 e2 (by intro s h; cases h) (by intro s h; cases h))
  obtain ⟨hgr, _, n9, g9, hm9, hn9, hg9⟩ := hN9
  rw [List.take_of_length_le (by simp)] at hg9
  have hfin : LawE K w (y9.setCell ⟨q2, 0, none⟩ (nextV ⟨q2, l8, q3, s, q1, q5, q6, n8, q4⟩)) hb rb lim B H ⟨q2, l8, q3, s, q1, q5, q6, n8, q4⟩ ⟨o, 1, keysH H o, [], keysH H o⟩ := by
    obtain ⟨f, f2, h1, h2⟩ := h
    have hsw := hs.out
    have hbw9 : Below w.heap.size w y9 := ⟨hgr.os.trans hbw.out.os, hgr.tape.trans hbw.out.tape, hgr.output.trans hbw.out.output, Nat.le_trans hbw.out.size hgr.size, fun r hr => (hgr.block r (Nat.lt_of_lt_of_le hr hbw.out.size) (fun e => by have := Option.some.inj e; omega)).trans (hbw.out.block r hr)⟩
    have hb11 : Below w.heap.size w (y9.setCell ⟨q2, 0, none⟩ (nextV ⟨q2, l8, q3, s, q1, q5, q6, n8, q4⟩)) := hbw9.setCell (p := ⟨q2, 0, none⟩) (show w.heap.size ≤ q2 by omega) _
    obtain ⟨f3, hf3⟩ : ∃ f3 : Nat → Nat, f3 = fun r => if r = q2 then 8 else if r = l8 then 1 else if r = q3 then 2 else if r = s then 3 else if r = q1 then 4 else if r = q5 then 5 else if r = q6 then 6 else if r = n8 then 7 else if r = q4 then 10 else 0 := ⟨_, rfl⟩
    have hz : ∀ r, (r < s ∨ n8 < r) → f3 r = 0 := fun r hr => by
      rw [hf3]; dsimp only
      repeat rw [if_neg (by omega)]
    have t0 := set_other (a := q2) (i := 0) (v := nextV ⟨q2, l8, q3, s, q1, q5, q6, n8, q4⟩) e0 (by omega)
    have t1 := set_other (a := q2) (i := 0) (v := nextV ⟨q2, l8, q3, s, q1, q5, q6, n8, q4⟩) e1 (by omega)
    have t3 := set_other (a := q2) (i := 0) (v := nextV ⟨q2, l8, q3, s, q1, q5, q6, n8, q4⟩) e3 (by omega)
    have t5 := set_other (a := q2) (i := 0) (v := nextV ⟨q2, l8, q3, s, q1, q5, q6, n8, q4⟩) e5 (by omega)
    have t6 := set_other (a := q2) (i := 0) (v := nextV ⟨q2, l8, q3, s, q1, q5, q6, n8, q4⟩) e6 (by omega)
    have t7 := set_other (a := q2) (i := 0) (v := nextV ⟨q2, l8, q3, s, q1, q5, q6, n8, q4⟩) e7 (by omega)
    have t8 := set_other (a := q2) (i := 0) (v := nextV ⟨q2, l8, q3, s, q1, q5, q6, n8, q4⟩) e8 (by omega)
    have hcur : keysH H o = Z8.map pk := (ordK_eq hk8).symm
    refine ⟨_, 0, n9, g9, Z8, ⟨f, f2, f3, h1.below hb11, hb11, fun r hr => hz r (.inl (by omega)), ⟨fun r hr => hz r (.inr ?_), ⟨t7, ?_⟩, ⟨t3, ?_⟩, ⟨t0, ?_⟩, ⟨t1, ?_⟩, ⟨t5, ?_⟩, ⟨t6, ?_⟩, ⟨t8, ?_⟩, ⟨heap_setCell_same _ _ _ _ _ _ e2, ?_⟩, ⟨hm9.set (show q4 ≠ q2 by omega), ?_⟩⟩, fun r hr => ?_, fun c ob hK => ?_, fun c hc => hf8.off (Nat.lt_of_lt_of_le (Nat.lt_of_not_le fun hle => hc.elim (fun hc => hc (h1.1 c hle)) (fun hc => hc (h1.2.1 c hle))) hsw7)⟩, ⟨hR11, hcur.symm, hk8.ok⟩, ?_, ?_, ⟨Nat.le_refl _, (by dsimp only; omega)⟩, ?_, fun x hx => hadB_iff.2 hx, fun c ob hK => hf8.off (Nat.lt_of_lt_of_le (heapH_lt (h2 c ob hK).1) hsw7)⟩
    · have := heapH_lt e8
      simp at hr; omega
    iterate 9
      · rw [hf3]; dsimp only
        repeat rw [if_neg (by omega)]
        rw [if_pos rfl]
    · have : ¬ r < s := fun h => hr (hz r (.inl h))
      exact ⟨h1.1 r (by omega), h1.2.1 r (by omega)⟩
    · obtain ⟨k1, k2⟩ := h2 c ob hK
      have hlt := heapH_lt k1
      exact ⟨(hb11.block c hlt).trans k1, k2.1, k2.2, hz c (.inl (by omega))⟩
    · intro x hx
      refine ⟨fun h => (by cases h), fun _ => ?_⟩
      dsimp only
      rw [hcur, hg9 x hx]
      rfl
    · dsimp only; omega
    · dsimp only; rw [hcur, List.length_map]; exact hlK
  have c3 := cell_one e3
  have c20 : y9.cell? ⟨q2, 0, none⟩ = some .nilFunc := by rw [cell_of_row _ _ 0 _ _ _ e2]; rfl
  have f20 := froz_of e2 0
  have lq2 := heapH_lt e2
  have c3' := cell_one (set_other (a := q2) (i := 0) (v := nextV ⟨q2, l8, q3, s, q1, q5, q6, n8, q4⟩) e3 (by omega))
  unfold nextV at c3' hfin
  dsimp only at c3' hfin
  replace hfin := Lib.hid hfin
  clear hgr hup9 e0 e1 e2 e3 e5 e6 e7 e8 hR9 hR11 hm9 hg9 d0 d1 d2 d3 d4 d5 d6 d7 d8 hord hpos o1 o2 o3 o4 o5 o6 p1 p2 hL10 hR10 hnote hbw
  go_wp2_with fail
  go_ret
  exact ⟨_, rfl, hfin.out⟩
end
end
section

theorem eql_next (w : World) (f : Fn) (a b : Array Value) : (binOp .eql 79 (.func f a b) .nilFunc).run Try.prog w = .ok (.bool false) w := by kernel_rfl
theorem eql_next0 (w : World) : (binOp .eql 79 .nilFunc .nilFunc).run Try.prog w = .ok (.bool true) w := by kernel_rfl
section
variable {K : Nat → Obj → Prop} {w0 w w' : World} {hb rb B : Nat} {lim : Int} {H : List OB} {b : EB}
theorem NextP.form {st : ES} {e : Ending} (h : NextP K w0 hb rb lim B H b st e w') : ∃ (st' : ES) (k : KK) (t : Bool), LawE K w0 w' hb rb lim B H b st' ∧ e = .returned (.tuple #[.agg #[.string k.1, .int .i64 k.2], .bool t]) ∧ ((t = true ∧ okK k ∧ nextE H (1000 - st.lv) st = (some (pk k), st')) ∨ (t = false ∧ k = (⟨#[]⟩, 0) ∧ nextE H (1000 - st.lv) st = (none, st'))) := by
  obtain ⟨st', h1, ⟨k, h2, h3, h4⟩ | ⟨h2, h3⟩⟩ := h
  · exact ⟨st', k, true, h1, h4, .inl ⟨rfl, h2, h3⟩⟩
  · exact ⟨st', (⟨#[]⟩, 0), false, h1, h3, .inr ⟨rfl, rfl, h2⟩⟩
theorem NextP.of {st : ES} {e : Ending} (h : ∃ (st' : ES) (k : KK) (t : Bool), LawE K w0 w' hb rb lim B H b st' ∧ e = .returned (.tuple #[.agg #[.string k.1, .int .i64 k.2], .bool t]) ∧ ((t = true ∧ okK k ∧ nextE H (1000 - st.lv) st = (some (pk k), st')) ∨ (t = false ∧ k = (⟨#[]⟩, 0) ∧ nextE H (1000 - st.lv) st = (none, st')))) : NextP K w0 hb rb lim B H b st e w' := by
  obtain ⟨st', k, t, h1, h2, ⟨rfl, h3, h4⟩ | ⟨rfl, rfl, h4⟩⟩ := h
  · exact ⟨st', h1, .inl ⟨k, h3, h4, h2⟩⟩
  · exact ⟨st', h1, .inr ⟨h4, h2⟩⟩
theorem c_ENext {st : ES} (h : LawE K w0 w hb rb lim B H b st) (hB1 : 128 ≤ B) (hB : B ≤ 100000) (hu : usedH H ≤ 100000) :
    Calls Try.prog 39 #[.pointer (some ⟨b.E, 0, none⟩)] w (NextP K w0 hb rb lim B H b st) := by
  obtain ⟨W1, hW1⟩ : ∃ W1, w.alloc (.cells #[.string ⟨#[]⟩, .int .i64 0] 32) = W1 := ⟨_, rfl⟩
  have hb1 : Below w.heap.size w W1 := by rw [← hW1]; exact (Below.refl _ _).alloc (Nat.le_refl _) _
  have d0 : W1.heap[w.heap.size]? = some (.cells #[.string ⟨#[]⟩, .int .i64 0] 32 (0, 0)) := by rw [← hW1]; exact heap_alloc_new w _
  obtain ⟨rx, hrx⟩ : ∃ rx, rx = w.heap.size := ⟨_, rfl⟩
  obtain ⟨K', hK'⟩ : ∃ K' : Nat → Obj → Prop, K' = fun x o' => K x o' ∨ (x = rx ∧ o' = .cells #[.string ⟨#[]⟩, .int .i64 0] 32 (0, 0)) := ⟨_, rfl⟩
  have hE : LawE K' w0 W1 hb rb lim B H b st := by
    rw [hK']
    exact h.watch hb1 hrx (by rw [hrx]; exact d0)
  have hKlt : ∀ c o, K c o → c < rx := by
    obtain ⟨L, lk, n, g, Z, h1, _⟩ := h
    intro c o hk
    rw [hrx]
    exact heapH_lt (h1.held hk)
  replace hKlt := Lib.hid hKlt
  have hw0 : w0.heap.size ≤ rx := by
    obtain ⟨L, lk, n, g, Z, h1, _⟩ := h
    rw [hrx]
    exact h1.base.size
  have hN := c_Next2 hE hB1 hB hu
  have c7 : W1.cell? ⟨b.E, 0, none⟩ = some (nextV b) := by
    obtain ⟨L, lk, n, g, Z, h1, _⟩ := hE
    exact h1.cells.2.1.1
  have eqn := eql_next
  have hk0 : ∀ y, LawE K' w0 y hb rb lim B H b st → True := fun _ _ => trivial
  unfold nextV at c7
  unfold eArgs at hN
  rw [← hrx] at d0
  replace hN := Lib.hid hN
  clear h hb1 hE hk0 d0
  go_enter Try.func39, Try.ntmps39
  go_upto_region 3 with fail
  rw [← hrx]
  clear hW1 hrx
  go_wp2_with (first | (go_at_call 61; refine hN.out.mono ?_; rintro e y hP; obtain ⟨st', k, tb, ⟨L, lk, n, g, Z, hX, hR, hS, hn, hlv, hlen, hcur, hoff⟩, rfl, hq⟩ := hP.form; have kx9 := hX.held (show K' rx _ by rw [hK']; exact .inr ⟨rfl, rfl⟩); have kx0 : y.cell? ⟨rx, 0, none⟩ = some (.string ⟨#[]⟩) := (by rw [cell_of_row _ _ 0 _ _ _ kx9]; rfl); have kx1 : y.cell? ⟨rx, 1, none⟩ = some (.int .i64 0) := (by rw [cell_of_row _ _ 1 _ _ _ kx9]; rfl); have kf0 := froz_of kx9 0; have kf1 := froz_of kx9 1; have lx9 := heapH_lt kx9; have hoffx := hoff rx _ (show K' rx _ by rw [hK']; exact .inr ⟨rfl, rfl⟩); have hX' := Lib.hid hX; clear hX))
  refine bodyPost_ret (results_ck rfl _ _ rx 32 #[.string k.1, .int .i64 k.2] (0, 0) _ rfl rfl (set2_block kx9) infoKeyRowZ) rfl ?_
  have hk' : ∀ r, r ≠ rx → ((y.setCell ⟨rx, 0, none⟩ (.string k.1)).setCell ⟨rx, 1, none⟩ (.int .i64 k.2)).heap[r]? = y.heap[r]? := fun r hr => set2_other r hr
  have hXf := hX'.out.free (K' := K) (w' := (y.setCell ⟨rx, 0, none⟩ (.string k.1)).setCell ⟨rx, 1, none⟩ (.int .i64 k.2)) (show K' rx _ by rw [hK']; exact .inr ⟨rfl, rfl⟩) rfl rfl rfl (by simp) (fun r _ hr => hk' r hr) hw0 (fun x o' hx => ⟨by rw [hK']; exact .inl hx, Nat.ne_of_lt (hKlt.out x o' hx)⟩)
  exact NextP.of ⟨st', k, tb, ⟨L, lk, n, g, Z, hXf, ⟨hR.1.off hoffx hk', hR.2⟩, hS, hn, hlv, hlen, hcur, fun c ob hk => hoff c ob (by rw [hK']; exact .inl hk)⟩, rfl, hq⟩
/-- .. of an enumeration that nobody made -/
theorem c_ENext0 (w : World) : Calls Try.prog 39 #[.pointer none] w fun e w' => e = .returned (.tuple #[.agg #[.string ⟨#[]⟩, .int .i64 0], .bool false]) ∧ Below w.heap.size w w' := by
  go_enter Try.func39, Try.ntmps39
  go_wp2_with fail
  refine bodyPost_ret (results_ck rfl _ _ w.heap.size 32 #[.string ⟨#[]⟩, .int .i64 0] (0, 0) _ rfl rfl (heap_alloc_new w _) infoKeyRowZ) rfl ?_
  exact ⟨rfl, (Below.refl _ _).alloc (Nat.le_refl _) _⟩
theorem c_ENextZ (w : World) (a : Nat) (n : Int) (ha : w.heap[a]? = some (.cells #[.nilFunc, .int .i64 n] 82 (0, 0))) : Calls Try.prog 39 #[.pointer (some ⟨a, 0, none⟩)] w fun e w' => e = .returned (.tuple #[.agg #[.string ⟨#[]⟩, .int .i64 0], .bool false]) ∧ Below w.heap.size w w' := by
  have c0 : w.cell? ⟨a, 0, none⟩ = some .nilFunc := by rw [cell_of_row _ _ 0 _ _ _ ha]; rfl
  have hlt := heapH_lt ha
  have eqn := eql_next0
  clear ha
  go_enter Try.func39, Try.ntmps39
  go_wp2_with fail
  refine bodyPost_ret (results_ck rfl _ _ w.heap.size 32 #[.string ⟨#[]⟩, .int .i64 0] (0, 0) _ rfl rfl (heap_alloc_new w _) infoKeyRowZ) rfl ?_
  exact ⟨rfl, (Below.refl _ _).alloc (Nat.le_refl _) _⟩
theorem c_ELooked0 (w : World) : Calls Try.prog 41 #[.pointer none] w fun e w' => e = .returned (.int .i64 0) ∧ w' = w := by
  go_enter Try.func41, Try.ntmps41
  go_wp2_with fail
  go_ret
  exact ⟨rfl, rfl⟩
theorem c_ELookedZ (w : World) (a : Nat) (n : Int) (ha : w.heap[a]? = some (.cells #[.nilFunc, .int .i64 n] 82 (0, 0))) : Calls Try.prog 41 #[.pointer (some ⟨a, 0, none⟩)] w fun e w' => e = .returned (.int .i64 n) ∧ w' = w := by
  have c0 : w.cell? ⟨a, 1, none⟩ = some (.int .i64 n) := by rw [cell_of_row _ _ 1 _ _ _ ha]; rfl
  clear ha
  go_enter Try.func41, Try.ntmps41
  go_wp2_with fail
  go_ret
  exact ⟨rfl, rfl⟩
end
end
section

section
variable {w0 w w' : World} {hb rb B : Nat} {lim : Int} {H : List OB}
theorem filter_snoc {Z : List KK} {p : KK → Bool} {i : Nat} {x : KK} (h : Z[i]? = some x) : (Z.take (i + 1)).filter p = (Z.take i).filter p ++ if p x then [x] else [] := by
  rw [List.take_add_one, h, List.filter_append]
  simp [List.filter_cons]
theorem c_IOwn (h : LawS w0 w hb rb lim B H) (hB1 : 128 ≤ B) (hB : B ≤ 100000) (hu : usedH H ≤ 100000) (o : Int) :
    Calls Try.prog 33 #[.pointer (some ⟨hb, 0, none⟩), .int .i64 o] w fun e w' => ∃ v Z, e = .returned v ∧ RdK w' v Z ∧ (∀ x ∈ Z, okK x) ∧ Z.map pk = ownF H o ∧ Z.length ≤ 100000 ∧ Below w.heap.size w w' := by
  have hKs := l_HKeys h hB1 hB o
  obtain ⟨i0, hi0, hz0, hz1, hz2⟩ := info_parts infoKey
  have hL := fun (y : World) (hy : Below w.heap.size w y) => h.below hy
  replace hL := Lib.hid hL
  clear h
  go_enter Try.func33, Try.ntmps33
  go_wp2_with (first | (go_at_call 17; refine hKs.mono ?_; rintro e y8 ⟨v8, Z8, rfl, hr8, hk8, hb8⟩; obtain ⟨p8, cp8, rfl, -, hcp8, hcell8⟩ := hr8.form))
  have hok8 := Lib.hid hk8.ok
  have hZ8 := keys_few hu hk8
  have hord : Z8.map pk = keysH H o := ordK_eq hk8
  replace hcell8 := Lib.hid hcell8
  replace hord := Lib.hid hord
  obtain ⟨W8, rfl⟩ : ∃ W8, W8 = y8 := ⟨_, rfl⟩
  have hs8 := hb8.size
  replace hb8 := Lib.hid hb8
  clear hr8 hk8 hKs
  go_loopw [5, 14] (fun v vi wr => ∃ i : Nat, i ≤ Z8.length ∧ vi = .int .i64 (i : Int) ∧ (∃ L, L = (Z8.take i).filter (fun x => goodB H o (pk x)) ∧ wr.ownsRow W8.heap.size 32 2 v L.length (flatK L)) ∧ Below W8.heap.size W8 wr) (fun _ vi _ => Z8.length - (intOf vi).toNat)
  case atStart => exact ⟨0, by omega, rfl, ⟨[], by simp, ⟨rfl, .inl ⟨rfl, rfl⟩⟩⟩, Below.refl _ _⟩
  case round =>
    obtain ⟨i, hi, rfl, ⟨L, hLe, hown⟩, hbj⟩ := hrel
    obtain ⟨W9, rfl⟩ : ∃ W9, W9 = wr := ⟨_, rfl⟩
    rcases Nat.lt_or_ge i Z8.length with hlj | hgj
    · obtain ⟨x, hx⟩ : ∃ x, Z8[i]? = some x := ⟨_, List.getElem?_eq_getElem hlj⟩
      obtain ⟨bk, ok8, rfl, lk8, hy8⟩ := hcell8.out i x hx
      obtain ⟨d1, d2⟩ := hy8 W9 hbj
      have hokx := hok8.out x (List.mem_of_getElem? hx)
      have q1 : (0 : Int) ≤ (i : Int) := by omega
      have q2 : (i : Int) < (Z8.length : Int) := by omega
      have hLl : L.length ≤ i := by rw [hLe]; exact Nat.le_trans (List.length_filter_le _ _) (List.length_take_le _ _)
      have hfs := filter_snoc (p := fun x => goodB H o (pk x)) hx
      rw [← hLe] at hfs
      obtain ⟨W10, hW10⟩ : ∃ W10, W9.alloc (.cells #[.string x.1, .int .i64 x.2] 32) = W10 := ⟨_, rfl⟩
      have hb10 : Below W9.heap.size W9 W10 := by rw [← hW10]; exact (Below.refl _ _).alloc (Nat.le_refl _) _
      have d10 : W10.heap[W9.heap.size]? = some (.cells #[.string x.1, .int .i64 x.2] 32 (0, 0)) := by rw [← hW10]; exact heap_alloc_new W9 _
      have hbw10 : Below w.heap.size w W10 := hb8.out.trans ((hbj.trans (hb10.mono hbj.size)).mono hs8)
      have hgd := goodB_pk H o x
      have hOx := l_HOwnV (hL.out W10 hbw10) o x hokx
      have hown10 := own_at hown fun r hr => hb10.block r (hown.lt r hr).2
      obtain ⟨x0, xn⟩ := x
      dsimp only at *
      generalize hP : (ownH H o (pk (x0, xn))).getD zeroPV = P at *
      generalize hI : (ownH H o (pk (x0, xn))).isSome = bI at *
      have hi13 : (Try.prog.info? 37).map (·.size) = some (encP P).toArray.size := infoProp
      have hi13l : (Try.prog.info? 37).map (·.size) = some (encP P).length := infoProp
      have ho13 := all_oneCell_toArray (encP_one P)
      have hq := fun (y : World) => zeroQ_set y P
      have hth := fun (y : World) => (zeroQ_there y : (y.alloc (.cells zeroQ 37)).there y.heap.size 0 (encP P).toArray.size)
      replace hOx := Lib.hid hOx
      replace hq := Lib.hid hq
      have hkc : ∀ y, Below W10.heap.size W10 y → y.cell? ⟨W9.heap.size, 0, none⟩ = some (.string x0) ∧ y.cell? ⟨W9.heap.size, 1, none⟩ = some (.int .i64 xn) := fun y hy => by
        have h1 := (hy.block _ (heapH_lt d10)).trans d10
        exact ⟨by rw [cell_of_row _ _ 0 _ _ _ h1]; rfl, by rw [cell_of_row _ _ 1 _ _ _ h1]; rfl⟩
      obtain ⟨kc0, kc1⟩ := hkc W10 (Below.refl _ _)
      replace hkc := Lib.hid hkc
      have hbj10 := Lib.hid (hbj.trans (hb10.mono hbj.size))
      replace hfs := Lib.hid hfs
      replace hbw10 := Lib.hid hbw10
      have hs9 := hbj.size
      have tokD : True := trivial
      replace hown10 := Lib.hid hown10
      clear hx hy8 d10 hokx hP hI hown hb10 hbj hLe
      go_upto_region 6 with (first | (go_at_call 20; refine hOx.out.mono ?_; rintro e y11 ⟨rfl, hb11⟩; have hth11 := hth y11; obtain ⟨hq1, hq2⟩ := hq.out y11; clear kc0 kc1) | (clear tokD; refine wpList_store_mid rfl 37 (.tmp 8) (.tmp 23) rfl y11.heap.size 0 (encP P).toArray rfl rfl hth11 hi13 ho13 ?_; generalize hW12 : World.setCells _ _ _ _ = W12; rw [show (y11.alloc (.cells zeroQ 37)).setCells y11.heap.size 0 (encP P) = W12 from hW12] at hq1 hq2; clear hW12 hth11))
      have hb12 := hb11.trans (hq1.mono hb11.size)
      obtain ⟨kc0, kc1⟩ := hkc.out W12 hb12
      obtain ⟨-, -, -, -, -, -, -, -, -, -, -, -, a12⟩ := cells13 hq2
      have hown12 := own_at hown10.out fun r hr => hb12.block r (hown10.out.lt r hr).2
      have hbj12 := hbj10.out.trans (hb12.mono hbj10.out.size)
      have hs12 := hbj12.size
      have hno : goodB H o (pk (x0, xn)) = false → ∃ L', L' = (Z8.take (i + 1)).filter (fun x => goodB H o (pk x)) ∧ W12.ownsRow W8.heap.size 32 2 u5 L'.length (flatK L') := fun e => ⟨L, by rw [hfs.out, e]; simp, hown12⟩
      have hyes : goodB H o (pk (x0, xn)) = true → (Z8.take (i + 1)).filter (fun x => goodB H o (pk x)) = L ++ [(x0, xn)] := fun e => by rw [hfs.out, e]; simp
      rw [hgd] at hno hyes
      replace hno := Lib.hid hno
      replace hyes := Lib.hid hyes
      replace hbj12 := Lib.hid hbj12
      clear hb11 hq1 hq2 hb12 hkc hOx hq hth hi13 hi13l ho13 hbw10 hbj10 hown10 hfs hgd
      cases bI with
      | false =>
        have hend := hno.out (by simp)
        go_wp2_with fail
        exact ⟨⟨i + 1, by omega, by go_num, hend, hbj12.out⟩, by simp [intOf]; omega⟩
      | true =>
        by_cases g1 : xn ≤ 0
        · by_cases g2 : numB P.fl = true
          · have g3 : (bits BinOp.and IntKind.i64 P.fl 2 != 0) = true := g2
            have hend := hyes.out (by simp [g1, g2])
            clear hno
            go_wp2_with (at_builtin; go_loud (refine wpList_append_lies _ (by rfl) _ _ _ (by rfl) W8.heap.size 32 i0 _ 2 24 Try.underlying51 hi0 hz0 hz1 hz2 rfl (by omega) u5 L.length (flatK L) (by rfl) (hown12.alloc _) ⟨_, 0, none⟩ 1 1 [.string x0, .int .i64 xn] (by rfl) (by rfl) (World.news_of_block (cs := #[.string x0, .int .i64 xn]) (t := 32) (fr := (0, 0)) (by exact heap_alloc_new _ _)) (by simp [Value.oneCell']) (by omega) (by unfold maxLen; omega) (by omega) (by simp; omega) _ rfl ?_); intro gg cap w5 hown5 hgrow hat hlt5; have hbel5 := Lib.hid ((hbj12.out.alloc hs12 _).grown hgrow (by simp; omega) (own_base hown12)); clear hgrow hat hlt5)
            exact ⟨⟨i + 1, by omega, by go_num, ⟨L ++ [(x0, xn)], hend.symm, by simpa [flatK_app, flatK, encK] using hown5⟩, hbel5.out⟩, by simp [intOf]; omega⟩
          · have g3 : (bits BinOp.and IntKind.i64 P.fl 2 != 0) = false := by rw [← Bool.not_eq_true]; exact g2
            have hend := hno.out (by simp [g2])
            go_wp2_with fail
            exact ⟨⟨i + 1, by omega, by go_num, hend, hbj12.out⟩, by simp [intOf]; omega⟩
        · have hend := hno.out (by simp [g1])
          go_wp2_with fail
          exact ⟨⟨i + 1, by omega, by go_num, hend, hbj12.out⟩, by simp [intOf]; omega⟩
    · obtain rfl : i = Z8.length := by omega
      rw [List.take_length] at hLe
      replace hown := Lib.hid hown
      replace hbj := Lib.hid hbj
      clear hi hgj
      go_wp2
      go_ret
      refine ⟨_, L, rfl, own_rdk hown.out, fun x hx => hok8.out x ?_, ?_, ?_, hb8.out.trans (hbj.out.mono hs8)⟩
      · rw [hLe] at hx; exact (List.mem_filter.1 hx).1
      · rw [hLe, ownF, ← hord.out, List.filter_map]; rfl
      · rw [hLe]; exact Nat.le_trans (List.length_filter_le _ _) hZ8
end
end
section

section
variable {K K' : Nat → Obj → Prop} {w0 w w' : World} {hb rb B : Nat} {lim : Int} {H : List OB} {b : EB} {st : ES}
theorem RdK.off2 {L : Value} {Z : List KK} (h : RdK w L Z) {k : Option Nat} (ho : ∀ c, k = some c → offL L c) (hk : ∀ r, r < w.heap.size → k ≠ some r → w'.heap[r]? = w.heap[r]?) : RdK w' L Z := by
  rcases h with h | ⟨p, c, rfl, h2, h3⟩
  · exact .inl h
  · refine .inr ⟨p, c, rfl, h2, fun i x hx => ?_⟩
    obtain ⟨h4, h5, h6⟩ := h3 i x hx
    have hne : k ≠ some p.block := fun e => by
      cases Z with
      | nil => simp at hx
      | cons a Z => exact ho _ e p Z.length c rfl rfl
    have hlt := cell_lt h5
    dsimp only at hlt
    have e := hk p.block hlt hne
    exact ⟨h4, (World.cell?_of_block (w := w) (a := ⟨p.block, p.off + i * 2, none⟩) e).trans h5, (World.cell?_of_block (w := w) (a := ⟨p.block, p.off + i * 2 + 1, none⟩) e).trans h6⟩
/-- a change of one watched block at most, and new blocks -/
theorem LawE.turn {k : Option Nat} (h : LawE K w0 w hb rb lim B H b st) (ho : w'.os = w.os) (ht : w'.tape = w.tape) (hp : w'.output = w.output) (hs : w.heap.size ≤ w'.heap.size) (hk : ∀ r, r < w.heap.size → k ≠ some r → w'.heap[r]? = w.heap[r]?)
    (hw : ∀ c, k = some c → w0.heap.size ≤ c ∧ ∃ ob, K c ob) (hK' : ∀ c ob, K' c ob → (K c ob ∧ k ≠ some c) ∨ (w'.heap[c]? = some ob ∧ (k = some c ∨ w.heap.size ≤ c))) : LawE K' w0 w' hb rb lim B H b st := by
  obtain ⟨L, lk, n, g, Z, ⟨f, f2, f3, h1, h2, h3, ⟨h4, h5⟩, h6, h7, h8⟩, r1, r2, r3, r4, r5, r6, r7⟩ := h
  have hk0 : ∀ c, k = some c → f c = 0 ∧ f2 c = 0 ∧ f3 c = 0 := fun c e => by
    obtain ⟨_, ob, hob⟩ := hw c e
    exact (h7 c ob hob).2
  have hT : Two w' hb rb lim B H f f2 := by
    cases hkk : k with
    | none => exact h1.below ⟨ho, ht, hp, hs, fun r hr => hk r hr (by rw [hkk]; simp)⟩
    | some c => exact h1.keep ho ht hp hs ⟨(hk0 c hkk).1, (hk0 c hkk).2.1⟩ (fun r hr hne => hk r hr (by rw [hkk]; simp; exact fun h => hne h.symm))
  have t3 : Turn (fun c => c = 0) f3 f3 w w' := ⟨ho, ht, hp, hs, fun _ _ => rfl, h4.below hs, fun r hr hn => hk r hr (fun e => hn (hk0 r e).2.2)⟩
  refine ⟨L, lk, n, g, Z, ⟨f, f2, f3, hT, ⟨ho.trans h2.os, ht.trans h2.tape, hp.trans h2.output, Nat.le_trans h2.size hs, fun r hr => ?_⟩, h3, ⟨h4.below hs, h5.turn t3 (fun _ h => h)⟩, h6, fun c ob hc => ?_, h8⟩, ⟨r1.1.off2 (fun c e => ?_) hk, r1.2⟩, r2, r3, r4, r5, r6, fun c ob hc => ?_⟩
  · rw [hk r (Nat.lt_of_lt_of_le hr h2.size) (fun e => by have := (hw r e).1; omega)]
    exact h2.block r hr
  · rcases hK' c ob hc with ⟨q1, q2⟩ | ⟨q1, q2⟩
    · obtain ⟨e1, e2⟩ := h7 c ob q1
      exact ⟨(hk c (heapH_lt e1) q2).trans e1, e2⟩
    · refine ⟨q1, ?_⟩
      rcases q2 with q2 | q2
      · exact hk0 c q2
      · exact ⟨h1.1 c q2, h1.2.1 c q2, h4 c q2⟩
  · obtain ⟨_, ob, hob⟩ := hw c e
    exact r7 c ob hob
  · rcases hK' c ob hc with ⟨q1, q2⟩ | ⟨q1, q2⟩
    · exact r7 c ob q1
    · rcases q2 with q2 | q2
      · obtain ⟨_, ob', hob⟩ := hw c q2
        exact r7 c ob' hob
      · exact r1.1.offNew q2
theorem LawE.held {c : Nat} {ob : Obj} (h : LawE K w0 w hb rb lim B H b st) (hK : K c ob) : w.heap[c]? = some ob := by
  obtain ⟨L, lk, n, g, Z, hX, _⟩ := h
  exact hX.held hK
theorem LawE.weaken (h : LawE K w0 w hb rb lim B H b st) (hK : ∀ c o, K' c o → K c o) : LawE K' w0 w hb rb lim B H b st := by
  obtain ⟨L, lk, n, g, Z, hX, r1, r2, r3, r4, r5, r6, r7⟩ := h
  exact ⟨L, lk, n, g, Z, hX.weaken hK, r1, r2, r3, r4, r5, r6, fun c o hk => r7 c o (hK c o hk)⟩
theorem LawE.base (h : LawE K w0 w hb rb lim B H b st) : Below w0.heap.size w0 w := by
  obtain ⟨L, lk, n, g, Z, hX, _⟩ := h
  exact hX.base
end
/-- all that is still told -/
noncomputable def restF (H : List OB) (n : Nat) (st : ES) : List KK := st.rem.filter (toldB H st.o st.seen) ++ match n with
  | 0 => []
  | n + 1 => if hasH H st.o then allF H n (proZ H st.o) (st.seen ++ st.cur) else []
theorem filter_drop (p : KK → Bool) (l : List KK) : l.filter p = (l.dropWhile (fun x => !p x)).filter p := by
  induction l with
  | nil => rfl
  | cons x l ih => cases h : p x <;> simp [List.dropWhile, h, ih]
theorem dropWhile_head {p : KK → Bool} {l r : List KK} {x : KK} (h : l.dropWhile (fun x => !p x) = x :: r) : p x = true := by
  induction l with
  | nil => cases h
  | cons y l ih =>
    cases hy : p y with
    | true => simp [List.dropWhile, hy] at h; rw [← h.1]; exact hy
    | false => simp [List.dropWhile, hy] at h; exact ih h
theorem restF_adv (H : List OB) (n : Nat) (st : ES) : restF H n (advE H st) = allF H n (proZ H st.o) (st.seen ++ st.cur) := by
  cases n with
  | zero => simp [restF, advE, allF]
  | succ n => rfl
/-- what the next key is, of all that are still told -/
theorem nextE_rest (H : List OB) : ∀ (n : Nat) (st : ES), st.cur = keysH H st.o → n = 1000 - st.lv → match nextE H n st with
    | (some K, st') => restF H n st = K :: restF H (1000 - st'.lv) st' ∧ st'.cur = keysH H st'.o
    | (none, st') => restF H n st = [] := by
  intro n
  induction n with
  | zero =>
    intro st hc hn
    unfold nextE restF
    rw [filter_drop]
    cases hd : st.rem.dropWhile (fun K => !toldB H st.o st.seen K) with
    | nil => rfl
    | cons x r =>
      have := dropWhile_head hd
      simp only [List.filter_cons, this, if_true]
      refine ⟨?_, hc⟩
      rw [← hn]
      rfl
  | succ n ih =>
    intro st hc hn
    unfold nextE restF
    rw [filter_drop]
    cases hd : st.rem.dropWhile (fun K => !toldB H st.o st.seen K) with
    | nil =>
      cases hh : hasH H st.o with
      | false => rfl
      | true =>
        simp only [if_true]
        have := ih (advE H st) rfl (by show n = 1000 - (st.lv + 1); omega)
        rw [restF_adv] at this
        exact this
    | cons x r =>
      have := dropWhile_head hd
      simp only [List.filter_cons, this, if_true]
      refine ⟨?_, hc⟩
      rw [← hn]
      rfl
end
section

theorem keysH_len {H : List OB} (hu : usedH H ≤ 100000) (o : Int) : (keysH H o).length ≤ 100000 := by
  unfold keysH ordK
  split
  · rename_i hx
    rw [List.length_map]
    exact keys_few hu (Classical.choose_spec hx)
  · simp
theorem allF_len {H : List OB} (hu : usedH H ≤ 100000) : ∀ (n : Nat) (o : Int) (s : List KK), (allF H n o s).length ≤ (n + 1) * 100000 := by
  intro n
  induction n with
  | zero =>
    intro o s
    have := keysH_len hu o
    have := List.length_filter_le (toldB H o s) (keysH H o)
    simp only [allF]
    omega
  | succ n ih =>
    intro o s
    have := keysH_len hu o
    have := List.length_filter_le (toldB H o s) (keysH H o)
    have := ih (proZ H o) (s ++ keysH H o)
    simp only [allF, List.length_append]
    split
    · omega
    · simp only [List.length_nil]; omega
/-- what is watched while all keys are gathered: the list, and the key at hand -/
def KO (v : Value) (c7 : Nat) (k : KK) (W : World) (c : Nat) (o : Obj) : Prop := (v.ownBlock = some c ∧ W.heap[c]? = some o) ∨ (c = c7 ∧ o = .cells #[.string k.1, .int .i64 k.2] 32 (0, 0))
section
variable {w00 w w' : World} {hb rb B : Nat} {lim : Int} {H : List OB}
theorem LawS.toK (h : LawS w00 w hb rb lim B H) : LawK (fun _ _ => False) w hb rb lim B H := by
  obtain ⟨f, f2, h1, _⟩ := h
  exact ⟨f, f2, h1, fun _ _ h => h.elim⟩
/-- how far all keys have been gathered -/
def KeysR (w : World) (hb rb : Nat) (lim : Int) (B : Nat) (H : List OB) (b : EB) (all : List KK) (v6 v7 v8 : Value) (wr : World) : Prop :=
  ∃ (L : List KK) (st : ES) (k : KK) (c7 : Nat) (t : Bool), v7 = .pointer (some ⟨c7, 0, none⟩) ∧ v8 = .bool t ∧ wr.ownsRow w.heap.size 32 2 v6 L.length (flatK L) ∧ (∀ x ∈ L, okK x) ∧ (w.heap.size ≤ c7 ∧ v6.ownBlock ≠ some c7) ∧ LawE (KO v6 c7 k wr) w wr hb rb lim B H b st ∧
    ((t = true ∧ okK k ∧ st.cur = keysH H st.o ∧ L.map pk ++ pk k :: restF H (1000 - st.lv) st = all) ∨ (t = false ∧ L.map pk = all))
theorem push_keys {b : EB} {st : ES} {v : Value} {c7 : Nat} {k : KK} {W4 : World} {n : Nat} {xs : List Value} (hE : LawE (KO v c7 k W4) w W4 hb rb lim B H b st) (hown : W4.ownsRow w.heap.size 32 2 v n xs) (hne : v.ownBlock ≠ some c7) (lc7 : c7 < W4.heap.size) (w5 : World) (gg cap m : Nat) (ob : Obj) (hg : (W4.alloc ob).grownBy w5 v.ownBlock) (hat : v.ownBlock = some gg ∨ gg = W4.heap.size + 1) :
    LawE (KO (.slice (some ⟨gg, 0, none⟩) m cap) c7 k w5) w w5 hb rb lim B H b st ∧ gg ≠ c7 := by
  have hsz : W4.heap.size + 1 ≤ w5.heap.size := by have := hg.size; simpa using this
  refine ⟨hE.turn (k := v.ownBlock) hg.os hg.tape hg.output (by omega) (fun r hr hne => ?_) (fun c hc => ?_) (fun c o hc => ?_), ?_⟩
  · rw [hg.block r (by simp; omega) (fun e => hne e.symm), Below.heap_alloc _ _ _ hr]
  · obtain ⟨q1, q2⟩ := hown.lt c hc
    exact ⟨q1, _, .inl ⟨hc, Array.getElem?_eq_getElem q2⟩⟩
  · rcases hc with ⟨h1, h2⟩ | h1
    · injection h1 with h1
      have h1 : gg = c := h1
      subst h1
      refine .inr ⟨h2, ?_⟩
      rcases hat with h | h
      · exact .inl h
      · exact .inr (by omega)
    · exact .inl ⟨.inr h1, by rw [h1.1]; exact hne⟩
  · rcases hat with h | h
    · exact fun e => hne (by rw [h, e])
    · omega
theorem c_IKeys (h : LawS w00 w hb rb lim B H) (hB1 : 128 ≤ B) (hB : B ≤ 100000) (hu : usedH H ≤ 100000) (o : Int) :
    Calls Try.prog 34 #[.pointer (some ⟨hb, 0, none⟩), .int .i64 o] w fun e w' => ∃ v Z, e = .returned v ∧ RdK w' v Z ∧ (∀ x ∈ Z, okK x) ∧ Z.map pk = allF H 999 o [] ∧ Below w.heap.size w w' := by
  have hN := Lib.hid (c_INew h.toK hB1 hB hu o)
  obtain ⟨i0, hi0, hz0, hz1, hz2⟩ := info_parts infoKey
  have hall := allF_len hu 999 o []
  have hrest : restF H 999 ⟨o, 1, keysH H o, [], keysH H o⟩ = allF H 999 o [] := rfl
  generalize allF H 999 o [] = all at *
  clear h
  go_enter Try.func34, Try.ntmps34
  go_wp2_with (first | (go_at_call 38; refine hN.out.mono ?_; rintro e y1 ⟨b, rfl, hE1⟩) | (go_at_call 39; refine (c_ENext hE1 hB1 hB hu).mono ?_; rintro e y2 hP2; obtain ⟨st2, k2, t2, hE2, rfl, hq2⟩ := hP2.form))
  obtain ⟨W3, hW3⟩ : ∃ W3, y2.alloc (.cells #[.string k2.1, .int .i64 k2.2] 32) = W3 := ⟨_, rfl⟩
  have hb3 : Below y2.heap.size y2 W3 := by rw [← hW3]; exact (Below.refl _ _).alloc (Nat.le_refl _) _
  have d3 : W3.heap[y2.heap.size]? = some (.cells #[.string k2.1, .int .i64 k2.2] 32 (0, 0)) := by rw [← hW3]; exact heap_alloc_new y2 _
  have hE3 := hE2.watch hb3 rfl d3
  have hwy := hE2.base.size
  have hstart : KeysR w hb rb lim B H b all (.slice none 0 0) (.pointer (some ⟨y2.heap.size, 0, none⟩)) (.bool t2) W3 := by
    have hrs := nextE_rest H 999 ⟨o, 1, keysH H o, [], keysH H o⟩ rfl rfl
    refine ⟨[], st2, k2, _, t2, rfl, rfl, ⟨rfl, .inl ⟨rfl, rfl⟩⟩, (fun x hx => by cases hx), ⟨hwy, fun h => by cases h⟩, hE3.weaken (fun c ob hk => ?_), ?_⟩
    · rcases hk with ⟨hk, _⟩ | hk
      · cases hk
      · exact .inr hk
    · rcases hq2 with ⟨h1, h2, hq⟩ | ⟨h1, _, hq⟩
      · rw [show nextE H 999 _ = _ from hq] at hrs
        exact .inl ⟨h1, h2, hrs.2, by rw [← hrest]; exact hrs.1.symm⟩
      · rw [show nextE H 999 _ = _ from hq] at hrs
        exact .inr ⟨h1, by rw [← hrest]; exact hrs.symm⟩
  rw [hW3]
  replace hstart := Lib.hid hstart
  clear hE2 hE3 hb3 d3 hW3 hq2 hE1 hN hrest hwy
  go_loopw [6, 7, 8] (fun v6 v7 v8 wr => KeysR w hb rb lim B H b all v6 v7 v8 wr) (fun v6 _ _ _ => all.length + 1 - lenW v6)
  case atStart => exact hstart.out
  case round =>
    obtain ⟨L, st, k, c7, t, rfl, rfl, hown, hokL, ⟨hc7, hne⟩, hE, hq⟩ := hrel
    obtain ⟨W4, rfl⟩ : ∃ W4, W4 = wr := ⟨_, rfl⟩
    cases t with
    | false =>
      rcases hq with ⟨h, _⟩ | ⟨_, hq⟩
      · cases h
      have hbs := Lib.hid hE.base
      have hown' := Lib.hid hown
      clear hE
      go_wp2
      go_ret
      refine ⟨_, rfl, L, ?_, fun a b h => hokL (a, b) h, hq, hbs.out⟩
      exact own_rdk hown'.out
    | true =>
      rcases hq with ⟨_, hk, hcur, hq⟩ | ⟨h, _⟩
      · have k7 := hE.held (show KO u6 c7 k W4 c7 _ from .inr ⟨rfl, rfl⟩)
        have kc0 : W4.cell? ⟨c7, 0, none⟩ = some (.string k.1) := by rw [cell_of_row _ _ 0 _ _ _ k7]; rfl
        have kc1 : W4.cell? ⟨c7, 1, none⟩ = some (.int .i64 k.2) := by rw [cell_of_row _ _ 1 _ _ _ k7]; rfl
        have lc7 := heapH_lt k7
        have hLl : L.length + 1 ≤ all.length := by rw [← hq]; simp
        have hsw := hE.base.size
        have hlw := Lib.hid (show lenW u6 = L.length by rcases hown.2 with ⟨e, h⟩ | ⟨g, cap, cur, e, _⟩ <;> (rw [e]; try rw [h]) <;> rfl)
        have hpush := fun (w5 : World) (gg cap : Nat) (ob : Obj) (hg : (W4.alloc ob).grownBy w5 u6.ownBlock) (hat : u6.ownBlock = some gg ∨ gg = W4.heap.size + 1) => push_keys hE hown hne lc7 w5 gg cap (L.length + 1) ob hg hat
        replace hpush := Lib.hid hpush
        replace hq := Lib.hid hq
        replace hE := Lib.hid hE
        clear k7
        go_wp2_with (first | (at_builtin; go_loud (refine wpList_append_lies _ (by rfl) _ _ _ (by rfl) w.heap.size 32 i0 _ 2 24 Try.underlying51 hi0 hz0 hz1 hz2 rfl (by omega) u6 L.length (flatK L) (by rfl) (hown.alloc _) ⟨_, 0, none⟩ 1 1 [.string k.1, .int .i64 k.2] (by rfl) (by rfl) (World.news_of_block (cs := #[.string k.1, .int .i64 k.2]) (t := 32) (fr := (0, 0)) (by exact heap_alloc_new _ _)) (by simp [Value.oneCell']) (by omega) (by unfold maxLen; omega) (by omega) (by simp; omega) _ rfl ?_); intro gg cap w5 hown5 hgrow hat hlt5; obtain ⟨hE5, hne5⟩ := hpush.out w5 gg cap _ hgrow (by simpa using hat); clear hgrow hat hlt5 kc0 kc1; have k7 := hE5.held (show KO (.slice (some ⟨gg, 0, none⟩) (L.length + 1) cap) c7 k w5 c7 _ from .inr ⟨rfl, rfl⟩); have kc0 : w5.cell? ⟨c7, 0, none⟩ = some (.string k.1) := (by rw [cell_of_row _ _ 0 _ _ _ k7]; rfl); have kc1 : w5.cell? ⟨c7, 1, none⟩ = some (.int .i64 k.2) := (by rw [cell_of_row _ _ 1 _ _ _ k7]; rfl); have hE6 := hE5.watch (w' := w5.alloc (.cells #[.string k.1, .int .i64 k.2] 32)) ((Below.refl _ _).alloc (Nat.le_refl _) _) rfl (heap_alloc_new w5 _)) | (go_at_call 39; refine (c_ENext hE6 hB1 hB hu).mono ?_; rintro e y7 hP7; obtain ⟨st7, kn, t7, hE7, rfl, hq7⟩ := hP7.form; have kx := hE7.held (c := w5.heap.size) (.inr ⟨rfl, rfl⟩); have kx0 : y7.cell? ⟨w5.heap.size, 0, none⟩ = some (.string k.1) := (by rw [cell_of_row _ _ 0 _ _ _ kx]; rfl); have kx1 : y7.cell? ⟨w5.heap.size, 1, none⟩ = some (.int .i64 k.2) := (by rw [cell_of_row _ _ 1 _ _ _ kx]; rfl); have kf0 := froz_of kx 0; have kf1 := froz_of kx 1; have lx := heapH_lt kx))
        have hgg := (hown5.lt gg rfl).2
        have hgw : ∃ og, w5.heap[gg]? = some og := ⟨_, Array.getElem?_eq_getElem hgg⟩
        obtain ⟨og, hog⟩ := hgw
        have hyg : y7.heap[gg]? = some og := hE7.held (.inl (.inl ⟨rfl, hog⟩))
        have hn : gg ≠ w5.heap.size := by omega
        have hw5 := hE5.base.size
        have hrs := nextE_rest H (1000 - st.lv) st hcur rfl
        refine ⟨⟨L ++ [k], st7, kn, w5.heap.size, t7, rfl, rfl, ?_, ?_, ⟨hw5, fun e => hn (Option.some.inj e)⟩, ?_, ?_⟩, ?_⟩
        · have := own_at hown5 (w' := (y7.setCell ⟨w5.heap.size, 0, none⟩ (.string kn.1)).setCell ⟨w5.heap.size, 1, none⟩ (.int .i64 kn.2)) fun r hr => by
            have hr : gg = r := Option.some.inj hr
            subst hr
            rw [set2_other _ hn, hyg, hog]
          simpa [flatK_app, flatK, encK] using this
        · intro x hx
          rcases List.mem_append.1 hx with h | h
          · exact hokL x h
          · rw [List.mem_singleton.1 h]; exact hk
        · refine hE7.turn (k := some w5.heap.size) rfl rfl rfl (by simp) (fun r _ hr => set2_other r (fun e => hr (by rw [e]))) (fun c hc => ?_) (fun c o hc => ?_)
          · have hc : w5.heap.size = c := Option.some.inj hc
            subst hc
            exact ⟨hw5, _, .inr ⟨rfl, rfl⟩⟩
          · rcases hc with ⟨h1, h2⟩ | ⟨rfl, rfl⟩
            · have h1 : gg = c := Option.some.inj h1
              subst h1
              rw [set2_other _ hn, hyg] at h2
              have h2 := Option.some.inj h2
              subst h2
              exact .inl ⟨.inl (.inl ⟨rfl, hog⟩), fun e => hn (Option.some.inj e).symm⟩
            · exact .inr ⟨set2_block kx, .inl rfl⟩
        · rcases hq7 with ⟨h1, h2, h3⟩ | ⟨h1, _, h3⟩
          · rw [h3] at hrs
            refine .inl ⟨h1, h2, hrs.2, ?_⟩
            rw [← hq.out, hrs.1]; simp
          · rw [h3] at hrs
            refine .inr ⟨h1, ?_⟩
            rw [← hq.out, hrs]; simp
        · have := hlw.out
          show all.length + 1 - (L.length + 1) < _
          omega
      · cases h
end
end
end Go.Proofs.Ytoccmiinkfhohaa.Ein

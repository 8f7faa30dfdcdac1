/-
  The walk of the law KeysTable: the states, and the texts' numbers.
-/
import Derived.Test.YtkbjakadngnokaaY3
import Derived.Test.YtkbjakadngnokaaW3
namespace Go.Proofs.Ytkbjakadngnokaa
open Go.RowKit Go.Shelf Go.Lib Go.Sort Go.Proofs Go.Maps
set_option maxHeartbeats 1000000
set_option maxRecDepth 8000

/-- the known texts in a row that a box leads to, and the table -/
def KnV (w : World) (B tb gb : Nat) (kv : Value) (known names : List ByteArray) : Prop :=
  w.heap[gb]? = some (.cells #[kv] 33 (0, 0)) ∧ w.ownsRow (gb + 1) 27 1 kv known.length (strs known) ∧ TabP w B tb names [] (fun r => r ≠ gb ∧ kv.ownBlock ≠ some r)
theorem row_ne_box {w : World} {gb n : Nat} {v : Value} {xs : List Value} (h : w.ownsRow (gb + 1) 27 1 v n xs) : ∀ k, v.ownBlock = some k → k ≠ gb ∧ k < w.heap.size := by
  intro k hk
  have := h.lt k hk
  exact ⟨by omega, this.2⟩
theorem KnV.keep {w w' : World} {B tb gb : Nat} {kv : Value} {known names : List ByteArray} (h : KnV w B tb gb kv known names) (hb : Below w.heap.size w w') : KnV w' B tb gb kv known names := by
  obtain ⟨h1, h2, h3⟩ := h
  exact ⟨by rw [hb.block gb (heap_lt h1)]; exact h1, row_eq h2 (fun k hk => hb.block k (h2.lt k hk).2), h3.at (fun r _ hr => hb.block r hr)⟩
theorem KnV.cells {w : World} {B tb gb : Nat} {kv : Value} {known names : List ByteArray} (h : KnV w B tb gb kv known names) :
    w.cell? ⟨gb, 0, none⟩ = some kv ∧ w.frozen? ⟨gb, 0, none⟩ = false ∧ gb < w.heap.size := by
  refine ⟨by rw [cell_of_row w gb 0 _ _ _ h.1]; rfl, by simp [World.frozen?, h.1], heap_lt h.1⟩
theorem KnV.form {w : World} {B tb gb : Nat} {kv : Value} {known names : List ByteArray} (h : KnV w B tb gb kv known names) :
    ∃ p c, kv = .slice p known.length c ∧ ∀ k, k < known.length → ∃ g, p = some ⟨g, 0, none⟩ ∧ g < w.heap.size ∧ w.cell? ⟨g, k, none⟩ = some (.string (nth known k)) := by
  obtain ⟨h1, h2, h3⟩ := h
  rcases h2.2 with ⟨e, h⟩ | ⟨g, cap, cur, e, _, hg, _⟩
  · rw [h]; exact ⟨_, _, e, fun k hk => by omega⟩
  · refine ⟨_, _, e, fun k hk => ⟨g, rfl, heap_lt hg, ?_⟩⟩
    have := h2.cells (g := g) (by rw [e]; rfl) k (.string (nth known k)) (by simp [strs, nth, hk])
    rwa [add_zero_addr] at this
theorem KnV.start {w : World} {B tb : Nat} (h : TabS w B tb [] []) : KnV (w.alloc (.cells #[.slice none 0 0] 33)) B tb w.heap.size (.slice none 0 0) [] [] := by
  refine ⟨heap_alloc_new w _, ⟨rfl, .inl ⟨rfl, rfl⟩⟩, ?_⟩
  refine (h.p.mono ?_).at (fun r _ hr => Below.heap_alloc _ _ _ hr)
  rintro r ⟨h1, h2⟩
  exact ⟨by omega, fun e => by cases e⟩
theorem c_InternK {w : World} {B tb gb : Nat} {kv : Value} {known names : List ByteArray} (s : ByteArray) (m : Nat) (h : KnV w B tb gb kv known names) (hB : B ≤ w.heap.size) (hs : s.size ≤ 1099511627776) (hn : names.length ≤ 1099511627776)
    (hat : (names = known ∧ known[m]? = some (evenB s) ∧ known.Nodup) ∨ (evenB s ∉ names ∧ known = names ++ [evenB s] ∧ m = names.length)) :
    Calls Try.prog 17 #[.pointer (some ⟨tb, 0, none⟩), .string s] w fun e w' => e = .returned (.int .i64 (m : Int)) ∧ KnV w' B tb gb kv known known ∧ Below B w w' := by
  obtain ⟨h1, h2, h3⟩ := h
  refine (c_InternP _ B tb names [] s hs hn w hB h3).mono ?_
  rintro e w' ⟨i, names', rfl, k1, k2, k3, k4⟩
  have key : i = m ∧ names' = known := by
    rcases hat with ⟨rfl, q1, q2⟩ | ⟨q1, q2, q3⟩
    · rcases k4 with ⟨r1, r2⟩ | ⟨r1, _⟩
      · refine ⟨?_, r1⟩
        obtain ⟨a1, a2⟩ := List.getElem?_eq_some_iff.1 q1
        obtain ⟨b1, b2⟩ := List.getElem?_eq_some_iff.1 r2
        exact (List.getElem_inj q2).1 (b2.trans a2.symm)
      · exact absurd (List.mem_of_getElem? q1) r1
    · rcases k4 with ⟨_, r2⟩ | ⟨_, r2, r3⟩
      · exact absurd (List.mem_of_getElem? r2) q1
      · exact ⟨r3.trans q3.symm, r2.trans q2.symm⟩
  obtain ⟨rfl, rfl⟩ := key
  refine ⟨rfl, ⟨?_, row_eq h2 (fun k hk => k3.2 k (h2.lt k hk).2 (fun hx => hx.2 hk)), ?_⟩, k2⟩
  · rw [k3.2 gb (heap_lt h1) (fun hx => hx.1 rfl)]; exact h1
  · refine k1.mono ?_
    rintro r (hr | hr)
    · exact hr
    · exact ⟨fun e => by have := heap_lt h1; omega, fun e => by have := (h2.lt r e).2; omega⟩
/-- one text more is known: behind the append and the store -/
theorem KnV.push {w w1 : World} {o : Obj} {B tb gb gg cap : Nat} {kv : Value} {known names : List ByteArray} {E : ByteArray} (h : KnV w B tb gb kv known names) (hown : w1.ownsRow (gb + 1) 27 1 (.slice (some ⟨gg, 0, none⟩) (known.length + 1) cap) (known.length + 1) (strs known ++ [.string E]))
    (hg : (w.alloc o).grownBy w1 kv.ownBlock) (hat : kv.ownBlock = some gg ∨ gg = w.heap.size + 1) :
    KnV (w1.setCell ⟨gb, 0, none⟩ (.slice (some ⟨gg, 0, none⟩) (known.length + 1) cap)) B tb gb (.slice (some ⟨gg, 0, none⟩) (known.length + 1) cap) (known ++ [E]) names := by
  obtain ⟨h1, h2, h3⟩ := h
  have hk : ∀ r, r < w.heap.size → kv.ownBlock ≠ some r → w1.heap[r]? = w.heap[r]? := fun r hr hne => by
    rw [hg.block r (by simp; omega) (fun e => hne e.symm), Below.heap_alloc _ _ _ hr]
  have hgb := heap_lt h1
  have hgg : gg ≠ gb := by
    rcases hat with h | h
    · exact (row_ne_box h2 gg h).1
    · omega
  have hh1 : w1.heap[gb]? = some (.cells #[kv] 33 (0, 0)) := by
    rw [hk gb hgb (fun e => (row_ne_box h2 gb e).1 rfl)]; exact h1
  have hl : (known ++ [E]).length = known.length + 1 := by simp
  have hs : strs (known ++ [E]) = strs known ++ [.string E] := by simp [strs]
  refine ⟨?_, ?_, ?_⟩
  · rw [heap_setCell_same w1 gb 0 _ _ _ hh1]; rfl
  · rw [hl, hs]
    exact row_eq hown (fun k e => Below.heap_setCell _ _ _ _ (by simp [Value.ownBlock] at e; subst e; exact hgg))
  · refine (h3.lt.mono (Q := fun r => (r ≠ gb ∧ kv.ownBlock ≠ some r) ∧ r ≠ gg) ?_).at ?_ |>.mono ?_
    · rintro r ⟨⟨q1, q2⟩, q3⟩
      refine ⟨⟨q1, q2⟩, ?_⟩
      rintro rfl
      rcases hat with h | h
      · exact q2 h
      · omega
    · rintro r ⟨⟨q1, q2⟩, _⟩ hr
      rw [Below.heap_setCell _ _ _ _ q1, hk r hr q2]
    · rintro r ⟨⟨q1, _⟩, q3⟩
      exact ⟨q1, fun e => by simp [Value.ownBlock] at e; exact q3 e.symm⟩
theorem push_box {w w1 : World} {o : Obj} {B tb gb : Nat} {kv : Value} {known names : List ByteArray} (h : KnV w B tb gb kv known names) (hg : (w.alloc o).grownBy w1 kv.ownBlock) : w1.cell? ⟨gb, 0, none⟩ = some kv ∧ w1.frozen? ⟨gb, 0, none⟩ = false := by
  obtain ⟨h1, h2, h3⟩ := h
  have hgb := heap_lt h1
  have hh1 : w1.heap[gb]? = some (.cells #[kv] 33 (0, 0)) := by
    rw [hg.block gb (by simp; omega) (fun e => (row_ne_box h2 gb e.symm).1 rfl), Below.heap_alloc _ _ _ hgb]; exact h1
  exact ⟨by rw [cell_of_row _ gb 0 _ _ _ hh1]; rfl, by simp [World.frozen?, hh1]⟩
/-- the state at the test: the text is still to come into the table, or is there -/
def TwoS (B tb gb : Nat) (kv : Value) (known names : List ByteArray) (W y : World) : Prop :=
  (KnV y B tb gb kv known names ∨ KnV y B tb gb kv known known) ∧ Below B W y ∧ B ≤ y.heap.size
theorem two_keep {B tb gb : Nat} {kv : Value} {known names : List ByteArray} {W y y' : World} (h : y.cell? ⟨gb, 0, none⟩ = some kv ∧ TwoS B tb gb kv known names W y) (hb : Below y.heap.size y y') : y'.cell? ⟨gb, 0, none⟩ = some kv ∧ TwoS B tb gb kv known names W y' := by
  obtain ⟨h0, h1, h2, h3⟩ := h
  exact ⟨by rw [hb.cell (p := ⟨gb, 0, none⟩) (cell_lt h0)]; exact h0, h1.imp (·.keep hb) (·.keep hb), h2.trans (hb.mono h3), Nat.le_trans h3 hb.size⟩
theorem c_InternT {B tb gb : Nat} {kv : Value} {known names : List ByteArray} {W y : World} (s : ByteArray) (m : Nat) (hs : s.size ≤ 1099511627776) (hn : known.length ≤ 1099511627776)
    (hat : known[m]? = some (evenB s) ∧ known.Nodup) (hat2 : names = known ∨ (evenB s ∉ names ∧ known = names ++ [evenB s] ∧ m = names.length)) (h : TwoS B tb gb kv known names W y) :
    Calls Try.prog 17 #[.pointer (some ⟨tb, 0, none⟩), .string s] y fun e y' => e = .returned (.int .i64 (m : Int)) ∧ (y'.cell? ⟨gb, 0, none⟩ = some kv ∧ TwoS B tb gb kv known names W y') ∧ KnV y' B tb gb kv known known := by
  obtain ⟨h1, h2, h3⟩ := h
  have hnn : names.length ≤ 1099511627776 := by
    rcases hat2 with rfl | ⟨_, rfl, _⟩
    · exact hn
    · simp at hn; omega
  have fin : ∀ {e : Ending} {y' : World}, e = .returned (.int .i64 (m : Int)) ∧ KnV y' B tb gb kv known known ∧ Below B y y' → e = .returned (.int .i64 (m : Int)) ∧ (y'.cell? ⟨gb, 0, none⟩ = some kv ∧ TwoS B tb gb kv known names W y') ∧ KnV y' B tb gb kv known known :=
    fun ⟨q1, q2, q3⟩ => ⟨q1, ⟨q2.cells.1, .inr q2, h2.trans q3, Nat.le_trans h3 q3.size⟩, q2⟩
  rcases h1 with h1 | h1
  · exact (c_InternK s m h1 h3 hs hnn (hat2.imp (fun h => ⟨h, hat⟩) id)).mono fun e y' h => fin h
  · exact (c_InternK s m h1 h3 hs hn (.inl ⟨rfl, hat⟩)).mono fun e y' h => fin h
theorem c_LenK {w : World} {B tb gb : Nat} {kv : Value} {known names : List ByteArray} (h : KnV w B tb gb kv known names) : Calls Try.prog 18 #[.pointer (some ⟨tb, 0, none⟩)] w fun e w' => e = .returned (.int .i64 (names.length : Int)) ∧ w' = w := c_Len1 h.2.2.tab
/-- where a text stands among the first j known ones -/
def AtI (known : List ByteArray) (E : ByteArray) (j : Nat) (a : Int) : Prop := (a = -1 ∧ ∀ i, i < j → nth known i ≠ E) ∨ ∃ m : Nat, a = (m : Int) ∧ m < j ∧ nth known m = E
theorem AtI.yes {known : List ByteArray} {E : ByteArray} {j : Nat} (h : nth known j = E) : AtI known E (j + 1) (j : Int) := .inr ⟨j, rfl, by omega, h⟩
theorem AtI.no {known : List ByteArray} {E : ByteArray} {j : Nat} {a : Int} (h : AtI known E j a) (hn : nth known j ≠ E) : AtI known E (j + 1) a := by
  rcases h with ⟨h1, h2⟩ | ⟨m, h1, h2, h3⟩
  · refine .inl ⟨h1, fun i hi => ?_⟩
    rcases Nat.lt_or_ge i j with h | h
    · exact h2 i h
    · obtain rfl : i = j := by omega
      exact hn
  · exact .inr ⟨m, h1, by omega, h3⟩
theorem nth_get {l : List ByteArray} {k : Nat} (h : k < l.length) : l[k]? = some (nth l k) := by simp [nth, h]
theorem AtI.found {known : List ByteArray} {E : ByteArray} {a : Int} (h : AtI known E known.length a) : (a = -1 ∧ E ∉ known) ∨ ∃ m : Nat, a = (m : Int) ∧ m < known.length ∧ known[m]? = some E := by
  rcases h with ⟨h1, h2⟩ | ⟨m, h1, h2, h3⟩
  · refine .inl ⟨h1, fun hE => ?_⟩
    obtain ⟨i, hi⟩ := List.getElem?_of_mem hE
    have hlt := (List.getElem?_eq_some_iff.1 hi).1
    rw [nth_get hlt] at hi
    exact h2 i hlt (Option.some.inj hi)
  · exact .inr ⟨m, h1, h2, by rw [nth_get h2, h3]⟩
/-- the bytes of the first texts -/
def sumT (l : List ByteArray) (i : Nat) : Nat := ((l.take i).map fun s => s.size + 1).sum
theorem sumT_step {l : List ByteArray} {i : Nat} {x : ByteArray} (h : l[i]? = some x) : sumT l (i + 1) = sumT l i + (x.size + 1) := by
  simp [sumT, List.take_add_one, h]
theorem sumT_mono (l : List ByteArray) : ∀ i, sumT l i ≤ sumT l l.length := by
  intro i
  rcases Nat.le_total i l.length with h | h
  · obtain ⟨d, hd⟩ : ∃ d, l.length = i + d := ⟨l.length - i, by omega⟩
    unfold sumT
    rw [hd, List.take_add, List.map_append, List.sum_append]
    omega
  · unfold sumT
    rw [List.take_of_length_le h, List.take_length]
    exact Nat.le_refl _
theorem sumT_get {l : List ByteArray} {i : Nat} {x : ByteArray} (h : l[i]? = some x) : x.size + 1 ≤ sumT l l.length := by
  have h1 := sumT_step h
  have h2 := sumT_mono l (i + 1)
  omega
theorem sumT_len (l : List ByteArray) : l.length ≤ sumT l l.length := by
  unfold sumT
  rw [List.take_length]
  induction l with
  | nil => simp
  | cons a l ih => simp; omega
end Go.Proofs.Ytkbjakadngnokaa

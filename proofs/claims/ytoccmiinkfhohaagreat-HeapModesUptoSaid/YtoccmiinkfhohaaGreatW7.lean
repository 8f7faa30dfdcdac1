/-
  Contracts: A new tree of shapes; Cached without a cache. Properties as cells; a fast object's state; what it tells of a key. What a fast object tells of a key. How a fast object takes a property. How a fast object takes a property. How a fast object takes a property that it has. A fast object, together; a dictionary: its entries, its map, and the list that it tells. What a dictionary tells of a key. How a dictionary takes a property that it has.
-/
import Derived.Test.YtoccmiinkfhohaaGreatW6
namespace Go.Proofs.YtoccmiinkfhohaaGreat
open Go.RowKit Go.Shelf Go.Lib Go.Sort Go.Proofs Go.Maps
set_option maxHeartbeats 2000000
set_option maxRecDepth 100000

theorem c_Snew {w : World} {f : Nat → Nat} (hN : Norm f w) : Calls Tryz.prog 24 #[] w fun e w' => ∃ f', e = .returned (.pointer (some ⟨w.heap.size + 3, 0, none⟩)) ∧ Turn (fun _ => False) f f' w w' ∧ TreeO w' f' (w.heap.size + 3) [[]] := by
  have hmm := @run_makeMap Tryz.prog
  obtain ⟨W4, hW4⟩ : ∃ W4, (((w.alloc (.map #[] 0)).alloc (.cells #[.slice none 0 0, .map (some w.heap.size)] 119)).alloc (.map #[] 0)).alloc (.cells #[.int .i64 1, .slice (some ⟨w.heap.size + 1, 0, none⟩) 1 1, .map (some (w.heap.size + 2))] 123) = W4 := ⟨_, rfl⟩
  have hs4 : W4.heap.size = w.heap.size + 4 := by rw [← hW4]; simp
  have hb4 : Below w.heap.size w W4 := by rw [← hW4]; exact ((((Below.refl _ w).alloc (Nat.le_refl _) _).alloc (by simp) _).alloc (by simp; omega) _).alloc (by simp; omega) _
  have k0 : W4.heap[w.heap.size]? = some (.map #[] 0) := by
    rw [← hW4, Below.heap_alloc _ _ _ (by simp; omega), Below.heap_alloc _ _ _ (by simp; omega), Below.heap_alloc _ _ _ (by simp)]; exact heap_alloc_new w _
  have k1 : W4.heap[w.heap.size + 1]? = some (.cells #[.slice none 0 0, .map (some w.heap.size)] 119 (0, 0)) := by
    rw [← hW4, Below.heap_alloc _ _ _ (by simp), Below.heap_alloc _ _ _ (by simp)]; exact heap_alloc2_new w _ _
  have k2 : W4.heap[w.heap.size + 2]? = some (.map #[] 0) := by
    rw [← hW4, Below.heap_alloc _ _ _ (by simp)]
    have := heap_alloc2_new (w.alloc (.map #[] 0)) (.cells #[.slice none 0 0, .map (some w.heap.size)] 119) (.map #[] 0)
    rwa [show (w.alloc (.map #[] 0)).heap.size + 1 = w.heap.size + 2 by simp] at this
  have k3 : W4.heap[w.heap.size + 3]? = some (.cells #[.int .i64 1, .slice (some ⟨w.heap.size + 1, 0, none⟩) 1 1, .map (some (w.heap.size + 2))] 123 (0, 0)) := by
    rw [← hW4]
    have := heap_alloc_new (((w.alloc (.map #[] 0)).alloc (.cells #[.slice none 0 0, .map (some w.heap.size)] 119)).alloc (.map #[] 0)) (.cells #[.int .i64 1, .slice (some ⟨w.heap.size + 1, 0, none⟩) 1 1, .map (some (w.heap.size + 2))] 123)
    rwa [show (((w.alloc (.map #[] 0)).alloc (.cells #[.slice none 0 0, .map (some w.heap.size)] 119)).alloc (.map #[] 0)).heap.size = w.heap.size + 3 by simp] at this
  have hm : ∀ (k : TypeId) (b : Nat), W4.heap[b]? = some (.map #[] 0) → MapG W4 k b 0 (fun _ => none) := fun k b hb => by
    obtain ⟨D, ⟨es, cl, h1, h2⟩, h3⟩ := MapG.made w k 0
    rw [heap_alloc_new w (.map #[] 0)] at h1
    injection h1 with h1
    injection h1 with h1 h4
    subst h1
    subst h4
    exact ⟨D, ⟨#[], 0, hb, h2⟩, h3⟩
  have ht : Turn (fun _ => False) f (give f w W4 (fun r => if r = w.heap.size + 3 then 3 else if r = w.heap.size + 1 then 4 else if r = w.heap.size + 2 then 5 else 9)) w W4 :=
    (Turn.refl _ hN).give _ hb4.os hb4.tape hb4.output hb4.size (fun r hr _ => hb4.block r hr)
  have hT : TreeO W4 (give f w W4 (fun r => if r = w.heap.size + 3 then 3 else if r = w.heap.size + 1 then 4 else if r = w.heap.size + 2 then 5 else 9)) (w.heap.size + 3) [[]] := by
    refine ⟨_, w.heap.size + 2, 0, [(.slice none 0 0, w.heap.size)], fun _ => none, ⟨k3, ?_⟩, ⟨⟨by simp [flatE, encE], .inr ⟨w.heap.size + 1, 1, _, rfl, Nat.zero_le _, k1, Nat.le_refl _, by unfold maxLen; omega, rfl, rfl⟩⟩, ?_⟩, rfl, ⟨hm _ _ k2, ?_⟩, Nat.zero_le _, ?_, ?_⟩
    · rw [give_new (by omega) (by omega)]; simp
    · intro r hr
      simp [Value.ownBlock] at hr
      subst hr
      rw [give_new (by omega) (by omega)]; simp
    · rw [give_new (by omega) (by omega)]; simp
    · intro a ch k fl t _ _ _ h
      cases h
    · intro i ks hi
      cases i with
      | succ i => simp at hi
      | zero =>
        simp at hi
        subst hi
        refine ⟨_, rfl, [], fun _ => none, 0, ⟨⟨rfl, .inl ⟨rfl, rfl⟩⟩, fun r hr => by cases hr⟩, rfl, by simp, List.nodup_nil, ⟨hm _ _ k0, ?_⟩, Nat.le_refl _, fun x _ => rfl⟩
        rw [give_new (by omega) (by omega)]
        simp
  replace ht := Lib.hid ht
  replace hT := Lib.hid hT
  clear hm k0 k1 k2 k3 hb4 hs4
  go_enter Tryz.func24, Tryz.ntmps24
  go_wp2
  go_ret
  exact ⟨_, rfl, ht.out, hT.out⟩
theorem c_Creal0 (w : World) : Calls Tryz.prog 114 #[.pointer none] w fun e w' => e = .returned (.bool false) ∧ w' = w := by
  go_enter Tryz.func114, Tryz.ntmps114
  go_wp2
  go_ret
  exact ⟨rfl, rfl⟩
theorem c_SCached {w : World} {f : Nat → Nat} {tb : Nat} {L : List (List KK)} (hN : Norm f w) (h : TreeO w f tb L) (s : Nat) (ks : List KK) (hs : L[s]? = some ks) (k : KK) (hk : okK k) :
    Calls Tryz.prog 110 #[.pointer (some ⟨tb, 0, none⟩), .pointer none, .int .i64 (s : Int), keyV k.1 k.2] w fun e w' => Below w.heap.size w w' ∧
      ((∃ (i : Nat) (fl : Int), idx ks (pk k) = some i ∧ e = .returned (.tuple #[.int .i64 (i : Int), .int .i64 fl, .bool true])) ∨ (idx ks (pk k) = none ∧ e = .returned (.tuple #[.int .i64 0, .int .i64 0, .bool false]))) := by
  have hb1 : Below w.heap.size w (w.alloc (.cells #[.string k.1, .int .i64 k.2] 31)) := (Below.refl _ w).alloc (Nat.le_refl _) _
  have hF := c_SFind (w := w.alloc (.cells #[.string k.1, .int .i64 k.2] 31)) (fun r hr => hN r (Nat.le_trans hb1.size hr)) (h.turn (Turn.of_below (fun _ => False) hN hb1) id id id id) s ks hs k hk
  unfold keyV at hF ⊢
  replace hF := Lib.hid hF
  replace hb1 := Lib.hid hb1
  clear h hN hs hk
  go_enter Tryz.func110, Tryz.ntmps110
  go_wp2_with (first | (go_at_call 114; refine (c_Creal0 _).mono ?_; rintro e w1 ⟨rfl, rfl⟩) | (go_at_call 111; refine hF.out.mono ?_; rintro e w2 ⟨hb2, hr⟩; replace hb2 := Lib.hid hb2; rcases hr with ⟨i, fl, hi, rfl⟩ | ⟨hi, rfl⟩))
  all_goals go_ret3
  · exact ⟨hb1.out.trans (hb2.out.mono hb1.out.size), .inl ⟨i, fl, hi, rfl⟩⟩
  · exact ⟨hb1.out.trans (hb2.out.mono hb1.out.size), .inr ⟨hi, rfl⟩⟩
end Go.Proofs.YtoccmiinkfhohaaGreat
namespace Go.Proofs.YtoccmiinkfhohaaGreat
open Go.RowKit Go.Shelf Go.Lib Go.Sort Go.Proofs Go.Maps
set_option maxHeartbeats 2000000
set_option maxRecDepth 100000

/-- a value -/
structure VV where
  k : Int
  x : Nat
  s : ByteArray
  r : Int
/-- a property -/
structure PV where
  v : VV
  g : VV
  t : VV
  fl : Int
def encP (p : PV) : List Value :=
  [.int .i64 p.v.k, .float .f64 p.v.x, .string p.v.s, .int .i64 p.v.r, .int .i64 p.g.k, .float .f64 p.g.x, .string p.g.s, .int .i64 p.g.r, .int .i64 p.t.k, .float .f64 p.t.x, .string p.t.s, .int .i64 p.t.r, .int .i64 p.fl]
def propV (p : PV) : Value := .agg (encP p).toArray
def zeroVV : VV := ⟨0, 0, ⟨#[]⟩, 0⟩
def zeroPV : PV := ⟨zeroVV, zeroVV, zeroVV, 0⟩
def flatP (l : List PV) : List Value := l.flatMap encP
theorem flatP_len (l : List PV) : (flatP l).length = l.length * 13 := fm_len (k := 13) (fun _ => rfl) l
theorem flatP_get {l : List PV} {i : Nat} {p : PV} (h : l[i]? = some p) {j : Nat} {v : Value} (hj : (encP p)[j]? = some v) : (flatP l)[i * 13 + j]? = some v := fm_get (enc := encP) (k := 13) (fun _ => rfl) h hj
theorem encP_one (p : PV) : ∀ u ∈ encP p, u.oneCell' = true := by simp [encP, Value.oneCell']
/-- a fast object's properties, one for each key of its shape -/
def FastO (w : World) (f : Nat → Nat) (c fb : Nat) (L : List (List KK)) (ks : List KK) (ps : List PV) : Prop :=
  ∃ (s : Nat) (lv : Value), (w.heap[fb]? = some (.cells #[.int .i64 (s : Int), lv] 102 (0, 0)) ∧ f fb = c) ∧ RowO w f c 36 13 lv ps.length (flatP ps) ∧ L[s]? = some ks ∧ ks.length = ps.length
theorem FastO.turn {C : Nat → Prop} {f f' : Nat → Nat} {w w' : World} {c fb : Nat} {L L' : List (List KK)} {ks : List KK} {ps : List PV} (h : FastO w f c fb L ks ps) (ht : Turn C f f' w w') (hc : ¬ C c) (hL : ∀ (i : Nat) ks, L[i]? = some ks → L'[i]? = some ks) : FastO w' f' c fb L' ks ps := by
  obtain ⟨s, lv, h1, h2, h3, h4⟩ := h
  exact ⟨s, lv, blk_turn h1 ht hc, h2.turn ht hc, hL _ _ h3, h4⟩
end Go.Proofs.YtoccmiinkfhohaaGreat
namespace Go.Proofs.YtoccmiinkfhohaaGreat
open Go.RowKit Go.Shelf Go.Lib Go.Sort Go.Proofs Go.Maps
set_option maxHeartbeats 2000000
set_option maxRecDepth 100000

/-- several cells are set, one after the other -/
def setL : List Value → Nat → List Value → List Value
  | l, _, [] => l
  | l, o, v :: vs => setL (l.set o v) (o + 1) vs
theorem setL_len (l : List Value) (o : Nat) (vs : List Value) : (setL l o vs).length = l.length := by
  induction vs generalizing l o with
  | nil => rfl
  | cons v vs ih => rw [setL, ih]; simp
theorem setL_app (a l : List Value) (o : Nat) (vs : List Value) : setL (a ++ l) (a.length + o) vs = a ++ setL l o vs := by
  induction vs generalizing l o with
  | nil => rfl
  | cons v vs ih =>
    rw [setL, setL, List.set_append_right _ _ (by omega), show a.length + o - a.length = o by omega, Nat.add_assoc, ih]
theorem setL_front (a l vs : List Value) (h : a.length = vs.length) : setL (a ++ l) 0 vs = vs ++ l := by
  induction vs generalizing a with
  | nil => cases a <;> simp_all [setL]
  | cons v vs ih =>
    cases a with
    | nil => simp at h
    | cons x a =>
      rw [setL, List.cons_append, List.set_cons_zero]
      have := setL_app [v] (a ++ l) 0 vs
      rw [show ([v] : List Value).length + 0 = 0 + 1 by simp] at this
      rw [show (v :: (a ++ l)) = [v] ++ (a ++ l) from rfl, this, ih a (by simpa using h)]
      rfl
theorem fm_setL {α : Type} {enc : α → List Value} {k : Nat} (h : ∀ x, (enc x).length = k) {l : List α} : ∀ {i : Nat} {x' : α}, i < l.length → setL (l.flatMap enc) (i * k) (enc x') = (l.set i x').flatMap enc := by
  induction l with
  | nil => intro i x' hi; simp at hi
  | cons a l ih =>
    intro i x' hi
    cases i with
    | zero =>
      rw [List.set_cons_zero, List.flatMap_cons, List.flatMap_cons, Nat.zero_mul, setL_front _ _ _ (by rw [h, h])]
    | succ i =>
      rw [List.set_cons_succ, List.flatMap_cons, List.flatMap_cons, show (i + 1) * k = (enc a).length + i * k by rw [h, Nat.add_mul]; omega, setL_app, ih (by simpa using hi)]
theorem heap_setCells {b : Nat} {t : TypeId} : ∀ (vs : List Value) (o : Nat) (w : World) (cs : Array Value), w.heap[b]? = some (.cells cs t (0, 0)) → (w.setCells b o vs).heap[b]? = some (.cells (setL cs.toList o vs).toArray t (0, 0))
  | [], o, w, cs, h => by rw [World.setCells, setL]; exact h
  | v :: vs, o, w, cs, h => by
    rw [World.setCells, setL]
    have := heap_setCells vs (o + 1) _ _ (Go.heap_setCell_same w b o cs t v h)
    rwa [Array.toList_setIfInBounds] at this
theorem heap_setCells_all {b : Nat} {t : TypeId} {w : World} {cs : Array Value} {vs : List Value} (h : w.heap[b]? = some (.cells cs t (0, 0))) (hl : cs.size = vs.length) : (w.setCells b 0 vs).heap[b]? = some (.cells vs.toArray t (0, 0)) := by
  rw [heap_setCells vs 0 w cs h]
  have := setL_front cs.toList [] vs (by simpa using hl)
  simp at this
  rw [this]
theorem heap_setCells_ne {b r : Nat} : ∀ (vs : List Value) (o : Nat) (w : World), r ≠ b → (w.setCells b o vs).heap[r]? = w.heap[r]?
  | [], _, _, _ => rfl
  | v :: vs, o, w, h => by
    rw [World.setCells, heap_setCells_ne vs (o + 1) _ h, Below.heap_setCell _ _ _ _ h]
theorem size_setCellsH (b : Nat) : ∀ (vs : List Value) (o : Nat) (w : World), (w.setCells b o vs).heap.size = w.heap.size ∧ (w.setCells b o vs).os = w.os ∧ (w.setCells b o vs).tape = w.tape ∧ (w.setCells b o vs).output = w.output
  | [], _, _ => ⟨rfl, rfl, rfl, rfl⟩
  | v :: vs, o, w => by
    rw [World.setCells]
    have := size_setCellsH b vs (o + 1) (w.setCell ⟨b, o, none⟩ v)
    exact ⟨this.1.trans (by simp [World.setCell]), this.2.1, this.2.2.1, this.2.2.2⟩
theorem row_setL {B : Nat} {e : TypeId} {size n cap g : Nat} : ∀ (vs : List Value) (j : Nat) (w : World) (xs : List Value), w.ownsRow B e size (.slice (some ⟨g, 0, none⟩) n cap) n xs → (w.setCells g j vs).ownsRow B e size (.slice (some ⟨g, 0, none⟩) n cap) n (setL xs j vs)
  | [], _, _, _, h => h
  | v :: vs, j, w, xs, h => by
    rw [World.setCells, setL]
    exact row_setL vs (j + 1) _ _ (row_set h j v)
theorem below_setC {B : Nat} {a w : World} (h : Below B a w) {b : Nat} (hb : B ≤ b) (vs : List Value) (o : Nat) : Below B a (w.setCells b o vs) := by
  obtain ⟨h1, h2, h3, h4⟩ := size_setCellsH b vs o w
  exact ⟨h2.trans h.os, h3.trans h.tape, h4.trans h.output, by rw [h1]; exact h.size, fun r hr => (heap_setCells_ne vs o w (by omega)).trans (h.block r hr)⟩
theorem infoProp : (Tryz.prog.info? 36).map (·.size) = some 13 := by kernel_rfl
theorem rowProp : (Tryz.prog.underlying 36).isSome = true := by kernel_rfl
theorem there_of {w : World} {b o n : Nat} {cs : Array Value} {t : TypeId} (h : w.heap[b]? = some (.cells cs t (0, 0))) (hn : o + n ≤ cs.size) : w.there b o n := fun j hj => by
  refine ⟨?_, by simp [World.frozen?, h]⟩
  rw [cell_of_row w b (o + j) _ _ _ h]
  simp; omega
theorem results_cell_tmp_row {fn : Func} {p u : Tmp} (h : fn.results = #[.cell p 36, .tmp u]) (tmps : Array Value) (w : World) (g : Nat) (t : TypeId) (cs : Array Value) (fr : Nat × Nat) (x : Value)
    (hp : tmps.getD p undef = .pointer (some ⟨g, 0, none⟩)) (hx : tmps.getD u undef = x) (hg : w.heap[g]? = some (.cells cs t fr)) (hi : (Tryz.prog.info? 36).map (·.size) = some cs.size) :
    (results fn tmps).run Tryz.prog w = .ok (.tuple #[.agg cs, x]) w := by
  have hl := run_loadVar_row (P := Tryz.prog) w g t 36 cs fr _ hg Tryz.underlying36 rfl hi
  rw [results_cell_tmp h, hp, hx]
  simp [asAddr, hl, Result.andThen]
theorem range_of {w : World} {g n cap : Nat} {B : Nat} {ps : List PV} (h : w.ownsRow B 36 13 (.slice (some ⟨g, 0, none⟩) n cap) n (flatP ps)) {i : Nat} {p : PV} (hi : ps[i]? = some p) : w.rangeAt g (i * 13) (encP p) := fun j v hv => by
  have := h.cells (g := g) rfl _ _ (flatP_get hi hv)
  rwa [Addr.add_lit, Nat.zero_add] at this
theorem range_at {w w' : World} {b o : Nat} {cs : List Value} (h : w.rangeAt b o cs) (hb : w'.heap[b]? = w.heap[b]?) : w'.rangeAt b o cs := fun j v hv => (World.cell?_of_block (w := w) (a := ⟨b, o + j, none⟩) hb).trans (h j v hv)
theorem own_form {ks : List KK} {K : KK} {e : Ending} (h : (∃ (i : Nat) (fl : Int), idx ks K = some i ∧ e = .returned (.tuple #[.int .i64 (i : Int), .int .i64 fl, .bool true])) ∨ (idx ks K = none ∧ e = .returned (.tuple #[.int .i64 0, .int .i64 0, .bool false]))) :
    ∃ (z fl : Int) (bo : Bool), e = .returned (.tuple #[.int .i64 z, .int .i64 fl, .bool bo]) ∧ ((∃ i : Nat, idx ks K = some i ∧ z = (i : Int) ∧ bo = true) ∨ (idx ks K = none ∧ bo = false)) := by
  rcases h with ⟨i, fl, h1, h2⟩ | ⟨h1, h2⟩
  · exact ⟨_, fl, _, h2, .inl ⟨i, h1, rfl, rfl⟩⟩
  · exact ⟨_, _, _, h2, .inr ⟨h1, rfl⟩⟩
theorem c_FAown {w : World} {f : Nat → Nat} {tb c fb : Nat} {L : List (List KK)} {ks : List KK} {ps : List PV} (hN : Norm f w) (hT : TreeO w f tb L) (h : FastO w f c fb L ks ps) (k : KK) (hk : okK k) :
    Calls Tryz.prog 108 #[.pointer (some ⟨fb, 0, none⟩), .pointer (some ⟨tb, 0, none⟩), .pointer none, keyV k.1 k.2] w fun e w' => Below w.heap.size w w' ∧
      ((∃ (i : Nat) (p : PV), idx ks (pk k) = some i ∧ ps[i]? = some p ∧ e = .returned (.tuple #[propV p, .bool true])) ∨ (idx ks (pk k) = none ∧ e = .returned (.tuple #[propV zeroPV, .bool false]))) := by
  obtain ⟨s, lv, h1, h2, h3, h4⟩ := h
  unfold keyV
  obtain ⟨k0, kn⟩ := k
  dsimp only
  obtain ⟨W2, hW2⟩ : ∃ W2, (w.alloc (.cells #[.string k0, .int .i64 kn] 31)).alloc (.cells (encP zeroPV).toArray 36) = W2 := ⟨_, rfl⟩
  have hb2 : Below w.heap.size w W2 := by rw [← hW2]; exact ((Below.refl _ w).alloc (Nat.le_refl _) _).alloc (by simp) _
  have hs2 : W2.heap.size = w.heap.size + 2 := by rw [← hW2]; simp
  have d0 : W2.heap[w.heap.size]? = some (.cells #[.string k0, .int .i64 kn] 31 (0, 0)) := by rw [← hW2, Below.heap_alloc _ _ _ (by simp)]; exact heap_alloc_new w _
  have z0 : W2.heap[w.heap.size + 1]? = some (.cells (encP zeroPV).toArray 36 (0, 0)) := by rw [← hW2]; exact heap_alloc2_new w _ _
  have kc0 : W2.cell? ⟨w.heap.size, 0, none⟩ = some (.string k0) := by rw [cell_of_row _ _ 0 _ _ _ d0]; rfl
  have kc1 : W2.cell? ⟨w.heap.size, 1, none⟩ = some (.int .i64 kn) := by rw [cell_of_row _ _ 1 _ _ _ d0]; rfl
  have lf := heapH_lt h1.1
  have c0 : W2.cell? ⟨fb, 0, none⟩ = some (.int .i64 (s : Int)) := by rw [hb2.cell (p := ⟨fb, 0, none⟩) lf, cell_of_row _ _ 0 _ _ _ h1.1]; rfl
  have hC := fun (y : World) (hy : Below W2.heap.size W2 y) => c_SCached (w := y) (f := f) (fun r hr => hN r (Nat.le_trans hb2.size (Nat.le_trans hy.size hr))) (hT.turn (Turn.of_below (fun _ => False) hN (hb2.trans (hy.mono hb2.size))) id id id id) s ks h3 (k0, kn) hk
  unfold keyV at hC
  have t1 : w.heap.size < W2.heap.size := by omega
  have t2 : fb < W2.heap.size := by omega
  replace hC := Lib.hid hC
  replace hs2 := Lib.hid hs2
  replace h1 := Lib.hid h1
  replace h4 := Lib.hid h4
  replace h2 := Lib.hid h2
  simp only [encP, zeroPV, zeroVV] at hW2
  clear d0 hN hT h3 hk
  go_enter Tryz.func108, Tryz.ntmps108
  go_wp2_with fail
  go_region_held3 (fun y => (∀ a : Addr, a.block < W2.heap.size → y.cell? a = W2.cell? a) ∧ (∀ b : Nat, b < W2.heap.size → y.heap[b]? = W2.heap[b]?) ∧ Below W2.heap.size W2 y) (first | assumption | exact onto_drew W2 | exact onto_below (by assumption) (by assumption)) (first | (go_at_call 110; refine (hC.out _ (And.right (And.right (by assumption)))).mono ?_; rintro e y' ⟨hb, hr⟩; replace hr := own_form hr; obtain ⟨z, fl, bo, rfl, hr⟩ := hr))
  have hO := onto_below (onto_drew W2) hb
  have z1 : y'.heap[w.heap.size + 1]? = some (.cells (encP zeroPV).toArray 36 (0, 0)) := (hO.2.1 _ (by have := hs2.out; omega)).trans z0
  have hbw := hb2.trans (hO.2.2.mono hb2.size)
  replace hbw := Lib.hid hbw
  replace hb2 := Lib.hid hb2
  have hth := there_of (n := 13) (o := 0) z1 (by simp [encP])
  rcases hr with ⟨i, hi, rfl, rfl⟩ | ⟨hi, rfl⟩
  · have hil : i < ps.length := by rw [← h4.out]; exact idx_lt hi
    obtain ⟨p, hp⟩ : ∃ p, ps[i]? = some p := ⟨_, List.getElem?_eq_getElem hil⟩
    obtain ⟨g, cap, rfl, g1, g2⟩ := h2.out.1.form (by omega)
    have hg := (h2.out.1.lt g rfl).2
    have c1 : y'.cell? ⟨fb, 1, none⟩ = some (.slice (some ⟨g, 0, none⟩) ps.length cap) := by
      rw [World.cell?_of_block (w := w) (a := ⟨fb, 1, none⟩) (hbw.out.block fb lf), cell_of_row _ _ 1 _ _ _ h1.out.1]; rfl
    have hrg := range_at (range_of h2.out.1 hp) (hbw.out.block g hg)
    have hi13 : (Tryz.prog.info? 36).map (·.size) = some (encP p).length := infoProp
    have hj13 : (Tryz.prog.info? 36).map (·.size) = some (encP p).toArray.size := infoProp
    have ho13 := all_oneCell_toArray (encP_one p)
    have p3 : (0 : Int) ≤ (i : Int) := by omega
    have p4 : (i : Int) < (ps.length : Int) := by omega
    replace z1 := Lib.hid z1
    replace hi := Lib.hid hi
    replace hp := Lib.hid hp
    clear hO hb kc0 kc1 c0 t1 t2
    go_wp2_with (first | (refine wpList_load_mid (by rfl) 36 _ (by rfl) g (i * 13) (by rfl) (encP p) _ hrg Tryz.underlying36 rfl hi13 ?_) | (refine wpList_store_mid (by rfl) 36 _ _ (by rfl) (w.heap.size + 1) 0 (encP p).toArray (by rfl) (by rfl) hth hj13 ho13 ?_))
    have hz := heap_setCells_all (t := 36) (vs := encP p) z1.out rfl
    refine bodyPost_ret (results_cell_tmp_row rfl _ _ (w.heap.size + 1) 36 (encP p).toArray (0, 0) _ rfl rfl hz infoProp) rfl ?_
    exact ⟨below_setC hbw.out (by omega) _ _, .inl ⟨i, p, hi.out, hp.out, rfl⟩⟩
  · replace z1 := Lib.hid z1
    clear hO hb kc0 kc1 c0 t1 t2
    have hi13 : (Tryz.prog.info? 36).map (·.size) = some (encP zeroPV).toArray.size := infoProp
    have ho13 := all_oneCell_toArray (encP_one zeroPV)
    go_wp2_with (first | (refine wpList_store_mid (by rfl) 36 _ _ (by rfl) (w.heap.size + 1) 0 (encP zeroPV).toArray (by rfl) (by rfl) hth hi13 ho13 ?_))
    have hz := heap_setCells_all (t := 36) (vs := encP zeroPV) z1.out rfl
    refine bodyPost_ret (results_cell_tmp_row rfl _ _ (w.heap.size + 1) 36 (encP zeroPV).toArray (0, 0) _ rfl rfl hz infoProp) rfl ?_
    exact ⟨below_setC hbw.out (by omega) _ _, .inr ⟨hi, rfl⟩⟩
end Go.Proofs.YtoccmiinkfhohaaGreat
namespace Go.Proofs.YtoccmiinkfhohaaGreat
open Go.RowKit Go.Shelf Go.Lib Go.Sort Go.Proofs Go.Maps
set_option maxHeartbeats 2000000
set_option maxRecDepth 100000

/-- a list of shapes that has grown by one at most -/
def LePre (L L' : List (List KK)) : Prop := L'.length ≤ L.length + 1 ∧ ∀ (i : Nat) ks, L[i]? = some ks → L'[i]? = some ks
theorem LePre.refl (L : List (List KK)) : LePre L L := ⟨by omega, fun _ _ h => h⟩
theorem lePre_of {L L' : List (List KK)} {T : List KK} (h : L' = L ∨ L' = L ++ [T]) : LePre L L' := by
  rcases h with rfl | rfl
  · exact LePre.refl _
  · exact ⟨by simp, fun i ks h => by rw [List.getElem?_append_left (List.getElem?_eq_some_iff.1 h).1]; exact h⟩
theorem shape_nodup {w : World} {f : Nat → Nat} {tb : Nat} {L : List (List KK)} (h : TreeO w f tb L) {s : Nat} {ks : List KK} (hs : L[s]? = some ks) : ks.Nodup := by
  obtain ⟨rv, bw, n, ents, gw, q1, q2, q3, q4, q5, q6, q7⟩ := h
  obtain ⟨e, _, ss, g, m, _, _, _, h4, _⟩ := q7 s ks hs
  exact h4
def CP (c x : Nat) : Prop := C3 x ∨ x = c
/-- Add, its answers together -/
theorem c_SAdd2 {w : World} {f : Nat → Nat} {tb : Nat} {L : List (List KK)} (hN : Norm f w) (h : TreeO w f tb L) (hL : L.length < 100000) (s : Nat) (A : List KK) (hs : L[s]? = some A) (k : KK) (hk : okK k) (hno : idx A (pk k) = none) (fl : Int) (h0 : 0 ≤ fl) (h15 : fl ≤ 15) :
    Calls Tryz.prog 112 #[.pointer (some ⟨tb, 0, none⟩), .int .i64 (s : Int), keyV k.1 k.2, .int .i64 fl] w fun e w' =>
      ∃ (t : Nat) (er : Int) (f' : Nat → Nat) (L' : List (List KK)), e = .returned (.tuple #[.int .i64 (t : Int), .int .i64 er]) ∧ (Turn C3 f f' w w' ∧ TreeO w' f' tb L' ∧ LePre L L') ∧ ((er = 2 ∧ 128 ≤ A.length) ∨ (er = 0 ∧ A.length < 128 ∧ L'[t]? = some (A ++ [pk k]))) := by
  refine (c_SAdd hN h hL s A hs k hk hno fl h0 h15).mono ?_
  rintro e w' (⟨h1, rfl, hb⟩ | ⟨h1, t, f', L', rfl, h2, h3, h4, h5⟩)
  · exact ⟨0, 2, f, L, rfl, ⟨Turn.of_below _ hN hb, h.turn (Turn.of_below (fun _ => False) hN hb) id id id id, LePre.refl _⟩, .inl ⟨rfl, h1⟩⟩
  · exact ⟨t, 0, f', L', rfl, ⟨h2, h3, lePre_of h5⟩, .inr ⟨rfl, h1, h4⟩⟩
/-- all that is not the tree's reads as in W -/
theorem exc_drew (W : World) (f : Nat → Nat) : (∀ a : Addr, a.block < W.heap.size → ¬ C3 (f a.block) → W.drew.cell? a = W.cell? a) ∧ (∀ b : Nat, b < W.heap.size → ¬ C3 (f b) → W.drew.heap[b]? = W.heap[b]?) ∧ W.heap.size ≤ W.drew.heap.size := ⟨fun _ _ _ => rfl, fun _ _ _ => rfl, Nat.le_refl _⟩
theorem exc_turn {W y : World} {f f' : Nat → Nat} (h : Turn C3 f f' W.drew y) : (∀ a : Addr, a.block < W.heap.size → ¬ C3 (f a.block) → y.cell? a = W.cell? a) ∧ (∀ b : Nat, b < W.heap.size → ¬ C3 (f b) → y.heap[b]? = W.heap[b]?) ∧ W.heap.size ≤ y.heap.size :=
  ⟨fun a ha hc => World.cell?_of_block (h.block a.block ha hc), fun b hb hc => h.block b hb hc, h.size⟩
theorem nC3 {f : Nat → Nat} {r c : Nat} (h : f r = c) (hc : 10 ≤ c) : ¬ C3 (f r) := by rw [h]; unfold C3; omega
theorem nC3_new {f : Nat → Nat} {w : World} (hN : Norm f w) {r : Nat} (h : w.heap.size ≤ r) : ¬ C3 (f r) := by rw [hN r h]; unfold C3; omega
theorem cp_of {c : Nat} {f f' : Nat → Nat} {w w' : World} (h : Turn C3 f f' w w') : Turn (CP c) f f' w w' := h.mono fun _ h => .inl h
theorem FastO.keep {C : Nat → Prop} {f f' : Nat → Nat} {w w' : World} {c fb : Nat} {L L' : List (List KK)} {ks : List KK} {ps : List PV} (h : FastO w f c fb L ks ps) (ht : Turn C f f' w w') (hc : ¬ C c) (hL : LePre L L') : FastO w' f' c fb L' ks ps := h.turn ht hc hL.2
theorem row_type {w : World} {B e size n : Nat} {v : Value} {xs : List Value} (h : w.ownsRow B e size v n xs) {r : Nat} (hr : v.ownBlock = some r) : ∃ cur, w.heap[r]? = some (.cells cur e (0, 0)) := by
  rcases h.2 with ⟨e, _⟩ | ⟨g, cap, cur, e, _, hg, _⟩
  · rw [e] at hr; cases hr
  · rw [e] at hr; injection hr with hr; subst hr; exact ⟨_, hg⟩
theorem row_not {w : World} {B e size n : Nat} {v : Value} {xs : List Value} (h : w.ownsRow B e size v n xs) {b : Nat} {cs : Array Value} {t : TypeId} {fr : Nat × Nat} (hb : w.heap[b]? = some (.cells cs t fr)) (ht : t ≠ e) : v.ownBlock ≠ some b := fun hr => by
  obtain ⟨cur, hc⟩ := row_type h hr
  rw [hb] at hc
  injection hc with hc
  injection hc with _ hc
  exact ht hc
theorem fast_push {w y2 w5 : World} {f f2 : Nat → Nat} {tb c fb gg cap t : Nat} {s : Int} {lv : Value} {L2 : List (List KK)} {ks' : List KK} {ps : List PV} {p : PV} {o : Obj}
    (hTw : Turn (CP c) f f2 w y2) (hT2 : TreeO y2 f2 tb L2) (h1 : y2.heap[fb]? = some (.cells #[.int .i64 s, lv] 102 (0, 0)) ∧ f2 fb = c) (h2 : RowO y2 f2 c 36 13 lv ps.length (flatP ps)) (hc : 10 ≤ c)
    (hs : L2[t]? = some ks') (hl : ks'.length = ps.length + 1) (hg : ((y2.setCell ⟨fb, 0, none⟩ (.int .i64 (t : Int))).alloc o).grownBy w5 lv.ownBlock) (hat : lv.ownBlock = some gg ∨ gg = y2.heap.size + 1)
    (hown : w5.ownsRow 0 36 13 (.slice (some ⟨gg, 0, none⟩) (ps.length + 1) cap) (ps.length + 1) (flatP ps ++ encP p)) :
    ∃ f', Turn (CP c) f f' w (w5.setCell ⟨fb, 1, none⟩ (.slice (some ⟨gg, 0, none⟩) (ps.length + 1) cap)) ∧ TreeO (w5.setCell ⟨fb, 1, none⟩ (.slice (some ⟨gg, 0, none⟩) (ps.length + 1) cap)) f' tb L2 ∧ FastO (w5.setCell ⟨fb, 1, none⟩ (.slice (some ⟨gg, 0, none⟩) (ps.length + 1) cap)) f' c fb L2 ks' (ps ++ [p]) := by
  have lf := heapH_lt h1.1
  have nf := row_not h2.1 h1.1 (by decide)
  have t1 : Turn (fun x => x = c) f2 f2 y2 (y2.setCell ⟨fb, 0, none⟩ (.int .i64 (t : Int))) := (Turn.refl _ hTw.norm).set fb 0 _ h1.2
  have t2 := t1.alloc o
  have t3 := t2.grown (fun _ => c) hg (fun r hr => h2.2 r hr)
  have sz : ((y2.setCell ⟨fb, 0, none⟩ (.int .i64 (t : Int))).alloc o).heap.size = y2.heap.size + 1 := by simp
  have t4 := t3.set fb 1 (.slice (some ⟨gg, 0, none⟩) (ps.length + 1) cap) (by rw [give_old (by rw [sz]; omega)]; exact h1.2)
  have t5 := t4.mono (C' := CP c) (fun x hx => .inr hx)
  have e5 : w5.heap[fb]? = some (.cells #[.int .i64 (t : Int), lv] 102 (0, 0)) := by
    rw [hg.block fb (by rw [sz]; omega) (fun e => nf e.symm), Below.heap_alloc _ _ _ (by simp; omega), heap_setCell_same y2 fb 0 _ _ _ h1.1]; rfl
  have ng : gg ≠ fb := by
    rcases hat with h | h
    · intro e; subst e; exact nf h
    · omega
  have lg := (hown.lt gg rfl).2
  refine ⟨_, hTw.trans t5, hT2.turn t4 (by omega) (by omega) (by omega) (by omega), t, .slice (some ⟨gg, 0, none⟩) (ps.length + 1) cap, ⟨?_, ?_⟩, ⟨?_, ?_⟩, hs, by simpa using hl⟩
  · rw [heap_setCell_same w5 fb 1 _ _ _ e5]; rfl
  · rw [give_old (by rw [sz]; omega)]; exact h1.2
  · have e1 : (ps ++ [p]).length = ps.length + 1 := by simp
    have e2 : flatP (ps ++ [p]) = flatP ps ++ encP p := by simp [flatP]
    rw [e1, e2]
    exact own_at hown fun r hr => by
      injection hr with hr; subst hr
      exact Below.heap_setCell _ _ _ _ ng
  · intro r hr
    injection hr with hr
    change gg = r at hr
    subst hr
    rcases hat with h | h
    · rw [give_old (by rw [sz]; have := (h2.1.lt gg h).2; omega)]; exact h2.2 gg h
    · rw [give_new (by rw [sz]; omega) lg]
/-- a property's cells in a block of its own -/
theorem cells13 {W : World} {b : Nat} {p : PV} (h : W.heap[b]? = some (.cells (encP p).toArray 36 (0, 0))) : W.cell? ⟨b, 0, none⟩ = some (.int .i64 p.v.k) ∧ W.cell? ⟨b, 1, none⟩ = some (.float .f64 p.v.x) ∧ W.cell? ⟨b, 2, none⟩ = some (.string p.v.s) ∧ W.cell? ⟨b, 3, none⟩ = some (.int .i64 p.v.r) ∧ W.cell? ⟨b, 4, none⟩ = some (.int .i64 p.g.k) ∧ W.cell? ⟨b, 5, none⟩ = some (.float .f64 p.g.x) ∧ W.cell? ⟨b, 6, none⟩ = some (.string p.g.s) ∧ W.cell? ⟨b, 7, none⟩ = some (.int .i64 p.g.r) ∧ W.cell? ⟨b, 8, none⟩ = some (.int .i64 p.t.k) ∧ W.cell? ⟨b, 9, none⟩ = some (.float .f64 p.t.x) ∧ W.cell? ⟨b, 10, none⟩ = some (.string p.t.s) ∧ W.cell? ⟨b, 11, none⟩ = some (.int .i64 p.t.r) ∧ W.cell? ⟨b, 12, none⟩ = some (.int .i64 p.fl) := by
  refine ⟨?_, ?_, ?_, ?_, ?_, ?_, ?_, ?_, ?_, ?_, ?_, ?_, ?_⟩ <;> (rw [cell_of_row _ b _ _ _ _ h]; rfl)
theorem load_whole {b : Nat} {W : World} {C : List Value} (h : W.heap[b]? = some (.cells C.toArray 36 (0, 0))) (hl : C.length = 13) (y : World) (hy : y.heap[b]? = W.heap[b]?) : (Instr.loadAt 36 (.pointer (some ⟨b, 0, none⟩))).run Tryz.prog y = .ok (.agg C.toArray) y :=
  run_loadAt_mid y b 0 36 C _ (fun j v hv => by rw [cell_of_row _ b (0 + j) _ _ _ (hy.trans h)]; simpa using hv) Tryz.underlying36 rfl (by rw [hl]; exact infoProp)
end Go.Proofs.YtoccmiinkfhohaaGreat
namespace Go.Proofs.YtoccmiinkfhohaaGreat
open Go.RowKit Go.Shelf Go.Lib Go.Sort Go.Proofs Go.Maps
set_option maxHeartbeats 2000000
set_option maxRecDepth 100000

/-- what a fast object makes of a property -/
def PutF (w : World) (f : Nat → Nat) (tb c fb : Nat) (L : List (List KK)) (ks : List KK) (ps : List PV) (K : KK) (p : PV) (b : Bool) (w' : World) : Prop :=
  ∃ (f' : Nat → Nat) (L' : List (List KK)) (ks' : List KK) (ps' : List PV), (Turn (CP c) f f' w w' ∧ TreeO w' f' tb L' ∧ LePre L L') ∧ FastO w' f' c fb L' ks' ps' ∧
    (b = false → ks' = ks ∧ ps' = ps ∧ idx ks K = none ∧ 128 ≤ ks.length) ∧
    (b = true → (∃ i, idx ks K = some i ∧ ks' = ks ∧ ps' = ps.set i p) ∨ (idx ks K = none ∧ ks.length < 128 ∧ ks' = ks ++ [K] ∧ ps' = ps ++ [p]))
theorem infoPropF : (Tryz.prog.info? 36).map (fun i => (i.zero, i.size, i.bytes)) = some (some (propV zeroPV), 13, 128) := by kernel_rfl
theorem c_FAputN {w : World} {f : Nat → Nat} {tb c fb : Nat} {L : List (List KK)} {ks : List KK} {ps : List PV} (hN : Norm f w) (hT : TreeO w f tb L) (hL : L.length < 100000) (h : FastO w f c fb L ks ps) (hc : 10 ≤ c) (k : KK) (hk : okK k) (p : PV) (hno : idx ks (pk k) = none) (h0 : 0 ≤ p.fl) (h15 : p.fl ≤ 15) :
    Calls Tryz.prog 109 #[.pointer (some ⟨fb, 0, none⟩), .pointer (some ⟨tb, 0, none⟩), keyV k.1 k.2, propV p] w fun e w' => ∃ b, e = .returned (.bool b) ∧ PutF w f tb c fb L ks ps (pk k) p b w' := by
  obtain ⟨s, lv, h1, h2, h3, h4⟩ := h
  unfold keyV propV
  obtain ⟨k0, kn⟩ := k
  dsimp only
  obtain ⟨W2, hW2⟩ : ∃ W2, (w.alloc (.cells #[.string k0, .int .i64 kn] 31)).alloc (.cells (encP p).toArray 36) = W2 := ⟨_, rfl⟩
  have hb2 : Below w.heap.size w W2 := by rw [← hW2]; exact ((Below.refl _ w).alloc (Nat.le_refl _) _).alloc (by simp) _
  have hs2 : W2.heap.size = w.heap.size + 2 := by rw [← hW2]; simp
  have d0 : W2.heap[w.heap.size]? = some (.cells #[.string k0, .int .i64 kn] 31 (0, 0)) := by rw [← hW2, Below.heap_alloc _ _ _ (by simp)]; exact heap_alloc_new w _
  have z0 : W2.heap[w.heap.size + 1]? = some (.cells (encP p).toArray 36 (0, 0)) := by rw [← hW2]; exact heap_alloc2_new w _ _
  have kc0 : W2.cell? ⟨w.heap.size, 0, none⟩ = some (.string k0) := by rw [cell_of_row _ _ 0 _ _ _ d0]; rfl
  have kc1 : W2.cell? ⟨w.heap.size, 1, none⟩ = some (.int .i64 kn) := by rw [cell_of_row _ _ 1 _ _ _ d0]; rfl
  have lf := heapH_lt h1.1
  have c0 : W2.cell? ⟨fb, 0, none⟩ = some (.int .i64 (s : Int)) := by rw [hb2.cell (p := ⟨fb, 0, none⟩) lf, cell_of_row _ _ 0 _ _ _ h1.1]; rfl
  have hC := fun (y : World) (hy : Below W2.heap.size W2 y) => c_SFind (w := y) (f := f) (fun r hr => hN r (Nat.le_trans hb2.size (Nat.le_trans hy.size hr))) (hT.turn (Turn.of_below (fun _ => False) hN (hb2.trans (hy.mono hb2.size))) id id id id) s ks h3 (k0, kn) hk
  have hA := fun (y : World) (hy : Below W2.heap.size W2 y) => c_SAdd2 (w := y) (f := f) (fun r hr => hN r (Nat.le_trans hb2.size (Nat.le_trans hy.size hr))) (hT.turn (Turn.of_below (fun _ => False) hN (hb2.trans (hy.mono hb2.size))) id id id id) hL s ks h3 (k0, kn) hk hno p.fl h0 h15
  unfold keyV at hC hA
  have t1 : w.heap.size < W2.heap.size := by omega
  have t2 : fb < W2.heap.size := by omega
  have t3 : w.heap.size + 1 < W2.heap.size := by omega
  replace hC := Lib.hid hC
  replace hA := Lib.hid hA
  replace hs2 := Lib.hid hs2
  replace h1 := Lib.hid h1
  replace h4 := Lib.hid h4
  replace h2 := Lib.hid h2
  replace hno := Lib.hid hno
  replace z0 := Lib.hid z0
  replace d0 := Lib.hid d0
  replace hN := Lib.hid hN
  have h3' := Lib.hid h3
  clear hT h3 hk h0 h15 hL
  go_enter Tryz.func109, Tryz.ntmps109
  go_wp2_with fail
  go_region_held3 (fun y => (∀ a : Addr, a.block < W2.heap.size → y.cell? a = W2.cell? a) ∧ (∀ b : Nat, b < W2.heap.size → y.heap[b]? = W2.heap[b]?) ∧ Below W2.heap.size W2 y) (first | assumption | exact onto_drew W2 | exact onto_below (by assumption) (by assumption)) (first | (go_at_call 111; refine (hC.out _ (And.right (And.right (by assumption)))).mono ?_; rintro e y' ⟨hb, hr⟩; replace hr := own_form hr; obtain ⟨z, fl, bo, rfl, hr⟩ := hr))
  have hO := onto_below (onto_drew W2) hb
  obtain ⟨_, rfl⟩ : idx ks (pk (k0, kn)) = none ∧ bo = false := by
    rcases hr with ⟨i, hi, _⟩ | hr
    · rw [hno.out] at hi; cases hi
    · exact hr
  rw [← hO.1 ⟨w.heap.size, 0, none⟩ t1] at kc0
  rw [← hO.1 ⟨w.heap.size, 1, none⟩ t1] at kc1
  rw [← hO.1 ⟨fb, 0, none⟩ t2] at c0
  have z1 : y'.heap[w.heap.size + 1]? = some (.cells (encP p).toArray 36 (0, 0)) := (hO.2.1 _ t3).trans z0.out
  have zc : y'.cell? ⟨w.heap.size + 1, 12, none⟩ = some (.int .i64 p.fl) := by rw [cell_of_row _ _ 12 _ _ _ z1]; rfl
  have hA' := Lib.hid (hA.out y'.drew hO.2.2.drew)
  have hbw := Lib.hid (hb2.trans (hO.2.2.mono hb2.size))
  have g1 : w.heap.size < y'.heap.size := Nat.lt_of_lt_of_le t1 hO.2.2.size
  have g2 : fb < y'.heap.size := Nat.lt_of_lt_of_le t2 hO.2.2.size
  have g3 : w.heap.size + 1 < y'.heap.size := Nat.lt_of_lt_of_le t3 hO.2.2.size
  have n1 : ¬ C3 (f w.heap.size) := nC3_new hN.out (Nat.le_refl _)
  have n2 : ¬ C3 (f fb) := nC3 h1.out.2 hc
  have n3 : ¬ C3 (f (w.heap.size + 1)) := nC3_new hN.out (Nat.le_succ _)
  have hst := exc_drew y' f
  replace z1 := Lib.hid z1
  replace hb2 := Lib.hid hb2
  clear hO hb hr hW2 t1 t2 t3 hA
  go_wp2_with fail
  go_region_held3 (fun y => (∀ a : Addr, a.block < y'.heap.size → ¬ C3 (f a.block) → y.cell? a = y'.cell? a) ∧ (∀ b : Nat, b < y'.heap.size → ¬ C3 (f b) → y.heap[b]? = y'.heap[b]?) ∧ y'.heap.size ≤ y.heap.size) (first | assumption | exact hst | exact exc_turn (by assumption)) (first | (go_at_call 112; refine hA'.out.mono ?_; rintro e y2 ⟨t, er, f2, L2, rfl, hX, hY⟩; have hTu := hX.1))
  have hE := exc_turn hX.1
  have hTw : Turn C3 f f2 w y2 := (Turn.of_below C3 hN.out hbw.out.drew).trans hX.1
  rcases hY with ⟨rfl, hbig⟩ | ⟨rfl, hsm, hLt⟩
  · replace hE := Lib.hid hE
    clear hTu hst
    go_wp2
    go_ret
    refine ⟨false, rfl, f2, L2, ks, ps, ⟨cp_of hTw, hX.2.1, hX.2.2⟩, FastO.keep ⟨s, lv, h1.out, h2.out, h3'.out, h4.out⟩ hTw (by unfold C3; omega) hX.2.2, fun _ => ⟨rfl, rfl, hno.out, hbig⟩, fun h => by cases h⟩
  · have hTc := cp_of (c := c) hTw
    have e1 : y2.heap[fb]? = some (.cells #[.int .i64 (s : Int), lv] 102 (0, 0)) ∧ f2 fb = c := blk_turn h1.out hTw (by unfold C3; omega)
    have e2 := h2.out.turn hTw (by unfold C3; omega)
    have c0' : y2.cell? ⟨fb, 0, none⟩ = some (.int .i64 (s : Int)) := by rw [cell_of_row _ _ 0 _ _ _ e1.1]; rfl
    have f0' : y2.frozen? ⟨fb, 0, none⟩ = false := by simp [World.frozen?, e1.1]
    have z2 : y2.heap[w.heap.size + 1]? = some (.cells (encP p).toArray 36 (0, 0)) := (hE.2.1 _ g3 n3).trans z1.out
    obtain ⟨W3, hW3⟩ : ∃ W3, y2.setCell ⟨fb, 0, none⟩ (.int .i64 (t : Int)) = W3 := ⟨_, rfl⟩
    have hne : fb ≠ w.heap.size + 1 := by omega
    have s3 : W3.heap.size = y2.heap.size := by rw [← hW3]; simp [World.setCell]
    have z3 : W3.heap[w.heap.size + 1]? = some (.cells (encP p).toArray 36 (0, 0)) := by rw [← hW3, Below.heap_setCell _ _ _ _ hne.symm]; exact z2
    have b3 : W3.heap[fb]? = some (.cells #[.int .i64 (t : Int), lv] 102 (0, 0)) := by rw [← hW3, heap_setCell_same y2 fb 0 _ _ _ e1.1]; rfl
    have c1 : W3.cell? ⟨fb, 1, none⟩ = some lv := by rw [cell_of_row _ _ 1 _ _ _ b3]; rfl
    have f1 : W3.frozen? ⟨fb, 1, none⟩ = false := by simp [World.frozen?, b3]
    obtain ⟨v0, v1, v2, v3, v4, v5, v6, v7, v8, v9, v10, v11, v12⟩ := cells13 z3
    have nf := row_not e2.1 e1.1 (by decide)
    have hrow : W3.ownsRow 0 36 13 lv ps.length (flatP ps) := by rw [← hW3]; exact own_at e2.1 fun r hr => Below.heap_setCell _ _ _ _ (fun e => nf ((show r = fb from e) ▸ hr))
    obtain ⟨i0, hi0, hz0, hz1, hz2⟩ := info_parts infoPropF
    have hm1 : ps.length + 1 ≤ maxLen ∧ (ps.length + 1) * 128 ≤ 140737488355328 := by have := h4.out; unfold maxLen; omega
    have lf3 := heapH_lt b3
    replace hm1 := Lib.hid hm1
    replace hE := Lib.hid hE
    replace e1 := Lib.hid e1
    replace e2 := Lib.hid e2
    replace z2 := Lib.hid z2
    replace z3 := Lib.hid z3
    replace b3 := Lib.hid b3
    replace s3 := Lib.hid s3
    replace hrow := Lib.hid hrow
    replace nf := Lib.hid nf
    clear hTu hst n1 n2 n3 kc0 kc1 zc c0
    go_wp2_with fail
    refine wp_region_noPanic ?_
    go_region_law (first | (refine step_append_lies _ rfl _ _ _ rfl 0 36 i0 _ 13 128 Tryz.underlying100 hi0 hz0 hz1 hz2 rfl (by omega) lv ps.length (flatP ps) rfl ((hrow.out.alloc _).drew) ⟨W3.heap.size, 0, none⟩ 1 1 (encP p) rfl rfl (World.news_of_block (cs := (encP p).toArray) (t := 36) (fr := (0, 0)) (by exact heap_alloc_new W3 _)) (encP_one p) (by omega) hm1.out.1 hm1.out.2 (by simp) (W3.heap.size + 1) (by simp) ?_; intro gg cap w5 hown5 hg5 hat5 hlt5; obtain ⟨hc5, hf5⟩ := tb_after c1 f1 lf3 nf.out hg5))
    all_goals
      refine NoPanic.normal ?_
      have hlt := h4.out
      obtain ⟨f', r1, r2, r3⟩ := fast_push (p := p) hTc hX.2.1 e1.out e2.out hc hLt (by simp; omega) (by rw [hW3]; exact grown_undrew hg5) (by rw [← s3.out]; exact hat5) hown5
      generalize w5.setCell ⟨fb, 1, none⟩ (.slice (some ⟨gg, 0, none⟩) (ps.length + 1) cap) = w6 at *
      replace r1 := Lib.hid r1
      replace r2 := Lib.hid r2
      replace r3 := Lib.hid r3
      clear hlt v0 v1 v2 v3 v4 v5 v6 v7 v8 v9 v10 v11 v12 c0' f0' hc5 hf5 hg5 hown5 c1 f1 hW3
      go_wp2
      go_ret
      exact ⟨true, rfl, f', L2, _, _, ⟨r1.out, r2.out, hX.2.2⟩, r3.out, fun h => (by cases h), fun _ => .inr ⟨hno.out, hsm, rfl, rfl⟩⟩
end Go.Proofs.YtoccmiinkfhohaaGreat
namespace Go.Proofs.YtoccmiinkfhohaaGreat
open Go.RowKit Go.Shelf Go.Lib Go.Sort Go.Proofs Go.Maps
set_option maxHeartbeats 2000000
set_option maxRecDepth 100000

/-- a property's cells in the midst of a row -/
theorem range13 {W : World} {g o : Nat} {p : PV} (h : W.rangeAt g o (encP p)) : W.cell? ⟨g, o, none⟩ = some (.int .i64 p.v.k) ∧ W.cell? ⟨g, o + 1, none⟩ = some (.float .f64 p.v.x) ∧ W.cell? ⟨g, o + 2, none⟩ = some (.string p.v.s) ∧ W.cell? ⟨g, o + 3, none⟩ = some (.int .i64 p.v.r) ∧ W.cell? ⟨g, o + 4, none⟩ = some (.int .i64 p.g.k) ∧ W.cell? ⟨g, o + 5, none⟩ = some (.float .f64 p.g.x) ∧ W.cell? ⟨g, o + 6, none⟩ = some (.string p.g.s) ∧ W.cell? ⟨g, o + 7, none⟩ = some (.int .i64 p.g.r) ∧ W.cell? ⟨g, o + 8, none⟩ = some (.int .i64 p.t.k) ∧ W.cell? ⟨g, o + 9, none⟩ = some (.float .f64 p.t.x) ∧ W.cell? ⟨g, o + 10, none⟩ = some (.string p.t.s) ∧ W.cell? ⟨g, o + 11, none⟩ = some (.int .i64 p.t.r) ∧ W.cell? ⟨g, o + 12, none⟩ = some (.int .i64 p.fl) := ⟨h 0 _ rfl, h 1 _ rfl, h 2 _ rfl, h 3 _ rfl, h 4 _ rfl, h 5 _ rfl, h 6 _ rfl, h 7 _ rfl, h 8 _ rfl, h 9 _ rfl, h 10 _ rfl, h 11 _ rfl, h 12 _ rfl⟩
theorem Turn.setC {C : Nat → Prop} {f f' : Nat → Nat} {w : World} {b : Nat} : ∀ (vs : List Value) (o : Nat) {w' : World}, Turn C f f' w w' → C (f' b) → Turn C f f' w (w'.setCells b o vs)
  | [], _, _, h, _ => h
  | v :: vs, o, _, h, hb => by rw [World.setCells]; exact Turn.setC vs (o + 1) (h.set b o v hb) hb
theorem Turn.drew {C : Nat → Prop} {f f' : Nat → Nat} {w w' : World} (h : Turn C f f' w w') : Turn C f f' w w'.drew := h.then ((Below.refl _ w').drew)
theorem fast_set {w y2 : World} {f f2 : Nat → Nat} {tb c fb g cap t i : Nat} {s : Int} {L2 : List (List KK)} {ks : List KK} {ps : List PV} {p : PV} (vs : List Value) (hv : encP p = vs)
    (hTw : Turn (CP c) f f2 w y2) (hT2 : TreeO y2 f2 tb L2) (h1 : y2.heap[fb]? = some (.cells #[.int .i64 s, .slice (some ⟨g, 0, none⟩) ps.length cap] 102 (0, 0)) ∧ f2 fb = c) (h2 : RowO y2 f2 c 36 13 (.slice (some ⟨g, 0, none⟩) ps.length cap) ps.length (flatP ps)) (hc : 10 ≤ c)
    (hs : L2[t]? = some ks) (hl : ks.length = ps.length) (hi : i < ps.length) :
    Turn (CP c) f f2 w ((y2.setCell ⟨fb, 0, none⟩ (.int .i64 (t : Int))).setCells g (i * 13) vs).drew ∧ TreeO ((y2.setCell ⟨fb, 0, none⟩ (.int .i64 (t : Int))).setCells g (i * 13) vs).drew f2 tb L2 ∧ FastO ((y2.setCell ⟨fb, 0, none⟩ (.int .i64 (t : Int))).setCells g (i * 13) vs).drew f2 c fb L2 ks (ps.set i p) := by
  have ng : fb ≠ g := fun e => row_not h2.1 h1.1 (by decide) (congrArg some e.symm)
  have t1 : Turn (fun x => x = c) f2 f2 y2 (y2.setCell ⟨fb, 0, none⟩ (.int .i64 (t : Int))) := (Turn.refl _ hTw.norm).set fb 0 _ h1.2
  have t2 := (Turn.setC (b := g) vs (i * 13) t1 (h2.2 g rfl)).drew
  refine ⟨hTw.trans (t2.mono (fun x hx => .inr hx)), hT2.turn t2 (by omega) (by omega) (by omega) (by omega), t, .slice (some ⟨g, 0, none⟩) ps.length cap, ⟨?_, h1.2⟩, ⟨?_, h2.2⟩, hs, by simpa using hl⟩
  · show ((y2.setCell ⟨fb, 0, none⟩ (.int .i64 (t : Int))).setCells g (i * 13) vs).heap[fb]? = _
    rw [heap_setCells_ne _ _ _ ng, heap_setCell_same y2 fb 0 _ _ _ h1.1]; rfl
  · have e1 : (ps.set i p).length = ps.length := by simp
    rw [e1, show flatP (ps.set i p) = setL (flatP ps) (i * 13) vs from by rw [← hv]; exact (fm_setL (k := 13) (fun _ => rfl) hi).symm]
    have r1 : (y2.setCell ⟨fb, 0, none⟩ (.int .i64 (t : Int))).ownsRow 0 36 13 (.slice (some ⟨g, 0, none⟩) ps.length cap) ps.length (flatP ps) := own_at h2.1 fun r hr => Below.heap_setCell _ _ _ _ (fun e => ng ((Option.some.inj hr).trans e).symm)
    exact own_at (row_setL vs (i * 13) _ _ r1) fun r _ => rfl
theorem c_FAputS {w : World} {f : Nat → Nat} {tb c fb : Nat} {L : List (List KK)} {ks : List KK} {ps : List PV} (hN : Norm f w) (hT : TreeO w f tb L) (hL : L.length < 100000) (h : FastO w f c fb L ks ps) (hc : 10 ≤ c) (k : KK) (hk : okK k) (p : PV) (i : Nat) (hno : idx ks (pk k) = some i) (hks : ks.length ≤ 1000) (h0 : 0 ≤ p.fl) (h15 : p.fl ≤ 15) :
    Calls Tryz.prog 109 #[.pointer (some ⟨fb, 0, none⟩), .pointer (some ⟨tb, 0, none⟩), keyV k.1 k.2, propV p] w fun e w' => ∃ b, e = .returned (.bool b) ∧ PutF w f tb c fb L ks ps (pk k) p b w' := by
  obtain ⟨s, lv, h1, h2, h3, h4⟩ := h
  unfold keyV propV
  obtain ⟨k0, kn⟩ := k
  dsimp only
  obtain ⟨W2, hW2⟩ : ∃ W2, (w.alloc (.cells #[.string k0, .int .i64 kn] 31)).alloc (.cells (encP p).toArray 36) = W2 := ⟨_, rfl⟩
  have hb2 : Below w.heap.size w W2 := by rw [← hW2]; exact ((Below.refl _ w).alloc (Nat.le_refl _) _).alloc (by simp) _
  have hs2 : W2.heap.size = w.heap.size + 2 := by rw [← hW2]; simp
  have d0 : W2.heap[w.heap.size]? = some (.cells #[.string k0, .int .i64 kn] 31 (0, 0)) := by rw [← hW2, Below.heap_alloc _ _ _ (by simp)]; exact heap_alloc_new w _
  have z0 : W2.heap[w.heap.size + 1]? = some (.cells (encP p).toArray 36 (0, 0)) := by rw [← hW2]; exact heap_alloc2_new w _ _
  have kc0 : W2.cell? ⟨w.heap.size, 0, none⟩ = some (.string k0) := by rw [cell_of_row _ _ 0 _ _ _ d0]; rfl
  have kc1 : W2.cell? ⟨w.heap.size, 1, none⟩ = some (.int .i64 kn) := by rw [cell_of_row _ _ 1 _ _ _ d0]; rfl
  have lf := heapH_lt h1.1
  have c0 : W2.cell? ⟨fb, 0, none⟩ = some (.int .i64 (s : Int)) := by rw [hb2.cell (p := ⟨fb, 0, none⟩) lf, cell_of_row _ _ 0 _ _ _ h1.1]; rfl
  have hC := fun (y : World) (hy : Below W2.heap.size W2 y) => c_SFind (w := y) (f := f) (fun r hr => hN r (Nat.le_trans hb2.size (Nat.le_trans hy.size hr))) (hT.turn (Turn.of_below (fun _ => False) hN (hb2.trans (hy.mono hb2.size))) id id id id) s ks h3 (k0, kn) hk
  have hA := fun (y : World) (hy : Below W2.heap.size W2 y) => c_SChange (w := y) (f := f) (fun r hr => hN r (Nat.le_trans hb2.size (Nat.le_trans hy.size hr))) (hT.turn (Turn.of_below (fun _ => False) hN (hb2.trans (hy.mono hb2.size))) id id id id) hL s ks h3 hks (k0, kn) hk i hno p.fl h0 h15
  unfold keyV at hC hA
  have t1 : w.heap.size < W2.heap.size := by omega
  have t2 : fb < W2.heap.size := by omega
  have t3 : w.heap.size + 1 < W2.heap.size := by omega
  replace hC := Lib.hid hC
  replace hA := Lib.hid hA
  replace hs2 := Lib.hid hs2
  replace h1 := Lib.hid h1
  replace h4 := Lib.hid h4
  replace h2 := Lib.hid h2
  replace hno := Lib.hid hno
  replace z0 := Lib.hid z0
  replace d0 := Lib.hid d0
  replace hN := Lib.hid hN
  have h3' := Lib.hid h3
  clear hT h3 hk h0 h15 hL
  go_enter Tryz.func109, Tryz.ntmps109
  go_wp2_with fail
  go_region_held3 (fun y => (∀ a : Addr, a.block < W2.heap.size → y.cell? a = W2.cell? a) ∧ (∀ b : Nat, b < W2.heap.size → y.heap[b]? = W2.heap[b]?) ∧ Below W2.heap.size W2 y) (first | assumption | exact onto_drew W2 | exact onto_below (by assumption) (by assumption)) (first | (go_at_call 111; refine (hC.out _ (And.right (And.right (by assumption)))).mono ?_; rintro e y' ⟨hb, hr⟩; replace hr := own_form hr; obtain ⟨z, fl, bo, rfl, hr⟩ := hr))
  have hO := onto_below (onto_drew W2) hb
  obtain ⟨rfl, rfl⟩ : z = (i : Int) ∧ bo = true := by
    rcases hr with ⟨j, hj, h1, h2⟩ | ⟨hr, _⟩
    · rw [hno.out] at hj; cases hj; exact ⟨h1, h2⟩
    · rw [hno.out] at hr; cases hr
  rw [← hO.1 ⟨w.heap.size, 0, none⟩ t1] at kc0
  rw [← hO.1 ⟨w.heap.size, 1, none⟩ t1] at kc1
  rw [← hO.1 ⟨fb, 0, none⟩ t2] at c0
  have z1 : y'.heap[w.heap.size + 1]? = some (.cells (encP p).toArray 36 (0, 0)) := (hO.2.1 _ t3).trans z0.out
  have zc : y'.cell? ⟨w.heap.size + 1, 12, none⟩ = some (.int .i64 p.fl) := by rw [cell_of_row _ _ 12 _ _ _ z1]; rfl
  have hA' := Lib.hid (hA.out y'.drew hO.2.2.drew)
  have hbw := Lib.hid (hb2.trans (hO.2.2.mono hb2.size))
  have g1 : w.heap.size < y'.heap.size := Nat.lt_of_lt_of_le t1 hO.2.2.size
  have g2 : fb < y'.heap.size := Nat.lt_of_lt_of_le t2 hO.2.2.size
  have g3 : w.heap.size + 1 < y'.heap.size := Nat.lt_of_lt_of_le t3 hO.2.2.size
  have n1 : ¬ C3 (f w.heap.size) := nC3_new hN.out (Nat.le_refl _)
  have n2 : ¬ C3 (f fb) := nC3 h1.out.2 hc
  have n3 : ¬ C3 (f (w.heap.size + 1)) := nC3_new hN.out (Nat.le_succ _)
  have hst := exc_drew y' f
  replace z1 := Lib.hid z1
  replace hb2 := Lib.hid hb2
  clear hO hb hr hW2 t1 t2 t3 hA
  go_wp2_with fail
  go_region_held3 (fun y => (∀ a : Addr, a.block < y'.heap.size → ¬ C3 (f a.block) → y.cell? a = y'.cell? a) ∧ (∀ b : Nat, b < y'.heap.size → ¬ C3 (f b) → y.heap[b]? = y'.heap[b]?) ∧ y'.heap.size ≤ y.heap.size) (first | assumption | exact hst | exact exc_turn (by assumption)) (first | (go_at_call 113; refine hA'.out.mono ?_; rintro e y2 ⟨t, f2, L2, rfl, hX, hT2, hLt, hLL⟩; have hTu := hX))
  have hE := exc_turn hX
  have hTw : Turn C3 f f2 w y2 := (Turn.of_below C3 hN.out hbw.out.drew).trans hX
  have hTc := cp_of (c := c) hTw
  have e1 : y2.heap[fb]? = some (.cells #[.int .i64 (s : Int), lv] 102 (0, 0)) ∧ f2 fb = c := blk_turn h1.out hTw (by unfold C3; omega)
  have e2 := h2.out.turn hTw (by unfold C3; omega)
  have c0' : y2.cell? ⟨fb, 0, none⟩ = some (.int .i64 (s : Int)) := by rw [cell_of_row _ _ 0 _ _ _ e1.1]; rfl
  have f0' : y2.frozen? ⟨fb, 0, none⟩ = false := by simp [World.frozen?, e1.1]
  have z2 : y2.heap[w.heap.size + 1]? = some (.cells (encP p).toArray 36 (0, 0)) := (hE.2.1 _ g3 n3).trans z1.out
  obtain ⟨W3, hW3⟩ : ∃ W3, y2.setCell ⟨fb, 0, none⟩ (.int .i64 (t : Int)) = W3 := ⟨_, rfl⟩
  have hne : fb ≠ w.heap.size + 1 := by omega
  have z3 : W3.heap[w.heap.size + 1]? = some (.cells (encP p).toArray 36 (0, 0)) := by rw [← hW3, Below.heap_setCell _ _ _ _ hne.symm]; exact z2
  have b3 : W3.heap[fb]? = some (.cells #[.int .i64 (t : Int), lv] 102 (0, 0)) := by rw [← hW3, heap_setCell_same y2 fb 0 _ _ _ e1.1]; rfl
  have hil : i < ps.length := by rw [← h4.out]; exact idx_lt hno.out
  obtain ⟨q, hq⟩ : ∃ q, ps[i]? = some q := ⟨_, List.getElem?_eq_getElem hil⟩
  have nf := row_not e2.1 e1.1 (by decide)
  obtain ⟨g, cap, rfl, k1, k2⟩ := e2.1.form (by omega)
  have c1 : W3.cell? ⟨fb, 1, none⟩ = some (.slice (some ⟨g, 0, none⟩) ps.length cap) := by rw [cell_of_row _ _ 1 _ _ _ b3]; rfl
  obtain ⟨v0, v1, v2, v3, v4, v5, v6, v7, v8, v9, v10, v11, v12⟩ := cells13 z3
  obtain ⟨u0, u1, u2, u3, u4, u5, u6, u7, u8, u9, u10, u11, u12⟩ := range13 (p := q) (range_at (range_of e2.1 hq) (show W3.heap[g]? = y2.heap[g]? by rw [← hW3]; exact Below.heap_setCell _ _ _ _ (fun e => nf (congrArg some (show g = fb from e)))))
  obtain ⟨cur, hcur⟩ := row_type e2.1 (r := g) rfl
  have fz : ∀ o, W3.frozen? ⟨g, o, none⟩ = false := fun o => by
    have : W3.heap[g]? = some (.cells cur 36 (0, 0)) := by rw [← hW3, Below.heap_setCell _ _ _ _ (fun e => nf (congrArg some (show g = fb from e)))]; exact hcur
    simp [World.frozen?, this]
  have p3 : (0 : Int) ≤ (i : Int) := by omega
  have p4 : (i : Int) < (ps.length : Int) := by omega
  replace hE := Lib.hid hE
  replace e1 := Lib.hid e1
  replace e2 := Lib.hid e2
  replace z2 := Lib.hid z2
  replace z3 := Lib.hid z3
  replace b3 := Lib.hid b3
  replace nf := Lib.hid nf
  replace hq := Lib.hid hq
  replace hcur := Lib.hid hcur
  clear hTu hst n1 n2 n3 kc0 kc1 zc c0
  go_wp2_with fail
  have rsf := fun (w : World) (a : Addr) (x : Nat) => run_store Tryz.prog w a (.float .f64 x) .plain rfl
  refine wp_region_noPanic ?_
  go_region_law (fail)
  all_goals
    refine NoPanic.normal ?_
    obtain ⟨r1, r2, r3⟩ := fast_set (p := p) _ rfl hTc hT2 e1.out e2.out hc hLt h4.out hil
    rw [hW3] at r1 r2 r3
    generalize hw6 : World.drew _ = w6
    have hw7 : (W3.setCells g (i * 13) (encP p)).drew = w6 := hw6
    rw [hw7] at r1 r2 r3
    replace r1 := Lib.hid r1
    replace r2 := Lib.hid r2
    replace r3 := Lib.hid r3
    clear hw6 hw7 v0 v1 v2 v3 v4 v5 v6 v7 v8 v9 v10 v11 v12 u0 u1 u2 u3 u4 u5 u6 u7 u8 u9 u10 u11 u12 c0' f0' c1 hW3 rsf fz
    go_wp2
    go_ret
    exact ⟨true, rfl, f2, L2, _, _, ⟨r1.out, r2.out, lePre_of hLL⟩, r3.out, fun h => (by cases h), fun _ => .inl ⟨i, hno.out, rfl, rfl⟩⟩
end Go.Proofs.YtoccmiinkfhohaaGreat
namespace Go.Proofs.YtoccmiinkfhohaaGreat
open Go.RowKit Go.Shelf Go.Lib Go.Sort Go.Proofs Go.Maps
set_option maxHeartbeats 2000000
set_option maxRecDepth 100000

theorem c_FAput {w : World} {f : Nat → Nat} {tb c fb : Nat} {L : List (List KK)} {ks : List KK} {ps : List PV} (hN : Norm f w) (hT : TreeO w f tb L) (hL : L.length < 100000) (h : FastO w f c fb L ks ps) (hks : ks.length ≤ 1000) (hc : 10 ≤ c) (k : KK) (hk : okK k) (p : PV) (h0 : 0 ≤ p.fl) (h15 : p.fl ≤ 15) :
    Calls Tryz.prog 109 #[.pointer (some ⟨fb, 0, none⟩), .pointer (some ⟨tb, 0, none⟩), keyV k.1 k.2, propV p] w fun e w' => ∃ b, e = .returned (.bool b) ∧ PutF w f tb c fb L ks ps (pk k) p b w' := by
  cases hi : idx ks (pk k) with
  | none => exact c_FAputN hN hT hL h hc k hk p hi h0 h15
  | some i => exact c_FAputS hN hT hL h hc k hk p i hi hks h0 h15
theorem c_FAkeys {w : World} {f : Nat → Nat} {tb c fb : Nat} {L : List (List KK)} {ks : List KK} {ps : List PV} (hN : Norm f w) (hT : TreeO w f tb L) (h : FastO w f c fb L ks ps) (hks : ks.length ≤ 1000) :
    Calls Tryz.prog 45 #[.pointer (some ⟨fb, 0, none⟩), .pointer (some ⟨tb, 0, none⟩)] w fun e w' => ∃ (v : Value) (l : List KK), e = .returned v ∧ RdK w' v l ∧ l.map pk = ks ∧ (∀ x ∈ l, okK x) ∧ Below w.heap.size w w' := by
  obtain ⟨s, lv, h1, h2, h3, h4⟩ := h
  have c0 : w.cell? ⟨fb, 0, none⟩ = some (.int .i64 (s : Int)) := by rw [cell_of_row _ _ 0 _ _ _ h1.1]; rfl
  have hK := Lib.hid (c_SKeys hN hT s ks h3 hks)
  clear h1 h2 h3 h4 hN hT hks
  go_enter Tryz.func45, Tryz.ntmps45
  go_wp2_with (go_at_call 56; refine hK.out.mono ?_; rintro e w1 ⟨v, l, rfl, h1, h2, h3, h4⟩; replace h1 := Lib.hid h1; replace h2 := Lib.hid h2; replace h3 := Lib.hid h3; replace h4 := Lib.hid h4)
  go_ret
  exact ⟨v, l, rfl, h1.out, h2.out, h3.out, h4.out⟩
/-- an entry of a dictionary -/
structure EN where
  k : KK
  p : PV
  gone : Bool
def encN (e : EN) : List Value := [.string e.k.1, .int .i64 e.k.2] ++ encP e.p ++ [.bool e.gone]
def flatN (l : List EN) : List Value := l.flatMap encN
theorem flatN_len (l : List EN) : (flatN l).length = l.length * 16 := fm_len (k := 16) (fun _ => rfl) l
theorem flatN_get {l : List EN} {i : Nat} {e : EN} (h : l[i]? = some e) {j : Nat} {v : Value} (hj : (encN e)[j]? = some v) : (flatN l)[i * 16 + j]? = some v := fm_get (enc := encN) (k := 16) (fun _ => rfl) h hj
theorem encN_one (e : EN) : ∀ u ∈ encN e, u.oneCell' = true := by simp [encN, encP, Value.oneCell']
/-- where a key stands, among those that are not gone -/
def lidx : List EN → KK → Option Nat
  | [], _ => none
  | e :: l, x => if e.gone = false ∧ pk e.k = x then some 0 else (lidx l x).map (· + 1)
/-- what a dictionary tells -/
def live (l : List EN) : List (KK × PV) := l.filterMap fun e => if e.gone then none else some (pk e.k, e.p)
def gk (l : List (KK × PV)) : List KK := l.map Prod.fst
theorem live_cons (e : EN) (l : List EN) : live (e :: l) = (if e.gone then [] else [(pk e.k, e.p)]) ++ live l := by
  unfold live
  cases h : e.gone <;> simp [h]
theorem live_app (a b : List EN) : live (a ++ b) = live a ++ live b := by simp [live]
theorem lidx_none {l : List EN} {x : KK} : lidx l x = none ↔ idx (gk (live l)) x = none := by
  induction l with
  | nil => simp [lidx, live, gk, idx]
  | cons e l ih =>
    rw [live_cons]
    cases h : e.gone
    · by_cases hx : pk e.k = x
      · simp [lidx, h, hx, gk, idx]
      · simpa [lidx, h, hx, gk, idx] using ih
    · simpa [lidx, h] using ih
theorem lidx_some {l : List EN} {x : KK} : ∀ {i : Nat}, lidx l x = some i → ∃ (e : EN) (j : Nat), l[i]? = some e ∧ e.gone = false ∧ pk e.k = x ∧ idx (gk (live l)) x = some j ∧ (live l)[j]? = some (x, e.p) ∧
    (∀ p, live (l.set i { e with p := p }) = (live l).set j (x, p)) ∧ live (l.set i { e with gone := true }) = (live l).eraseIdx j := by
  induction l with
  | nil => intro i h; simp [lidx] at h
  | cons a l ih =>
    intro i h
    by_cases hx : a.gone = false ∧ pk a.k = x
    · simp [lidx, hx] at h
      subst h
      refine ⟨a, 0, rfl, hx.1, hx.2, ?_, ?_, fun p => ?_, ?_⟩
      · rw [live_cons]; simp [hx.1, hx.2, gk, idx]
      · rw [live_cons]; simp [hx.1, hx.2]
      · rw [List.set_cons_zero, live_cons, live_cons]; simp [hx.1, hx.2]
      · rw [List.set_cons_zero, live_cons, live_cons]; simp [hx.1]
    · simp only [lidx, hx, if_false] at h
      cases hl : lidx l x with
      | none => rw [hl] at h; cases h
      | some m =>
        rw [hl] at h
        injection h with h
        subst h
        obtain ⟨e, j, h1, h2, h3, h4, h5, h6, h7⟩ := ih hl
        cases hg : a.gone
        · have hx' : ¬ pk a.k = x := fun e => hx ⟨hg, e⟩
          refine ⟨e, j + 1, by simpa using h1, h2, h3, ?_, ?_, fun p => ?_, ?_⟩
          · rw [live_cons]; simp [hg, gk, idx, hx']; exact h4
          · rw [live_cons]; simp [hg, h5]
          · rw [List.set_cons_succ, live_cons, live_cons, h6]; simp [hg]
          · rw [List.set_cons_succ, live_cons, live_cons, h7]; simp [hg]
        · refine ⟨e, j, by simpa using h1, h2, h3, ?_, ?_, fun p => ?_, ?_⟩
          · rw [live_cons]; simpa [hg] using h4
          · rw [live_cons]; simpa [hg] using h5
          · rw [List.set_cons_succ, live_cons, live_cons, h6]; simp [hg]
          · rw [List.set_cons_succ, live_cons, live_cons, h7]; simp [hg]
theorem lidx_put {l : List EN} {y : KK} : ∀ {i : Nat} {e : EN} (p : PV), l[i]? = some e → lidx (l.set i { e with p := p }) y = lidx l y := by
  induction l with
  | nil => intro i e p h; simp at h
  | cons a l ih =>
    intro i e p h
    cases i with
    | zero => simp at h; subst h; simp [lidx]
    | succ i => rw [List.set_cons_succ]; simp only [lidx]; rw [ih p (by simpa using h)]
theorem lidx_drop {l : List EN} {y : KK} : ∀ {i : Nat} {e : EN}, l[i]? = some e → e.gone = false → (gk (live l)).Nodup → lidx (l.set i { e with gone := true }) y = if pk e.k = y then none else lidx l y := by
  induction l with
  | nil => intro i e h; simp at h
  | cons a l ih =>
    intro i e h hg hn
    rw [live_cons] at hn
    cases i with
    | zero =>
      simp at h; subst h
      rw [List.set_cons_zero]
      by_cases hy : pk a.k = y
      · simp only [lidx, hg, hy]
        simp only [hg, gk] at hn
        simp at hn
        have : lidx l y = none := lidx_none.2 (idx_none.2 fun hm => by
          obtain ⟨z, hz, e⟩ := List.mem_map.1 hm
          obtain ⟨z1, z2⟩ := z
          exact hn.1 z2 (by rw [hy]; dsimp at e; rw [← e]; exact hz))
        simp [this]
      · simp [lidx, hg, hy]
    | succ i =>
      rw [List.set_cons_succ]
      have hi : l[i]? = some e := by simpa using h
      have hn' : (gk (live l)).Nodup := by
        unfold gk at *
        rw [List.map_append, List.nodup_append] at hn
        exact hn.2.1
      simp only [lidx]
      rw [ih hi hg hn']
      by_cases ha : a.gone = false ∧ pk a.k = y
      · have hne : ¬ pk e.k = y := fun e1 => by
          have hm : (pk e.k, e.p) ∈ live l := by
            unfold live
            exact List.mem_filterMap.2 ⟨e, List.mem_of_getElem? hi, by simp [hg]⟩
          simp only [ha.1, gk] at hn
          simp at hn
          exact hn.1 e.p (by rw [ha.2, ← e1]; exact hm)
        simp [ha, hne]
      · by_cases hy : pk e.k = y <;> simp [ha, hy]
theorem lidx_snoc {l : List EN} {e : EN} {y : KK} (hg : e.gone = false) : lidx (l ++ [e]) y = match lidx l y with | some i => some i | none => if pk e.k = y then some l.length else none := by
  induction l with
  | nil => simp [lidx, hg]
  | cons a l ih =>
    by_cases ha : a.gone = false ∧ pk a.k = y
    · simp [lidx, ha]
    · simp only [List.cons_append, lidx, ha, if_false, ih]
      cases lidx l y with
      | some i => simp
      | none => by_cases e2 : pk e.k = y <;> simp [e2]
theorem lidx_lt {l : List EN} {x : KK} {i : Nat} (h : lidx l x = some i) : i < l.length := by
  obtain ⟨e, j, h1, _⟩ := lidx_some h
  exact (List.getElem?_eq_some_iff.1 h1).1
/-- a dictionary -/
def SlowO (w : World) (f : Nat → Nat) (c db b : Nat) (es : List EN) : Prop :=
  ∃ (mb n : Nat) (g : Lit → Option Int) (lv : Value), (w.heap[db]? = some (.cells #[.map (some mb), lv] 97 (0, 0)) ∧ f db = c) ∧ RowO w f c 129 16 lv es.length (flatN es) ∧ MapO w f c 31 mb n g ∧ (n ≤ b ∧ es.length ≤ b) ∧
    (∀ e ∈ es, okK e.k) ∧ (gk (live es)).Nodup ∧ ∀ x, okK x → g (klK x) = (lidx es x).map Int.ofNat
theorem SlowO.turn {C : Nat → Prop} {f f' : Nat → Nat} {w w' : World} {c db b : Nat} {es : List EN} (h : SlowO w f c db b es) (ht : Turn C f f' w w') (hc : ¬ C c) : SlowO w' f' c db b es := by
  obtain ⟨mb, n, g, lv, h1, h2, h3, h4⟩ := h
  exact ⟨mb, n, g, lv, blk_turn h1 ht hc, h2.turn ht hc, h3.turn ht hc, h4⟩
theorem SlowO.mono {w : World} {f : Nat → Nat} {c db b b' : Nat} {es : List EN} (h : SlowO w f c db b es) (hb : b ≤ b') : SlowO w f c db b' es := by
  obtain ⟨mb, n, g, lv, h1, h2, h3, h4, h5⟩ := h
  exact ⟨mb, n, g, lv, h1, h2, h3, ⟨Nat.le_trans h4.1 hb, Nat.le_trans h4.2 hb⟩, h5⟩
end Go.Proofs.YtoccmiinkfhohaaGreat
namespace Go.Proofs.YtoccmiinkfhohaaGreat
open Go.RowKit Go.Shelf Go.Lib Go.Sort Go.Proofs Go.Maps
set_option maxHeartbeats 2000000
set_option maxRecDepth 100000

/-- the properties of an entry, in a row -/
theorem rangeN {w : World} {g n cap B : Nat} {es : List EN} (h : w.ownsRow B 129 16 (.slice (some ⟨g, 0, none⟩) n cap) n (flatN es)) {i : Nat} {e : EN} (hi : es[i]? = some e) : w.rangeAt g (i * 16 + 2) (encP e.p) := fun j v hv => by
  have hj : (encN e)[2 + j]? = some v := by
    have hl : j < (encP e.p).length := (List.getElem?_eq_some_iff.1 hv).1
    unfold encN
    rw [List.append_assoc, List.getElem?_append_right (by simp), List.getElem?_append_left (by simpa using hl)]
    simpa using hv
  have := h.cells (g := g) rfl _ _ (flatN_get hi hj)
  rwa [Addr.add_lit, Nat.zero_add, ← Nat.add_assoc] at this
theorem c_SWown {w : World} {f : Nat → Nat} {c db b : Nat} {es : List EN} (h : SlowO w f c db b es) (tv cv : Value) (k : KK) (hk : okK k) :
    Calls Tryz.prog 120 #[.pointer (some ⟨db, 0, none⟩), tv, cv, keyV k.1 k.2] w fun e w' => Below w.heap.size w w' ∧
      ((∃ (i : Nat) (p : PV), idx (gk (live es)) (pk k) = some i ∧ (live es)[i]? = some (pk k, p) ∧ e = .returned (.tuple #[propV p, .bool true])) ∨ (idx (gk (live es)) (pk k) = none ∧ e = .returned (.tuple #[propV zeroPV, .bool false]))) := by
  obtain ⟨mb, n, g, lv, h1, h2, h3, h4, h5, h6, h7⟩ := h
  obtain ⟨z, hz, hlk⟩ := look_K h3 (pk k) (pk_ok hk)
  rw [h7 _ (pk_ok hk)] at hz hlk
  have hP := Lib.hid (c_Hplain k hk.1)
  have lm := h3.lt
  unfold keyV at *
  obtain ⟨k0, kn⟩ := k
  dsimp only at *
  generalize pk (k0, kn) = K at *
  obtain ⟨W2, hW2⟩ : ∃ W2, (w.alloc (.cells #[.string k0, .int .i64 kn] 31)).alloc (.cells (encP zeroPV).toArray 36) = W2 := ⟨_, rfl⟩
  have hb2 : Below w.heap.size w W2 := by rw [← hW2]; exact ((Below.refl _ w).alloc (Nat.le_refl _) _).alloc (by simp) _
  have hs2 : W2.heap.size = w.heap.size + 2 := by rw [← hW2]; simp
  have d0 : W2.heap[w.heap.size]? = some (.cells #[.string k0, .int .i64 kn] 31 (0, 0)) := by rw [← hW2, Below.heap_alloc _ _ _ (by simp)]; exact heap_alloc_new w _
  have z0 : W2.heap[w.heap.size + 1]? = some (.cells (encP zeroPV).toArray 36 (0, 0)) := by rw [← hW2]; exact heap_alloc2_new w _ _
  have kc0 : W2.cell? ⟨w.heap.size, 0, none⟩ = some (.string k0) := by rw [cell_of_row _ _ 0 _ _ _ d0]; rfl
  have kc1 : W2.cell? ⟨w.heap.size, 1, none⟩ = some (.int .i64 kn) := by rw [cell_of_row _ _ 1 _ _ _ d0]; rfl
  have lf := heapH_lt h1.1
  have c0 : W2.cell? ⟨db, 0, none⟩ = some (.map (some mb)) := by rw [hb2.cell (p := ⟨db, 0, none⟩) lf, cell_of_row _ _ 0 _ _ _ h1.1]; rfl
  rw [← hb2.block mb lm] at hlk
  have t1 : w.heap.size < W2.heap.size := by omega
  have t2 : db < W2.heap.size := by omega
  have t3 : mb < W2.heap.size := by omega
  replace hs2 := Lib.hid hs2
  replace h1 := Lib.hid h1
  replace h4 := Lib.hid h4
  replace h2 := Lib.hid h2
  replace z0 := Lib.hid z0
  simp only [encP, zeroPV, zeroVV] at hW2
  clear d0 h3 h5 h6 h7 hk h4
  cases hli : lidx es K with
  | none =>
    rw [hli] at hlk
    dsimp only [Option.map, Option.isSome] at hlk
    go_enter Tryz.func120, Tryz.ntmps120
    go_wp2_with fail
    go_region_held3 (fun y => (∀ a : Addr, a.block < W2.heap.size → y.cell? a = W2.cell? a) ∧ (∀ b : Nat, b < W2.heap.size → y.heap[b]? = W2.heap[b]?) ∧ Below W2.heap.size W2 y) (first | assumption | exact onto_drew W2 | exact onto_below (by assumption) (by assumption)) (first | (go_at_call 57; refine (hP.out _).mono ?_; rintro e y' ⟨rfl, hb⟩))
    have hO := onto_below (onto_drew W2) hb
    have z1 : y'.heap[w.heap.size + 1]? = some (.cells (encP zeroPV).toArray 36 (0, 0)) := (hO.2.1 _ (by have := hs2.out; omega)).trans z0.out
    have hbw := hb2.trans (hO.2.2.mono hb2.size)
    replace hbw := Lib.hid hbw
    have hth := there_of (n := 13) (o := 0) z1 (by simp [encP])
    replace z1 := Lib.hid z1
    clear hO hb kc0 kc1 c0 t1 t2 t3 hlk
    have hi13 : (Tryz.prog.info? 36).map (·.size) = some (encP zeroPV).toArray.size := infoProp
    have ho13 := all_oneCell_toArray (encP_one zeroPV)
    go_wp2_with (first | (refine wpList_store_mid (by rfl) 36 _ _ (by rfl) (w.heap.size + 1) 0 (encP zeroPV).toArray (by rfl) (by rfl) hth hi13 ho13 ?_))
    have hz' := heap_setCells_all (t := 36) (vs := encP zeroPV) z1.out rfl
    refine bodyPost_ret (results_cell_tmp_row rfl _ _ (w.heap.size + 1) 36 (encP zeroPV).toArray (0, 0) _ rfl rfl hz' infoProp) rfl ?_
    exact ⟨below_setC hbw.out (by omega) _ _, .inr ⟨lidx_none.1 hli, rfl⟩⟩
  | some i =>
    rw [hli] at hlk hz
    dsimp only [Option.map, Option.isSome] at hlk
    obtain rfl := hz _ rfl
    have hil := lidx_lt hli
    obtain ⟨en, j, e1, e2, e3, e4, e5, _⟩ := lidx_some hli
    go_enter Tryz.func120, Tryz.ntmps120
    go_wp2_with fail
    go_region_held3 (fun y => (∀ a : Addr, a.block < W2.heap.size → y.cell? a = W2.cell? a) ∧ (∀ b : Nat, b < W2.heap.size → y.heap[b]? = W2.heap[b]?) ∧ Below W2.heap.size W2 y) (first | assumption | exact onto_drew W2 | exact onto_below (by assumption) (by assumption)) (first | (go_at_call 57; refine (hP.out _).mono ?_; rintro e y' ⟨rfl, hb⟩))
    have hO := onto_below (onto_drew W2) hb
    have z1 : y'.heap[w.heap.size + 1]? = some (.cells (encP zeroPV).toArray 36 (0, 0)) := (hO.2.1 _ (by have := hs2.out; omega)).trans z0.out
    have hbw := hb2.trans (hO.2.2.mono hb2.size)
    replace hbw := Lib.hid hbw
    have hth := there_of (n := 13) (o := 0) z1 (by simp [encP])
    obtain ⟨g', cap, rfl, g1, g2⟩ := h2.out.1.form (by omega)
    have hg := (h2.out.1.lt g' rfl).2
    have c1 : y'.cell? ⟨db, 1, none⟩ = some (.slice (some ⟨g', 0, none⟩) es.length cap) := by
      rw [World.cell?_of_block (w := w) (a := ⟨db, 1, none⟩) (hbw.out.block db lf), cell_of_row _ _ 1 _ _ _ h1.out.1]; rfl
    have hrg := range_at (rangeN h2.out.1 e1) (hbw.out.block g' hg)
    generalize en.p = p at *
    have hi13 : (Tryz.prog.info? 36).map (·.size) = some (encP p).length := infoProp
    have hj13 : (Tryz.prog.info? 36).map (·.size) = some (encP p).toArray.size := infoProp
    have ho13 := all_oneCell_toArray (encP_one p)
    have p3 : (0 : Int) ≤ (i : Int) := by omega
    have p4 : (i : Int) < (es.length : Int) := by omega
    replace z1 := Lib.hid z1
    replace hli := Lib.hid hli
    replace e4 := Lib.hid e4
    replace e5 := Lib.hid e5
    clear hO hb kc0 kc1 c0 t1 t2 t3 hlk e1 e2 e3 hz
    go_wp2_with (first | (refine wpList_load_mid (by rfl) 36 _ (by rfl) g' (i * 16 + 2) (by rfl) (encP p) _ hrg Tryz.underlying36 rfl hi13 ?_) | (refine wpList_store_mid (by rfl) 36 _ _ (by rfl) (w.heap.size + 1) 0 (encP p).toArray (by rfl) (by rfl) hth hj13 ho13 ?_))
    have hz' := heap_setCells_all (t := 36) (vs := encP p) z1.out rfl
    refine bodyPost_ret (results_cell_tmp_row rfl _ _ (w.heap.size + 1) 36 (encP p).toArray (0, 0) _ rfl rfl hz' infoProp) rfl ?_
    exact ⟨below_setC hbw.out (by omega) _ _, .inl ⟨j, p, e4.out, e5.out, rfl⟩⟩
end Go.Proofs.YtoccmiinkfhohaaGreat
namespace Go.Proofs.YtoccmiinkfhohaaGreat
open Go.RowKit Go.Shelf Go.Lib Go.Sort Go.Proofs Go.Maps
set_option maxHeartbeats 2000000
set_option maxRecDepth 100000

/-- a dictionary has taken a property -/
def PutD (w : World) (f : Nat → Nat) (c db : Nat) (b : Nat) (l : List (KK × PV)) (w' : World) : Prop := ∃ (f' : Nat → Nat) (es' : List EN), Turn (fun x => x = c) f f' w w' ∧ SlowO w' f' c db (b + 1) es' ∧ live es' = l
/-- a property's cells in the midst of an entry -/
theorem range15 {W : World} {g o : Nat} {p : PV} (h : W.rangeAt g (o + 2) (encP p)) : W.cell? ⟨g, o + 2, none⟩ = some (.int .i64 p.v.k) ∧ W.cell? ⟨g, o + 3, none⟩ = some (.float .f64 p.v.x) ∧ W.cell? ⟨g, o + 4, none⟩ = some (.string p.v.s) ∧ W.cell? ⟨g, o + 5, none⟩ = some (.int .i64 p.v.r) ∧ W.cell? ⟨g, o + 6, none⟩ = some (.int .i64 p.g.k) ∧ W.cell? ⟨g, o + 7, none⟩ = some (.float .f64 p.g.x) ∧ W.cell? ⟨g, o + 8, none⟩ = some (.string p.g.s) ∧ W.cell? ⟨g, o + 9, none⟩ = some (.int .i64 p.g.r) ∧ W.cell? ⟨g, o + 10, none⟩ = some (.int .i64 p.t.k) ∧ W.cell? ⟨g, o + 11, none⟩ = some (.float .f64 p.t.x) ∧ W.cell? ⟨g, o + 12, none⟩ = some (.string p.t.s) ∧ W.cell? ⟨g, o + 13, none⟩ = some (.int .i64 p.t.r) ∧ W.cell? ⟨g, o + 14, none⟩ = some (.int .i64 p.fl) := ⟨h 0 _ rfl, h 1 _ rfl, h 2 _ rfl, h 3 _ rfl, h 4 _ rfl, h 5 _ rfl, h 6 _ rfl, h 7 _ rfl, h 8 _ rfl, h 9 _ rfl, h 10 _ rfl, h 11 _ rfl, h 12 _ rfl⟩
/-- a property is laid -/
def putL (l : List (KK × PV)) (x : KK) (p : PV) : List (KK × PV) := match idx (gk l) x with | some i => l.set i (x, p) | none => l ++ [(x, p)]
theorem gk_set {l : List (KK × PV)} {x : KK} {i : Nat} (h : idx (gk l) x = some i) (p : PV) : gk (l.set i (x, p)) = gk l := by
  unfold gk at *
  rw [List.map_set]
  apply List.ext_getElem?
  intro j
  rw [List.getElem?_set]
  split
  · rename_i e; subst e
    rw [idx_some h]
    simp
    simpa using idx_lt h
  · rfl
theorem gk_put_nodup {l : List (KK × PV)} (h : (gk l).Nodup) (x : KK) (p : PV) : (gk (putL l x p)).Nodup := by
  unfold putL
  cases hi : idx (gk l) x with
  | some i => dsimp only; rw [gk_set hi]; exact h
  | none =>
    dsimp only
    unfold gk at *
    rw [List.map_append, List.nodup_append]
    exact ⟨h, by simp, fun a ha b hb e => idx_none.1 hi (by simp at hb; rw [← hb, ← e]; exact ha)⟩
theorem setL_mid {α : Type} {enc : α → List Value} {k : Nat} (h : ∀ x, (enc x).length = k) {l : List α} {a x x' : List Value} {e e' : α} {i : Nat} (hi : l[i]? = some e) (ha : ∃ z, enc e = a ++ (x ++ z) ∧ enc e' = a ++ (x' ++ z)) (hx : x.length = x'.length) :
    setL (l.flatMap enc) (i * k + a.length) x' = (l.set i e').flatMap enc := by
  obtain ⟨z, h1, h2⟩ := ha
  induction l generalizing i with
  | nil => simp at hi
  | cons b l ih =>
    cases i with
    | zero =>
      simp at hi; subst hi
      rw [List.set_cons_zero, List.flatMap_cons, List.flatMap_cons, h1, h2, Nat.zero_mul, Nat.zero_add, List.append_assoc, List.append_assoc, show a.length = a.length + 0 by rfl, setL_app a _ 0 x', setL_front _ _ _ hx, List.append_assoc, List.append_assoc]
    | succ i =>
      rw [List.set_cons_succ, List.flatMap_cons, List.flatMap_cons, show (i + 1) * k + a.length = (enc b).length + (i * k + a.length) by rw [h, Nat.add_mul]; omega, setL_app, ih (by simpa using hi)]
theorem flatN_put {es : List EN} {i : Nat} {e : EN} (hi : es[i]? = some e) (p : PV) : setL (flatN es) (i * 16 + 2) (encP p) = flatN (es.set i { e with p := p }) :=
  setL_mid (enc := encN) (k := 16) (fun _ => rfl) (a := [.string e.k.1, .int .i64 e.k.2]) (x := encP e.p) hi ⟨[.bool e.gone], rfl, rfl⟩ rfl
theorem mem_set_k {es : List EN} {i : Nat} {e e' : EN} (hi : es[i]? = some e) (hk : e'.k = e.k) (h : ∀ e ∈ es, okK e.k) : ∀ e ∈ es.set i e', okK e.k := fun x hx => by
  rcases List.mem_or_eq_of_mem_set hx with hx | hx
  · exact h x hx
  · rw [hx, hk]; exact h e (List.mem_of_getElem? hi)
theorem slow_set {w y : World} {f f2 : Nat → Nat} {c db b g cap mb n i : Nat} {gm : Lit → Option Int} {es : List EN} {e : EN} {p : PV} (vs : List Value) (hv : encP p = vs)
    (hTw : Turn (fun x => x = c) f f2 w y) (h1 : y.heap[db]? = some (.cells #[.map (some mb), .slice (some ⟨g, 0, none⟩) es.length cap] 97 (0, 0)) ∧ f2 db = c) (h2 : RowO y f2 c 129 16 (.slice (some ⟨g, 0, none⟩) es.length cap) es.length (flatN es))
    (h3 : MapO y f2 c 31 mb n gm) (h4 : n ≤ b ∧ es.length ≤ b) (h5 : ∀ e ∈ es, okK e.k) (h6 : (gk (live es)).Nodup) (h7 : ∀ x, okK x → gm (klK x) = (lidx es x).map Int.ofNat) (hi : es[i]? = some e) (hl : live (es.set i { e with p := p }) = putL (live es) (pk e.k) p) :
    Turn (fun x => x = c) f f2 w (y.setCells g (i * 16 + 2) vs).drew ∧ SlowO (y.setCells g (i * 16 + 2) vs).drew f2 c db b (es.set i { e with p := p }) := by
  have ng : db ≠ g := fun e => row_not h2.1 h1.1 (by decide) (congrArg some e.symm)
  obtain ⟨cur, hcur⟩ := row_type h2.1 (r := g) rfl
  have nm : mb ≠ g := fun e => by
    subst e
    obtain ⟨D, ⟨es', cl, hm, _⟩, _⟩ := h3.1
    rw [hcur] at hm
    cases hm
  have t2 := (Turn.setC (b := g) vs (i * 16 + 2) hTw (h2.2 g rfl)).drew
  have hlen : (es.set i { e with p := p }).length = es.length := by simp
  refine ⟨t2, mb, n, gm, .slice (some ⟨g, 0, none⟩) es.length cap, ⟨?_, h1.2⟩, ⟨?_, h2.2⟩, ⟨h3.1.at ?_, h3.2⟩, by rw [hlen]; exact h4, mem_set_k (e' := { e with p := p }) hi rfl h5, ?_, fun x hx => by rw [lidx_put p hi]; exact h7 x hx⟩
  · show (y.setCells g (i * 16 + 2) vs).heap[db]? = _
    rw [heap_setCells_ne _ _ _ ng]; exact h1.1
  · rw [hlen, ← flatN_put hi p, hv]
    exact own_at (row_setL vs (i * 16 + 2) _ _ h2.1) fun r _ => rfl
  · show (y.setCells g (i * 16 + 2) vs).heap[mb]? = _
    exact heap_setCells_ne _ _ _ nm
  · rw [hl]; exact gk_put_nodup h6 _ _
end Go.Proofs.YtoccmiinkfhohaaGreat

/-
  Contracts: A range over a function, at the wide fence: the law for an iterator that may itself range over another one. The iterator over a shape's slots; Each; Keys. A range over a function whose assignments may make blocks. The contracts of Each and Keys of a tree of shapes. A new tree of shapes; Cached without a cache. Properties as cells; a fast object's state; what it tells of a key. What a fast object tells of a key. How a fast object takes a property.
-/
import Derived.Test.YtkbohoolnpaleaaGreatDoorW9
import Derived.RangeFuncNested
import Derived.RangeFuncBound
import Derived.RangeFuncCalls
import Derived.RangeFuncLeaves
import Derived.RangeFuncFrom
import Derived.Shelf.Abstract
import Derived.Shelf.RegionOpen
import Derived.OwnWalkIn
import Derived.TacticsInMore
import Derived.LoopNIn
import Derived.LoopIn
import Derived.Maps.OwnIn
namespace Go.Proofs.YtkbohoolnpaleaaGreatDoor
open Go.RowKit Go.Shelf Go.Lib Go.Sort Go.Proofs Go.Maps
set_option maxHeartbeats 1000000
set_option maxRecDepth 8000

/-- no block has gone; but for those of ex each is as it was -/
def KeepBut (ex : Nat → Prop) (W W' : World) : Prop := W.heap.size ≤ W'.heap.size ∧ ∀ r, r < W.heap.size → ¬ ex r → W'.heap[r]? = W.heap[r]?
theorem KeepBut.refl (ex : Nat → Prop) (W : World) : KeepBut ex W W := ⟨Nat.le_refl _, fun _ _ _ => rfl⟩
theorem KeepBut.trans {ex : Nat → Prop} {A B C : World} (h : KeepBut ex A B) (k : KeepBut ex B C) : KeepBut ex A C :=
  ⟨Nat.le_trans h.1 k.1, fun r hr he => (k.2 r (Nat.lt_of_lt_of_le hr h.1) he).trans (h.2 r hr he)⟩
theorem KeepBut.mono {ex ex' : Nat → Prop} {A B : World} (h : KeepBut ex A B) (hx : ∀ r, ex r → ex' r) : KeepBut ex' A B := ⟨h.1, fun r hr he => h.2 r hr (fun h => he (hx r h))⟩
/-- what an iterator's call comes to: xs come, one after the other, or a round ends it all -/
def SeqG {α : Type} (g : Nat) (lb : Array Value) (encs : α → Array Value) (xs : List α) (kb : Nat) (w : World) : Prop :=
  ∀ (n l : Nat) (J Jx : List α → World → Prop) (W : World), Below w.heap.size w W → OwnFrom W.heap.size J → OwnFrom W.heap.size Jx → w.heap.size ≤ l → l < W.heap.size → kb < W.heap.size → (∃ o, W.heap[l]? = some (.loop o)) →
    (∀ pre x W1, J pre W1 → (pre ++ [x]) <+: xs → YieldAt Fence.wide (n - 1) Tryz.prog l (encs x) W1 fun e W' =>
      (e = .returned (.bool true) ∧ J (pre ++ [x]) W' ∧ KeepBut (fun r => r = kb ∨ l < r) W1 W') ∨ (e = .returned (.bool false) ∧ Jx (pre ++ [x]) W')) →
    J [] W →
    CallsIn Fence.wide n Tryz.prog g (#[.func (.yield l) #[] #[]] ++ lb) W fun e W' => (∃ v, e = .returned v) ∧ (J xs W' ∨ ∃ pre, Jx pre W')
/-- how a round's body may be left -/
def postG {α : Type} (kb B : Nat) (I : List α → World → Prop) (Ix : Code → List α → World → Prop) (xs : List α) (W : World) : Exit → Act → World → Prop
  | .normal, _, W' => KeepBut (fun r => r = kb ∨ B + 1 < r) W W' ∧ I xs W'
  | .ret, _, W' => KeepBut (fun r => r = kb ∨ r < B ∨ B + 1 < r) W W' ∧ Ix .ret xs W'
  | .exit id, _, W' => KeepBut (fun r => r = kb ∨ r < B ∨ B + 1 < r) W W' ∧ Ix (.exit id) xs W'
  | _, _, _ => False
theorem own_turn {β : Type} {B l : Nat} {I : β → World → Prop} (h : OwnFrom B I) {s : β} {W : World} {o : Obj} (o' : Obj) (hs : I s W) (hB : B ≤ l) (hl : W.heap[l]? = some o) (ho : o.isCells = false) : I s (W.putObj l o') := h.putObj o' hs hB hl ho
theorem rangeG {α : Type} {n : Nat} {g : Operand} {ps : Array Tmp} {assign body : Code} {Q : Exit → Act → World → Prop} {a : Act} {w : World} {gf : Nat} {lb : Array Value} (hg : a.eval g = .func (.func gf) #[] lb)
    (eg : ∀ args w, (callFunc gf args).run Tryz.prog w = .ok (.enter gf args) w) {encs : α → Array Value} {xs : List α} {kb : Nat} {w0 : World} (hseq : SeqG gf lb encs xs kb w0) (hb0 : Below w0.heap.size w0 w) (hkb : kb < w.heap.size) (hps : ∀ x, (encs x).size = ps.size)
    (I : List α → World → Prop) (Ix : Code → List α → World → Prop) (hI : OwnFrom w.heap.size I) (hIx : ∀ c, OwnFrom w.heap.size (Ix c)) (h0 : I [] w) (a₁ : α → Act)
    (hassign : ∀ (l : Nat) (x : α) (W : World) (K : Act → World → Prop), K (a₁ x) W →
      assign.wpIn (Fence.wide.inRound l) (n - 1 - 1) Tryz.prog (Exit.then K (fun _ _ _ => False)) { tmps := (ps.zip (encs x)).foldl (fun t (p, v) => t.setIfInBounds p v) a.tmps, defers := [] } W)
    (hbody : ∀ (l : Nat) (pre : List α) (x : α) (W : World), I pre W → (pre ++ [x]) <+: xs → w.heap.size < l → l < W.heap.size → body.wpIn (Fence.wide.inRound l) (n - 1 - 1) Tryz.prog (postG kb w.heap.size I Ix (pre ++ [x]) W) (a₁ x) W)
    (hdone : ∀ (W : World), I xs W → W.heap[w.heap.size]? = some (.deferred (some [])) → Q .normal { a with defers := { target := .collected w.heap.size, args := #[] } :: a.defers } W)
    (hstop : ∀ (c : Code) (pre : List α) (W : World), Ix c pre W → W.heap[w.heap.size]? = some (.deferred (some [])) → c.wpIn Fence.wide n Tryz.prog Q { a with defers := { target := .collected w.heap.size, args := #[] } :: a.defers } W) :
    (Code.rangeFunc g ps assign body).wpIn Fence.wide n Tryz.prog Q a w := by
  refine wpIn_rangeFunc ?_
  intro fn hfn
  let rec' : LoopState → Option Code → Loop := fun st pe => { state := st, pending := pe, fn := fn, tmps := a.tmps, params := ps, assign := assign, body := body, defers := w.heap.size }
  have hrl : ∀ st pe, rec' st pe = { state := st, pending := pe, fn := fn, tmps := a.tmps, params := ps, assign := assign, body := body, defers := w.heap.size } := fun _ _ => rfl
  generalize rec' = rc at hrl
  obtain ⟨W1, hW1⟩ : ∃ W1, (w.alloc (.deferred (some []))).alloc (.loop (rc .ready none)) = W1 := ⟨_, rfl⟩
  have hs1 : W1.heap.size = w.heap.size + 1 + 1 := by rw [← hW1]; simp
  have hL : W1.heap[w.heap.size + 1]? = some (.loop (rc .ready none)) := by rw [← hW1]; exact heap_alloc2_new w _ _
  have hD : W1.heap[w.heap.size]? = some (.deferred (some [])) := by rw [← hW1]; exact (Below.heap_alloc _ _ _ (by simp)).trans (heap_alloc_new w _)
  have hI1 : I [] W1 := by rw [← hW1]; exact hI.alloc _ (hI.alloc _ h0)
  have hb1 : Below w0.heap.size w0 W1 := by rw [← hW1]; exact hb0.trans ((((Below.refl _ w).alloc (Nat.le_refl _) _).alloc (by simp) _).mono hb0.size)
  refine ⟨w.heap.size + 1, [{ target := .collected w.heap.size, args := #[] }], W1, { target := .fn (.func gf) lb, args := #[.func (.yield (w.heap.size + 1)) #[] #[]] }, W1, gf, #[.func (.yield (w.heap.size + 1)) #[] #[]] ++ lb, W1, ?_, ?_, (fun _ _ => trivial), ?_, (fun h => by cases h), ?_⟩
  · rw [← hW1, hrl]; exact run_enterLoop_outer _ _ _ _ _
  · simp only [resolve, hg]
    simp [go_sem]
  · simp [invoke, go_sem, eg]
  have keep : ∀ {A B : World} {row : Option Nat} {q : Nat} {o : Obj}, q < W1.heap.size → A.heap[q]? = some o → A.grownBy B row → (∀ r, row = some r → W1.heap.size ≤ r ∧ ∃ o : Obj, A.heap[r]? = some o ∧ o.isCells = false) → B.heap[q]? = some o := by
    intro A B row q o hq ho hgr hr
    rw [hgr.block q (heapH_lt ho) (fun e => by have := (hr q e.symm).1; omega)]
    exact ho
  have low : ∀ {A : World} {row : Option Nat}, (∀ r, row = some r → W1.heap.size ≤ r ∧ ∃ o : Obj, A.heap[r]? = some o ∧ o.isCells = false) → ∀ r, row = some r → w.heap.size ≤ r ∧ ∃ o : Obj, A.heap[r]? = some o ∧ o.isCells = false :=
    fun h r e => ⟨by have := (h r e).1; omega, (h r e).2⟩
  refine (hseq (n - 1) (w.heap.size + 1) (fun pre W => I pre W ∧ W.heap[w.heap.size + 1]? = some (.loop (rc .ready none)) ∧ W.heap[w.heap.size]? = some (.deferred (some [])))
    (fun pre W => ∃ c, Ix c pre W ∧ W.heap[w.heap.size + 1]? = some (.loop (rc .done (some c))) ∧ W.heap[w.heap.size]? = some (.deferred (some [])))
    W1 hb1
    (fun s A B row hs hgr hr => ⟨hI s A B row hs.1 hgr (low hr), keep (by omega) hs.2.1 hgr hr, keep (by omega) hs.2.2 hgr hr⟩)
    (fun s A B row hs hgr hr => by
      obtain ⟨c, h1, h2, h3⟩ := hs
      exact ⟨c, hIx c s A B row h1 hgr (low hr), keep (by omega) h2 hgr hr, keep (by omega) h3 hgr hr⟩)
    (by have := hb0.size; omega) (by omega) (by omega) ⟨_, hL⟩ ?_ ⟨hI1, hL, hD⟩).mono ?_
  · rintro pre x W ⟨hi, hl, hk⟩ hpre
    have hlt := heapH_lt hl
    have hy := run_yield (P := Tryz.prog) (args := encs x) hl (by rw [hrl]; exact hps x)
    rw [hrl] at hy
    have hl2 : (W.putObj (w.heap.size + 1) (.loop { rc .ready none with state := .busy })).heap[w.heap.size + 1]? = some (.loop { rc .ready none with state := .busy }) := World.putObj_heap_same hlt
    have hk2 : (W.putObj (w.heap.size + 1) (.loop { rc .ready none with state := .busy })).heap[w.heap.size]? = some (.deferred (some [])) := (World.putObj_heap_other (by omega)).trans hk
    refine ⟨fn, _, assign, body, hy, roundIn_of_wpIn hfn (hassign _ x W _ ⟨_, run_beginRound hl (by rw [hrl]), ?_⟩)⟩
    have hsz : (W.putObj (w.heap.size + 1) (.loop { rc .ready none with state := .busy })).heap.size = W.heap.size := by simp [World.putObj]
    have hi2 := hI.putObj (.loop { rc .ready none with state := .busy }) hi (by omega) hl rfl
    refine wpIn_mono (hbody (w.heap.size + 1) pre x _ hi2 hpre (by omega) (by rw [hsz]; exact hlt)) ?_
    have fin : ∀ (jump : Option Code) (W3 : World), KeepBut (fun r => r = kb ∨ r < w.heap.size ∨ w.heap.size + 1 < r) (W.putObj (w.heap.size + 1) (.loop { rc .ready none with state := .busy })) W3 →
        (Instr.endRound (w.heap.size + 1) jump).run Tryz.prog W3 = .ok (.bool jump.isNone) (W3.putObj (w.heap.size + 1) (.loop (rc (if jump.isNone then .ready else .done) jump))) ∧
        W3.heap[w.heap.size + 1]? = some (.loop { rc .ready none with state := .busy }) ∧
        (W3.putObj (w.heap.size + 1) (.loop (rc (if jump.isNone then .ready else .done) jump))).heap[w.heap.size + 1]? = some (.loop (rc (if jump.isNone then .ready else .done) jump)) ∧
        (W3.putObj (w.heap.size + 1) (.loop (rc (if jump.isNone then .ready else .done) jump))).heap[w.heap.size]? = some (.deferred (some [])) ∧
        W.heap.size ≤ (W3.putObj (w.heap.size + 1) (.loop (rc (if jump.isNone then .ready else .done) jump))).heap.size := by
      intro jump W3 hk3
      have hl3 : W3.heap[w.heap.size + 1]? = some (.loop { rc .ready none with state := .busy }) := (hk3.2 _ (by rw [hsz]; exact hlt) (by omega)).trans hl2
      have hk4 : W3.heap[w.heap.size]? = some (.deferred (some [])) := (hk3.2 _ (by rw [hsz]; omega) (by omega)).trans hk2
      have hrun := run_endRound (P := Tryz.prog) jump hl3
      rw [hrl] at hrun
      exact ⟨by rw [hrl]; exact hrun, hl3, World.putObj_heap_same (heapH_lt hl3), (World.putObj_heap_other (by omega)).trans hk4, by have := hk3.1; simp [World.putObj] at this ⊢; exact this⟩
    rintro e a3 W3 hp
    cases e with
    | normal =>
      obtain ⟨hk3, hi3⟩ := hp
      obtain ⟨hr, hl3, hl4, hk4, hkk⟩ := fin none W3 (hk3.mono (fun r h => h.imp id .inr))
      refine ⟨_, _, hr, .inl ⟨rfl, ⟨hI.putObj _ hi3 (by omega) hl3 rfl, hl4, hk4⟩, ⟨hkk, fun r hr2 he => ?_⟩⟩⟩
      by_cases e1 : r = w.heap.size + 1
      · subst e1; exact hl4.trans hl.symm
      · rw [World.putObj_heap_other e1, hk3.2 r (by rw [hsz]; exact hr2) he, World.putObj_heap_other e1]
    | ret =>
      obtain ⟨hk3, hi3⟩ := hp
      obtain ⟨hr, hl3, hl4, hk4, hkk⟩ := fin (some .ret) W3 hk3
      exact ⟨_, _, hr, .inr ⟨rfl, ⟨.ret, (hIx _).putObj _ hi3 (by omega) hl3 rfl, hl4, hk4⟩⟩⟩
    | exit id =>
      obtain ⟨hk3, hi3⟩ := hp
      obtain ⟨hr, hl3, hl4, hk4, hkk⟩ := fin (some (.exit id)) W3 hk3
      exact ⟨_, _, hr, .inr ⟨rfl, ⟨.exit id, (hIx _).putObj _ hi3 (by omega) hl3 rfl, hl4, hk4⟩⟩⟩
    | goto t => exact hp.elim
    | panic ch => exact hp.elim
    | outgrown => exact hp.elim
  · rintro e W2 ⟨⟨v, rfl⟩, (⟨hi, hl, hk⟩ | ⟨pre, c, hi, hl, hk⟩)⟩
    · exact ⟨none, _, by have := run_endLoop (P := Tryz.prog) hl (by rw [hrl]; simp); rw [hrl] at this; exact this, hdone _ (hI.putObj _ hi (by omega) hl rfl) ((World.putObj_heap_other (by omega)).trans hk)⟩
    · exact ⟨some c, _, by have := run_endLoop (P := Tryz.prog) hl (by rw [hrl]; simp); rw [hrl] at this; exact this, hstop c pre _ ((hIx c).putObj _ hi (by omega) hl rfl) ((World.putObj_heap_other (by omega)).trans hk)⟩
end Go.Proofs.YtkbohoolnpaleaaGreatDoor
namespace Go.Proofs.YtkbohoolnpaleaaGreatDoor
open Go.RowKit Go.Shelf Go.Lib Go.Sort Go.Proofs Go.Maps
set_option maxHeartbeats 2000000
set_option maxRecDepth 100000
attribute [local go_sem] Oper.semAt_some

def encSA (x : SL) : Array Value := #[.agg #[.string x.1.1, .int .i64 x.1.2], .int .i64 x.2]
theorem KeepBut.cell {ex : Nat → Prop} {W W' : World} (h : KeepBut ex W W') {b o : Nat} {v : Value} (hb : ¬ ex b) (hc : W.cell? ⟨b, o, none⟩ = some v) : W'.cell? ⟨b, o, none⟩ = some v := by
  rw [World.cell?_of_block (h.2 b (cell_lt hc) hb)]; exact hc
theorem own_keepBut {β : Type} (ex : Nat → Prop) (W0 : World) : OwnFrom W0.heap.size (fun (_ : β) Y => KeepBut ex W0 Y) :=
  fun s A B row hs hg hr => ⟨Nat.le_trans hs.1 hg.size, fun r hlt he => by
    rw [hg.block r (Nat.lt_of_lt_of_le hlt hs.1) (fun e => by have := (hr r e.symm).1; omega)]
    exact hs.2 r hlt he⟩
theorem eachS_seq {w : World} {f : Nat → Nat} {tb : Nat} {L : List (List KK)} (h : TreeO w f tb L) (hN : Norm f w) (s : Nat) (ks : List KK) (hs : L[s]? = some ks) (b1 b2 kb : Nat) (d1 : w.cell? ⟨b1, 0, none⟩ = some (.pointer (some ⟨tb, 0, none⟩))) (d2 : w.cell? ⟨b2, 0, none⟩ = some (.int .i64 (s : Int)))
    (hk1 : b1 ≠ kb) (hk2 : b2 ≠ kb) (hk0 : f kb = 0) (hlen : ks.length ≤ 1000) :
    ∃ ss : List SL, ss.map (fun x => pk x.1) = ks ∧ (∀ x ∈ ss, okK x.1) ∧ SeqG 141 #[.pointer (some ⟨b1, 0, none⟩), .pointer (some ⟨b2, 0, none⟩)] encSA ss kb w := by
  obtain ⟨p, c, c0, c1, hrow⟩ := h.form
  obtain ⟨rb, sv, mb, rfl, l1, l2, l3, c2, c3, hS⟩ := hrow s ks hs
  have hsl := (List.getElem?_eq_some_iff.1 hs).1
  obtain ⟨ss, gg, nn, r1, r2, r3, r4, r5, r6, r7⟩ := hS
  have hlen2 : ss.length = ks.length := by rw [← r2]; simp
  refine ⟨ss, r2, r3, ?_⟩
  intro n lp J Jx W hW hJ hJx hlp0 hlp hkb hlo hY h0
  have hTW : TreeO W f tb L := h.turn (Turn.of_below (fun _ => False) hN hW) id id id id
  have hI := Lib.hid (c_Sis hTW s hsl)
  rw [← hW.cell (show (⟨tb, 1, none⟩ : Addr).block < _ from l1)] at c1
  rw [← hW.cell (show (⟨rb, s * 2, none⟩ : Addr).block < _ from l2)] at c2
  rw [← hW.cell (cell_lt d1)] at d1
  rw [← hW.cell (cell_lt d2)] at d2
  have hsf : ∃ p' c', sv = .slice p' ss.length c' ∧ ∀ k x, ss[k]? = some x → ∃ g, p' = some ⟨g, 0, none⟩ ∧ ∀ y, KeepBut (fun r => r = kb ∨ lp < r) W y → y.cell? ⟨g, k * 3, none⟩ = some (.string x.1.1) ∧ y.cell? ⟨g, k * 3 + 1, none⟩ = some (.int .i64 x.1.2) ∧ y.cell? ⟨g, k * 3 + 2, none⟩ = some (.int .i64 x.2) := by
    rcases r1.1.2 with ⟨e, h⟩ | ⟨g, cap, cur, e, _, _, hc, _⟩
    · rw [h]; exact ⟨_, _, e, fun k x hx => by have := (List.getElem?_eq_some_iff.1 hx).1; omega⟩
    · refine ⟨_, _, e, fun k x hx => ⟨g, rfl, fun y hy => ?_⟩⟩
      subst e
      have hg := (r1.1.lt g rfl).2
      have hne : ¬ (g = kb ∨ lp < g) := by
        rintro (h | h)
        · subst h; have := r1.2 g rfl; omega
        · omega
      obtain ⟨f1, f2, f3⟩ := flatS_get hx
      have a1 := r1.1.cells (g := g) rfl _ _ f1
      have a2 := r1.1.cells (g := g) rfl _ _ f2
      have a3 := r1.1.cells (g := g) rfl _ _ f3
      rw [add_zero_addr] at a1 a2 a3
      refine ⟨hy.cell hne ?_, hy.cell hne ?_, hy.cell hne ?_⟩
      · rw [hW.cell (p := ⟨g, k * 3, none⟩) hg]; exact a1
      · rw [hW.cell (p := ⟨g, k * 3 + 1, none⟩) hg]; exact a2
      · rw [hW.cell (p := ⟨g, k * 3 + 2, none⟩) hg]; exact a3
  obtain ⟨p', c', rfl, hcell⟩ := hsf
  have hY2 : ∀ k W1 x, ss[k]? = some x → J (ss.take k) W1 → YieldAt Fence.wide (n - 1) Tryz.prog lp #[.agg #[.string x.1.1, .int .i64 x.1.2], .int .i64 x.2] W1 fun e W' =>
      (e = .returned (.bool true) ∧ J (ss.take (k + 1)) W' ∧ KeepBut (fun r => r = kb ∨ lp < r) W1 W') ∨ (e = .returned (.bool false) ∧ Jx (ss.take (k + 1)) W') := by
    intro k W1 x hx hJ1
    have htk : ss.take (k + 1) = ss.take k ++ [x] := by rw [List.take_add_one, hx]; rfl
    have := hY (ss.take k) x W1 hJ1 (by rw [← htk]; exact List.take_prefix _ _)
    rw [← htk] at this
    exact this
  have p1 : (0 : Int) ≤ (s : Int) := by omega
  have p2 : (s : Int) < (L.length : Int) := by omega
  have hl0 : J (ss.take 0) W := by simpa using h0
  have hJa := Lib.hid hJ
  clear hY hrow hW hJx hkb hlo h hTW hN r1 r2 r3 r4 r5 r6 r7 c0 c3 h0 hs hJ
  replace hlen2 := Lib.hid hlen2
  replace hcell := Lib.hid hcell
  replace hY2 := Lib.hid hY2
  replace hl0 := Lib.hid hl0
  refine callsIn_of_wp Tryz.func141 rfl trivial ?_ rfl
  simp only [Tryz.ntmps141, List.size_toArray, List.length_cons, List.length_nil, Nat.reduceAdd, Nat.reduceSub, Array.replicate_succ, Array.replicate_zero, List.push_toArray, List.append_toArray, List.nil_append, List.cons_append]
  gi_wp2_with (first | (refine ⟨trivial, (fun h => by cases h), ?_⟩; gi_at_call 112; refine (callsIn_wide.2 hI.out).mono ?_; rintro e w1 ⟨rfl, rfl⟩))
  gi_region
  gi_wp2
  gi_loopw [19] (fun i wr => ∃ k : Nat, k ≤ ss.length ∧ i = .int .i64 (k : Int) ∧ J (ss.take k) wr ∧ KeepBut (fun r => r = kb ∨ lp < r) w1 wr) (fun i _ => ss.length - (intOf i).toNat)
  case atStart => exact ⟨0, Nat.zero_le _, rfl, hJa.out _ _ _ none hl0.out ⟨rfl, rfl, rfl, Nat.le_refl _, fun _ _ _ => rfl⟩ (fun r h => by cases h), KeepBut.refl _ _⟩
  case round =>
    obtain ⟨k, hk, rfl, hJs, hkp⟩ := hrel
    rcases Nat.lt_or_ge k ss.length with hlt | hge
    · obtain ⟨x, hx⟩ : ∃ x, ss[k]? = some x := ⟨_, List.getElem?_eq_getElem hlt⟩
      obtain ⟨g, rfl, hc⟩ := hcell.out k x hx
      obtain ⟨e1, e2, e3⟩ := hc wr hkp
      have hkp2 := KeepBut.trans hkp (⟨by simp, fun r hr _ => Below.heap_alloc _ _ _ hr⟩ : KeepBut (fun r => r = kb ∨ lp < r) wr (wr.alloc (.cells #[.string x.1.1, .int .i64 x.1.2, .int .i64 x.2] 225)))
      obtain ⟨fn, tmps, assign, body, hy, hR⟩ := hY2.out k (wr.alloc (.cells #[.string x.1.1, .int .i64 x.1.2, .int .i64 x.2] 225)) x hx (OwnFrom.alloc hJa.out _ hJs)
      have hlt' : (k : Int) < (ss.length : Int) := by omega
      have q0 : (0 : Int) ≤ (k : Int) := by omega
      gi_wp2
      refine ⟨(fun h => by cases h), hR.mono ?_⟩
      have hw3 : IntKind.i64.wrap ((k : Int) + 1) = ((k + 1 : Nat) : Int) := by have := hlen2.out; rw [IntKind.wrap_i64]; omega
      rintro e W3 (⟨rfl, hJ3, hk3⟩ | ⟨rfl, hJx3⟩)
      · gi_wp2
        go_roundw
        case rel => exact ⟨k + 1, by omega, by go_num, hJ3, hkp2.trans hk3⟩
        case measure => simp [intOf]; omega
      · gi_wp2
        refine bodyPost_ret (results_none rfl _ _ _) rfl ?_
        exact ⟨⟨_, rfl⟩, .inr ⟨_, hJx3⟩⟩
    · obtain rfl : k = ss.length := by omega
      rw [List.take_length] at hJs
      gi_wp2
      go_end0
      exact ⟨⟨_, rfl⟩, .inl hJs⟩
end Go.Proofs.YtkbohoolnpaleaaGreatDoor
namespace Go.Proofs.YtkbohoolnpaleaaGreatDoor
open Go.RowKit Go.Shelf Go.Lib Go.Sort Go.Proofs Go.Maps
set_option maxHeartbeats 1000000
set_option maxRecDepth 8000

theorem rangeA {α : Type} {n : Nat} {g : Operand} {ps : Array Tmp} {assign body : Code} {Q : Exit → Act → World → Prop} {a : Act} {w : World} {gf : Nat} {lb : Array Value} (hg : a.eval g = .func (.func gf) #[] lb)
    (eg : ∀ args w, (callFunc gf args).run Tryz.prog w = .ok (.enter gf args) w) {encs : α → Array Value} {xs : List α} {kb : Nat} {w0 : World} (hseq : SeqG gf lb encs xs kb w0) (hb0 : Below w0.heap.size w0 w) (hkb : kb < w.heap.size) (hps : ∀ x, (encs x).size = ps.size)
    (I : List α → World → Prop) (Ix : Code → List α → World → Prop) (hI : OwnFrom w.heap.size I) (hIx : ∀ c, OwnFrom w.heap.size (Ix c)) (h0 : I [] w)
    (hround : ∀ (l : Nat) (pre : List α) (x : α) (W : World), I pre W → (pre ++ [x]) <+: xs → w.heap.size < l → l < W.heap.size → l = w.heap.size + 1 →
      assign.wpIn (Fence.wide.inRound l) (n - 1 - 1) Tryz.prog (Exit.then (fun a₁ W1 => KeepBut (fun r => w.heap.size + 1 < r) W W1 ∧ I pre W1 ∧ ∀ W2, I pre W2 → l < W2.heap.size → W2.heap.size = W1.heap.size → (∀ r, r ≠ l → W2.heap[r]? = W1.heap[r]?) → body.wpIn (Fence.wide.inRound l) (n - 1 - 1) Tryz.prog (postG kb w.heap.size I Ix (pre ++ [x]) W2) a₁ W2) (fun _ _ _ => False)) { tmps := (ps.zip (encs x)).foldl (fun t (p, v) => t.setIfInBounds p v) a.tmps, defers := [] } W)
    (hdone : ∀ (W : World), I xs W → W.heap[w.heap.size]? = some (.deferred (some [])) → Q .normal { a with defers := { target := .collected w.heap.size, args := #[] } :: a.defers } W)
    (hstop : ∀ (c : Code) (pre : List α) (W : World), Ix c pre W → W.heap[w.heap.size]? = some (.deferred (some [])) → c.wpIn Fence.wide n Tryz.prog Q { a with defers := { target := .collected w.heap.size, args := #[] } :: a.defers } W) :
    (Code.rangeFunc g ps assign body).wpIn Fence.wide n Tryz.prog Q a w := by
  refine wpIn_rangeFunc ?_
  intro fn hfn
  let rec' : LoopState → Option Code → Loop := fun st pe => { state := st, pending := pe, fn := fn, tmps := a.tmps, params := ps, assign := assign, body := body, defers := w.heap.size }
  have hrl : ∀ st pe, rec' st pe = { state := st, pending := pe, fn := fn, tmps := a.tmps, params := ps, assign := assign, body := body, defers := w.heap.size } := fun _ _ => rfl
  generalize rec' = rc at hrl
  obtain ⟨W1, hW1⟩ : ∃ W1, (w.alloc (.deferred (some []))).alloc (.loop (rc .ready none)) = W1 := ⟨_, rfl⟩
  have hs1 : W1.heap.size = w.heap.size + 1 + 1 := by rw [← hW1]; simp
  have hL : W1.heap[w.heap.size + 1]? = some (.loop (rc .ready none)) := by rw [← hW1]; exact heap_alloc2_new w _ _
  have hD : W1.heap[w.heap.size]? = some (.deferred (some [])) := by rw [← hW1]; exact (Below.heap_alloc _ _ _ (by simp)).trans (heap_alloc_new w _)
  have hI1 : I [] W1 := by rw [← hW1]; exact hI.alloc _ (hI.alloc _ h0)
  have hb1 : Below w0.heap.size w0 W1 := by rw [← hW1]; exact hb0.trans ((((Below.refl _ w).alloc (Nat.le_refl _) _).alloc (by simp) _).mono hb0.size)
  refine ⟨w.heap.size + 1, [{ target := .collected w.heap.size, args := #[] }], W1, { target := .fn (.func gf) lb, args := #[.func (.yield (w.heap.size + 1)) #[] #[]] }, W1, gf, #[.func (.yield (w.heap.size + 1)) #[] #[]] ++ lb, W1, ?_, ?_, (fun _ _ => trivial), ?_, (fun h => by cases h), ?_⟩
  · rw [← hW1, hrl]; exact run_enterLoop_outer _ _ _ _ _
  · simp only [resolve, hg]
    simp [go_sem]
  · simp [invoke, go_sem, eg]
  have keep : ∀ {A B : World} {row : Option Nat} {q : Nat} {o : Obj}, q < W1.heap.size → A.heap[q]? = some o → A.grownBy B row → (∀ r, row = some r → W1.heap.size ≤ r ∧ ∃ o : Obj, A.heap[r]? = some o ∧ o.isCells = false) → B.heap[q]? = some o := by
    intro A B row q o hq ho hgr hr
    rw [hgr.block q (heapH_lt ho) (fun e => by have := (hr q e.symm).1; omega)]
    exact ho
  have low : ∀ {A : World} {row : Option Nat}, (∀ r, row = some r → W1.heap.size ≤ r ∧ ∃ o : Obj, A.heap[r]? = some o ∧ o.isCells = false) → ∀ r, row = some r → w.heap.size ≤ r ∧ ∃ o : Obj, A.heap[r]? = some o ∧ o.isCells = false :=
    fun h r e => ⟨by have := (h r e).1; omega, (h r e).2⟩
  refine (hseq (n - 1) (w.heap.size + 1) (fun pre W => I pre W ∧ W.heap[w.heap.size + 1]? = some (.loop (rc .ready none)) ∧ W.heap[w.heap.size]? = some (.deferred (some [])))
    (fun pre W => ∃ c, Ix c pre W ∧ W.heap[w.heap.size + 1]? = some (.loop (rc .done (some c))) ∧ W.heap[w.heap.size]? = some (.deferred (some [])))
    W1 hb1
    (fun s A B row hs hgr hr => ⟨hI s A B row hs.1 hgr (low hr), keep (by omega) hs.2.1 hgr hr, keep (by omega) hs.2.2 hgr hr⟩)
    (fun s A B row hs hgr hr => by
      obtain ⟨c, h1, h2, h3⟩ := hs
      exact ⟨c, hIx c s A B row h1 hgr (low hr), keep (by omega) h2 hgr hr, keep (by omega) h3 hgr hr⟩)
    (by have := hb0.size; omega) (by omega) (by omega) ⟨_, hL⟩ ?_ ⟨hI1, hL, hD⟩).mono ?_
  · rintro pre x W ⟨hi, hl, hk⟩ hpre
    have hlt := heapH_lt hl
    have hy := run_yield (P := Tryz.prog) (args := encs x) hl (by rw [hrl]; exact hps x)
    rw [hrl] at hy
    refine ⟨fn, _, assign, body, hy, roundIn_of_wpIn hfn (wpIn_mono (hround (w.heap.size + 1) pre x W hi hpre (by omega) hlt rfl) ?_)⟩
    rintro e1 a3 WA hp1
    cases e1 with
    | goto t => exact hp1.elim
    | panic ch => exact hp1.elim
    | outgrown => exact hp1.elim
    | ret => exact hp1.elim
    | exit id => exact hp1.elim
    | normal =>
    obtain ⟨hkA, hiA, hbody⟩ := hp1
    have hlA : WA.heap[w.heap.size + 1]? = some (.loop (rc .ready none)) := (hkA.2 _ hlt (by omega)).trans hl
    have hltA := heapH_lt hlA
    have hkkA : WA.heap[w.heap.size]? = some (.deferred (some [])) := (hkA.2 _ (by omega) (by omega)).trans hk
    have hl2 : (WA.putObj (w.heap.size + 1) (.loop { rc .ready none with state := .busy })).heap[w.heap.size + 1]? = some (.loop { rc .ready none with state := .busy }) := World.putObj_heap_same hltA
    have hk2 : (WA.putObj (w.heap.size + 1) (.loop { rc .ready none with state := .busy })).heap[w.heap.size]? = some (.deferred (some [])) := (World.putObj_heap_other (by omega)).trans hkkA
    refine ⟨_, run_beginRound hlA (by rw [hrl]), ?_⟩
    have hsz : (WA.putObj (w.heap.size + 1) (.loop { rc .ready none with state := .busy })).heap.size = WA.heap.size := by simp [World.putObj]
    have hi2 := hI.putObj (.loop { rc .ready none with state := .busy }) hiA (by omega) hlA rfl
    refine wpIn_mono (hbody _ hi2 (by rw [hsz]; exact hltA) hsz (fun r hr => World.putObj_heap_other hr)) ?_
    have fin : ∀ (jump : Option Code) (W3 : World), KeepBut (fun r => r = kb ∨ r < w.heap.size ∨ w.heap.size + 1 < r) (WA.putObj (w.heap.size + 1) (.loop { rc .ready none with state := .busy })) W3 →
        (Instr.endRound (w.heap.size + 1) jump).run Tryz.prog W3 = .ok (.bool jump.isNone) (W3.putObj (w.heap.size + 1) (.loop (rc (if jump.isNone then .ready else .done) jump))) ∧
        W3.heap[w.heap.size + 1]? = some (.loop { rc .ready none with state := .busy }) ∧
        (W3.putObj (w.heap.size + 1) (.loop (rc (if jump.isNone then .ready else .done) jump))).heap[w.heap.size + 1]? = some (.loop (rc (if jump.isNone then .ready else .done) jump)) ∧
        (W3.putObj (w.heap.size + 1) (.loop (rc (if jump.isNone then .ready else .done) jump))).heap[w.heap.size]? = some (.deferred (some [])) ∧
        W.heap.size ≤ (W3.putObj (w.heap.size + 1) (.loop (rc (if jump.isNone then .ready else .done) jump))).heap.size := by
      intro jump W3 hk3
      have hl3 : W3.heap[w.heap.size + 1]? = some (.loop { rc .ready none with state := .busy }) := (hk3.2 _ (by rw [hsz]; exact hltA) (by omega)).trans hl2
      have hk4 : W3.heap[w.heap.size]? = some (.deferred (some [])) := (hk3.2 _ (by rw [hsz]; omega) (by omega)).trans hk2
      have hrun := run_endRound (P := Tryz.prog) jump hl3
      rw [hrl] at hrun
      have hkA1 := hkA.1
      exact ⟨by rw [hrl]; exact hrun, hl3, World.putObj_heap_same (heapH_lt hl3), (World.putObj_heap_other (by omega)).trans hk4, by have := hk3.1; simp [World.putObj] at this ⊢; omega⟩
    rintro e a3 W3 hp
    cases e with
    | normal =>
      obtain ⟨hk3, hi3⟩ := hp
      obtain ⟨hr, hl3, hl4, hk4, hkk⟩ := fin none W3 (hk3.mono (fun r h => h.imp id .inr))
      refine ⟨_, _, hr, .inl ⟨rfl, ⟨hI.putObj _ hi3 (by omega) hl3 rfl, hl4, hk4⟩, ⟨hkk, fun r hr2 he => ?_⟩⟩⟩
      by_cases e1 : r = w.heap.size + 1
      · subst e1; exact hl4.trans hl.symm
      · rw [World.putObj_heap_other e1, hk3.2 r (by rw [hsz]; exact Nat.lt_of_lt_of_le hr2 hkA.1) he, World.putObj_heap_other e1]
        exact hkA.2 r hr2 (fun h => he (.inr h))
    | ret =>
      obtain ⟨hk3, hi3⟩ := hp
      obtain ⟨hr, hl3, hl4, hk4, hkk⟩ := fin (some .ret) W3 hk3
      exact ⟨_, _, hr, .inr ⟨rfl, ⟨.ret, (hIx _).putObj _ hi3 (by omega) hl3 rfl, hl4, hk4⟩⟩⟩
    | exit id =>
      obtain ⟨hk3, hi3⟩ := hp
      obtain ⟨hr, hl3, hl4, hk4, hkk⟩ := fin (some (.exit id)) W3 hk3
      exact ⟨_, _, hr, .inr ⟨rfl, ⟨.exit id, (hIx _).putObj _ hi3 (by omega) hl3 rfl, hl4, hk4⟩⟩⟩
    | goto t => exact hp.elim
    | panic ch => exact hp.elim
    | outgrown => exact hp.elim
  · rintro e W2 ⟨⟨v, rfl⟩, (⟨hi, hl, hk⟩ | ⟨pre, c, hi, hl, hk⟩)⟩
    · exact ⟨none, _, by have := run_endLoop (P := Tryz.prog) hl (by rw [hrl]; simp); rw [hrl] at this; exact this, hdone _ (hI.putObj _ hi (by omega) hl rfl) ((World.putObj_heap_other (by omega)).trans hk)⟩
    · exact ⟨some c, _, by have := run_endLoop (P := Tryz.prog) hl (by rw [hrl]; simp); rw [hrl] at this; exact this, hstop c pre _ ((hIx c).putObj _ hi (by omega) hl rfl) ((World.putObj_heap_other (by omega)).trans hk)⟩
end Go.Proofs.YtkbohoolnpaleaaGreatDoor
namespace Go.Proofs.YtkbohoolnpaleaaGreatDoor
open Go.RowKit Go.Shelf Go.Lib Go.Sort Go.Proofs Go.Maps
set_option maxHeartbeats 2000000
set_option maxRecDepth 100000
attribute [local go_sem] Oper.semAt_some

theorem c_SEach (w : World) (tb : Nat) (s : Int) : Calls Tryz.prog 113 #[.pointer (some ⟨tb, 0, none⟩), .int .i64 s] w fun e w' => e = .returned (.func (.func 141) #[] #[.pointer (some ⟨w.heap.size, 0, none⟩), .pointer (some ⟨w.heap.size + 1, 0, none⟩)]) ∧ w' = (w.alloc (.cells #[.pointer (some ⟨tb, 0, none⟩)] 53)).alloc (.cells #[.int .i64 s] 3) := by
  go_enter Tryz.func113, Tryz.ntmps113
  go_wp2
  go_ret
  exact ⟨rfl, rfl⟩
/-- keys that have been told, in a row that a box leads to -/
def ToldO (kb B : Nat) (w : World) (pre : List SL) (Y : World) : Prop :=
  (∃ v, Y.heap[kb]? = some (.cells #[v] 132 (0, 0)) ∧ Y.ownsRow B 43 2 v pre.length (flatK (pre.map (·.1)))) ∧ Below w.heap.size w Y
theorem ToldO.from {kb B D : Nat} {w : World} (hkb : kb < D) (hD : w.heap.size ≤ D) : OwnFrom D (ToldO kb B w) := by
  rintro pre W W' row ⟨⟨v, h1, h2⟩, h3⟩ hg hr
  refine ⟨⟨v, ?_, own_at h2 fun k hk => ?_⟩, ⟨hg.os.trans h3.os, hg.tape.trans h3.tape, hg.output.trans h3.output, Nat.le_trans h3.size hg.size, fun r hlt => (hg.block r (Nat.lt_of_lt_of_le hlt h3.size) (fun e => ?_)).trans (h3.block r hlt)⟩⟩
  · rw [hg.block kb (heapH_lt h1) (fun e => by have := (hr kb e.symm).1; omega)]; exact h1
  · refine hg.block k (h2.lt k hk).2 (fun e => ?_)
    obtain ⟨_, o, ho, hc⟩ := hr k e.symm
    rcases h2.2 with ⟨e1, _⟩ | ⟨g, cap, cur, e1, _, hg2, _⟩
    · subst e1; cases hk
    · subst e1
      simp [Value.ownBlock] at hk
      subst hk
      rw [hg2] at ho
      cases ho
      simp [Obj.isCells] at hc
  · have := (hr r e.symm).1; omega
theorem tb_after2 {w w5 : World} {tb i : Nat} {rv u : Value} {o : Obj} (hc : w.cell? ⟨tb, i, none⟩ = some u) (hf : w.frozen? ⟨tb, i, none⟩ = false) (hl : tb < w.heap.size) (hn : rv.ownBlock ≠ some tb) (hg : (w.alloc o).grownBy w5 rv.ownBlock) :
    w5.cell? ⟨tb, i, none⟩ = some u ∧ w5.frozen? ⟨tb, i, none⟩ = false := tb_after hc hf hl hn ⟨hg.os, hg.tape, hg.output, hg.size, hg.block⟩
theorem told_push {kb B n : Nat} {w W2 w5 : World} {pre : List SL} {x : SL} {v v' : Value} {o : Obj} (h1 : W2.heap[kb]? = some (.cells #[v] 132 (0, 0))) (h2 : W2.ownsRow B 43 2 v pre.length (flatK (pre.map (·.1)))) (h3 : Below w.heap.size w W2) (hkw : w.heap.size ≤ kb) (hkB : kb < B)
    (hg : (W2.alloc o).grownBy w5 v.ownBlock) (hn : n = pre.length + 1) (hown : w5.ownsRow B 43 2 v' n (flatK (pre.map (·.1)) ++ [.string x.1.1, .int .i64 x.1.2])) :
    KeepBut (fun r => r = kb ∨ B ≤ r) W2 (w5.setCell ⟨kb, 0, none⟩ v') ∧ ToldO kb B w (pre ++ [x]) (w5.setCell ⟨kb, 0, none⟩ v') := by
  have hk : ∀ r, r < W2.heap.size → ¬ B ≤ r → w5.heap[r]? = W2.heap[r]? := fun r hr hB => by
    rw [hg.block r (by simp; omega) (fun e => by have := (h2.lt r e.symm).1; omega), Below.heap_alloc _ _ _ hr]
  have hsz : W2.heap.size ≤ w5.heap.size := by have := hg.size; simp at this; omega
  have hkb := heapH_lt h1
  have e5 : w5.heap[kb]? = some (.cells #[v] 132 (0, 0)) := (hk kb hkb (by omega)).trans h1
  refine ⟨⟨by simpa [World.setCell] using hsz, fun r hr hne => ?_⟩, ⟨v', ?_, ?_⟩, ?_⟩
  · rw [Below.heap_setCell _ _ _ _ (show r ≠ kb from fun e => hne (.inl e))]
    exact hk r hr (fun e => hne (.inr e))
  · rw [heap_setCell_same w5 kb 0 _ _ _ e5]; rfl
  · have e1 : (pre ++ [x]).length = n := by simp [hn]
    have e2 : flatK ((pre ++ [x]).map (·.1)) = flatK (pre.map (·.1)) ++ [.string x.1.1, .int .i64 x.1.2] := by rw [List.map_append, flatK_app]; rfl
    rw [e1, e2]
    exact own_at hown fun r hr => Below.heap_setCell _ _ _ _ (show r ≠ kb by have := (hown.lt r hr).1; omega)
  · refine ⟨hg.os.trans h3.os, hg.tape.trans h3.tape, hg.output.trans h3.output, by simp [World.setCell]; exact Nat.le_trans h3.size hsz, fun r hr => ?_⟩
    rw [Below.heap_setCell _ _ _ _ (show r ≠ kb by omega), hk r (Nat.lt_of_lt_of_le hr h3.size) (by omega)]
    exact h3.block r hr
theorem c_SKeys {w : World} {f : Nat → Nat} {tb : Nat} {L : List (List KK)} (hN : Norm f w) (h : TreeO w f tb L) (s : Nat) (ks : List KK) (hs : L[s]? = some ks) (hlen : ks.length ≤ 1000) :
    Calls Tryz.prog 91 #[.pointer (some ⟨tb, 0, none⟩), .int .i64 (s : Int)] w fun e w' => ∃ (v : Value) (l : List KK), e = .returned (.tuple #[v, .int .i64 0]) ∧ RdK w' v l ∧ l.map pk = ks ∧ (∀ x ∈ l, okK x) ∧ Below w.heap.size w w' := by
  have hsl := (List.getElem?_eq_some_iff.1 hs).1
  have hI := Lib.hid (c_Sis h s hsl)
  obtain ⟨W7, hW7⟩ : ∃ W7, ((w.alloc (.cells #[.slice none 0 0] 132)).alloc (.cells #[.pointer (some ⟨tb, 0, none⟩)] 53)).alloc (.cells #[.int .i64 (s : Int)] 3) = W7 := ⟨_, rfl⟩
  have hb7 : Below w.heap.size w W7 := by rw [← hW7]; exact (((Below.refl _ w).alloc (Nat.le_refl _) _).alloc (by simp) _).alloc (by simp; omega) _
  have hs7 : W7.heap.size = w.heap.size + 3 := by rw [← hW7]; simp
  have k0 : W7.heap[w.heap.size]? = some (.cells #[.slice none 0 0] 132 (0, 0)) := by
    rw [← hW7, Below.heap_alloc _ _ _ (by simp; omega), Below.heap_alloc _ _ _ (by simp)]; exact heap_alloc_new w _
  have k1 : W7.heap[w.heap.size + 1]? = some (.cells #[.pointer (some ⟨tb, 0, none⟩)] 53 (0, 0)) := by
    rw [← hW7, Below.heap_alloc _ _ _ (by simp)]; exact heap_alloc2_new w _ _
  have k2 : W7.heap[w.heap.size + 2]? = some (.cells #[.int .i64 (s : Int)] 3 (0, 0)) := by
    rw [← hW7]
    have := heap_alloc2_new (w.alloc (.cells #[.slice none 0 0] 132)) (.cells #[.pointer (some ⟨tb, 0, none⟩)] 53) (.cells #[.int .i64 (s : Int)] 3)
    rwa [show (w.alloc (.cells #[.slice none 0 0] 132)).heap.size + 1 = w.heap.size + 2 by simp] at this
  have hN7 : Norm f W7 := fun r hr => hN r (Nat.le_trans hb7.size hr)
  have hT7 : TreeO W7 f tb L := h.turn (Turn.of_below (fun _ => False) hN hb7) id id id id
  obtain ⟨ss, hss, hok, hseq⟩ := eachS_seq hT7 hN7 s ks hs (w.heap.size + 1) (w.heap.size + 2) w.heap.size (by rw [cell_of_row _ _ 0 _ _ _ k1]; rfl) (by rw [cell_of_row _ _ 0 _ _ _ k2]; rfl) (by omega) (by omega) (hN _ (Nat.le_refl _)) hlen
  have hsn : ss.length ≤ 1000 := by have : ss.length = ks.length := by rw [← hss]; simp
                                    omega
  have hE := Lib.hid (c_SEach (w.alloc (.cells #[.slice none 0 0] 132)) tb (s : Int))
  have h0 : ToldO w.heap.size (W7.heap.size + 2) w [] W7 := ⟨⟨_, k0, ⟨rfl, .inl ⟨rfl, rfl⟩⟩⟩, hb7⟩
  have hJ : OwnFrom W7.heap.size (ToldO w.heap.size (W7.heap.size + 2) w) := ToldO.from (by omega) hb7.size
  have hkb : w.heap.size < W7.heap.size := by omega
  replace h0 := Lib.hid h0
  replace hJ := Lib.hid hJ
  replace hseq := Lib.hid hseq
  replace hb7 := Lib.hid hb7
  replace k0 := Lib.hid k0
  replace hss := Lib.hid hss
  replace hok := Lib.hid hok
  replace hs7 := Lib.hid hs7
  clear k1 k2 hT7 hN7 h hN hs
  refine (callsIn_wide (n := 5)).1 ?_
  refine callsIn_of_wp_marks Tryz.func91 rfl trivial ?_ rfl
  simp only [Tryz.ntmps91, List.size_toArray, List.length_cons, List.length_nil, Nat.reduceAdd, Nat.reduceSub, Array.replicate_succ, Array.replicate_zero, List.push_toArray, List.append_toArray, List.nil_append, List.cons_append]
  refine wpIn_wide.2 ?_
  go_wp2_with (first | (go_at_call 112; refine hI.out.mono ?_; rintro e w1 ⟨rfl, e1⟩; cases e1) | (go_at_call 113; refine hE.out.mono ?_; rintro e w2 ⟨rfl, rfl⟩))
  refine (wpIn_wide (n := 5)).1 ?_
  refine rangeA (n := 5) (gf := 141) (lb := #[.pointer (some ⟨w.heap.size + 1, 0, none⟩), .pointer (some ⟨w.heap.size + 2, 0, none⟩)]) (kb := w.heap.size) (w0 := W7) rfl (enters_of Tryz.func141 (by kernel_rfl) rfl) hseq.out (Below.refl _ _) hkb (fun _ => rfl)
    (ToldO w.heap.size (W7.heap.size + 2) w) (fun _ _ _ => False) hJ.out (fun c s A B row hs hg hr => hs.elim) h0.out ?round ?done ?stop
  case round =>
    intro l2 pre x Y hI0 hpre hl2 hl3 hl4
    subst hl4
    simp only [encSA]
    gi_wp2
    refine ⟨⟨by simp, fun r hr _ => Below.heap_alloc _ _ _ hr⟩, OwnFrom.alloc hJ.out _ hI0, ?_⟩
    rintro W2 hI2 hl5 hsz2 hsame
    have hkey : W2.heap[Y.heap.size]? = some (.cells #[.string x.1.1, .int .i64 x.1.2] 43 (0, 0)) := (hsame _ (by omega)).trans (heap_alloc_new Y _)
    have a1 : W2.cell? ⟨Y.heap.size, 0, none⟩ = some (.string x.1.1) := by rw [cell_of_row _ _ 0 _ _ _ hkey]; rfl
    have a2 : W2.cell? ⟨Y.heap.size, 1, none⟩ = some (.int .i64 x.1.2) := by rw [cell_of_row _ _ 1 _ _ _ hkey]; rfl
    obtain ⟨⟨v, q1, q2⟩, q3⟩ := hI2
    have a3 : W2.cell? ⟨w.heap.size, 0, none⟩ = some v := by rw [cell_of_row _ _ 0 _ _ _ q1]; rfl
    have a4 : W2.frozen? ⟨w.heap.size, 0, none⟩ = false := by simp [World.frozen?, q1]
    have lk := heapH_lt q1
    have hvk : v.ownBlock ≠ some w.heap.size := fun e => by have := (q2.lt _ e).1; omega
    have hpl : pre.length + 1 ≤ 1000 := by
      obtain ⟨t, ht⟩ := hpre
      have := congrArg List.length ht
      simp at this; omega
    have hm1 : pre.length + 1 ≤ maxLen ∧ (pre.length + 1) * 24 ≤ 140737488355328 := by unfold maxLen; omega
    obtain ⟨i0, hi0, hz0, hz1, hz2⟩ := info_parts infoKey
    replace hm1 := Lib.hid hm1
    have hWs : W7.heap.size + 2 ≤ W2.heap.size + 1 := by omega
    replace hsame := Lib.hid hsame
    replace hsz2 := Lib.hid hsz2
    replace hI0 := Lib.hid hI0
    clear hkey
    gi_wp2_with (first | (gi_at_builtin; refine wpListIn_append_own_at _ rfl _ _ _ rfl (W7.heap.size + 2) 43 i0 _ 2 24 Tryz.underlying132 hi0 hz0 hz1 hz2 rfl (by omega) v pre.length (flatK (pre.map (·.1))) rfl (q2.alloc _) ⟨W2.heap.size, 0, none⟩ 1 1 [.string x.1.1, .int .i64 x.1.2] rfl rfl (World.news_of_block (cs := #[.string x.1.1, .int .i64 x.1.2]) (t := 43) (fr := (0, 0)) (by exact heap_alloc_new W2 _)) (by simp [Value.oneCell']) hm1.out.1 hm1.out.2 (by rw [World.size_alloc]; exact hWs) ?_; intro v' w5 hown5 hg5 hn5 hat5; obtain ⟨hc5, hf5⟩ := tb_after2 a3 a4 lk hvk hg5; obtain ⟨gg, cap, rfl, _, _, _, _⟩ := row_front hown5 (by omega)))
    have hp := told_push q1 q2 q3 (Nat.le_refl _) (by omega) hg5 rfl hown5
    exact ⟨hp.1.mono (fun r h => h.imp id (fun h => by omega)), hp.2⟩
  case done =>
    rintro Y hI0 hK
    obtain ⟨⟨v, q1, q2⟩, q3⟩ := hI0
    have a3 : Y.cell? ⟨w.heap.size, 0, none⟩ = some v := by rw [cell_of_row _ _ 0 _ _ _ q1]; rfl
    go_wp2
    refine ⟨by simp, .inl ⟨_, _, rfl, run_takeDeferred hK, ?_⟩⟩
    refine ⟨_, results_tmp2 rfl _ _ _, v, ss.map (·.1), rfl, own_rdk (B := W7.heap.size + 2) (n := ss.length) (own_at q2 fun r hr => ?_), by rw [List.map_map]; exact hss.out, ?_, ?_⟩
    · exact World.putObj_heap_other (by have := (q2.lt r hr).1; omega)
    · intro x hx
      obtain ⟨y, hy, rfl⟩ := List.mem_map.1 hx
      exact hok.out y hy
    · exact ⟨q3.os, q3.tape, q3.output, by simpa [World.putObj] using q3.size, fun r hr => (World.putObj_heap_other (by omega)).trans (q3.block r hr)⟩
  case stop =>
    intro c pre Y hx
    exact hx.elim
end Go.Proofs.YtkbohoolnpaleaaGreatDoor
namespace Go.Proofs.YtkbohoolnpaleaaGreatDoor
open Go.RowKit Go.Shelf Go.Lib Go.Sort Go.Proofs Go.Maps
set_option maxHeartbeats 2000000
set_option maxRecDepth 100000

theorem c_Snew {w : World} {f : Nat → Nat} (hN : Norm f w) : Calls Tryz.prog 15 #[] w fun e w' => ∃ f', e = .returned (.pointer (some ⟨w.heap.size + 3, 0, none⟩)) ∧ Turn (fun _ => False) f f' w w' ∧ TreeO w' f' (w.heap.size + 3) [[]] := by
  have hmm := @run_makeMap Tryz.prog
  obtain ⟨W4, hW4⟩ : ∃ W4, (((w.alloc (.map #[] 0)).alloc (.cells #[.slice none 0 0, .map (some w.heap.size)] 78)).alloc (.map #[] 0)).alloc (.cells #[.int .i64 1, .slice (some ⟨w.heap.size + 1, 0, none⟩) 1 1, .map (some (w.heap.size + 2))] 82) = W4 := ⟨_, rfl⟩
  have hs4 : W4.heap.size = w.heap.size + 4 := by rw [← hW4]; simp
  have hb4 : Below w.heap.size w W4 := by rw [← hW4]; exact ((((Below.refl _ w).alloc (Nat.le_refl _) _).alloc (by simp) _).alloc (by simp; omega) _).alloc (by simp; omega) _
  have k0 : W4.heap[w.heap.size]? = some (.map #[] 0) := by
    rw [← hW4, Below.heap_alloc _ _ _ (by simp; omega), Below.heap_alloc _ _ _ (by simp; omega), Below.heap_alloc _ _ _ (by simp)]; exact heap_alloc_new w _
  have k1 : W4.heap[w.heap.size + 1]? = some (.cells #[.slice none 0 0, .map (some w.heap.size)] 78 (0, 0)) := by
    rw [← hW4, Below.heap_alloc _ _ _ (by simp), Below.heap_alloc _ _ _ (by simp)]; exact heap_alloc2_new w _ _
  have k2 : W4.heap[w.heap.size + 2]? = some (.map #[] 0) := by
    rw [← hW4, Below.heap_alloc _ _ _ (by simp)]
    have := heap_alloc2_new (w.alloc (.map #[] 0)) (.cells #[.slice none 0 0, .map (some w.heap.size)] 78) (.map #[] 0)
    rwa [show (w.alloc (.map #[] 0)).heap.size + 1 = w.heap.size + 2 by simp] at this
  have k3 : W4.heap[w.heap.size + 3]? = some (.cells #[.int .i64 1, .slice (some ⟨w.heap.size + 1, 0, none⟩) 1 1, .map (some (w.heap.size + 2))] 82 (0, 0)) := by
    rw [← hW4]
    have := heap_alloc_new (((w.alloc (.map #[] 0)).alloc (.cells #[.slice none 0 0, .map (some w.heap.size)] 78)).alloc (.map #[] 0)) (.cells #[.int .i64 1, .slice (some ⟨w.heap.size + 1, 0, none⟩) 1 1, .map (some (w.heap.size + 2))] 82)
    rwa [show (((w.alloc (.map #[] 0)).alloc (.cells #[.slice none 0 0, .map (some w.heap.size)] 78)).alloc (.map #[] 0)).heap.size = w.heap.size + 3 by simp] at this
  have hm : ∀ (k : TypeId) (b : Nat), W4.heap[b]? = some (.map #[] 0) → MapG W4 k b 0 (fun _ => none) := fun k b hb => by
    obtain ⟨D, ⟨es, cl, h1, h2⟩, h3⟩ := MapG.made w k 0
    rw [heap_alloc_new w (.map #[] 0)] at h1
    injection h1 with h1
    injection h1 with h1 h4
    subst h1
    subst h4
    exact ⟨D, ⟨#[], 0, hb, h2⟩, h3⟩
  have ht : Turn (fun _ => False) f (give f w W4 (fun r => if r = w.heap.size + 3 then 3 else if r = w.heap.size + 1 then 4 else if r = w.heap.size + 2 then 5 else 9)) w W4 :=
    (Turn.refl _ hN).give _ hb4.os hb4.tape hb4.output hb4.size (fun r hr _ => hb4.block r hr)
  have hT : TreeO W4 (give f w W4 (fun r => if r = w.heap.size + 3 then 3 else if r = w.heap.size + 1 then 4 else if r = w.heap.size + 2 then 5 else 9)) (w.heap.size + 3) [[]] := by
    refine ⟨_, w.heap.size + 2, 0, [(.slice none 0 0, w.heap.size)], fun _ => none, ⟨k3, ?_⟩, ⟨⟨by simp [flatE, encE], .inr ⟨w.heap.size + 1, 1, _, rfl, Nat.zero_le _, k1, Nat.le_refl _, by unfold maxLen; omega, rfl, rfl⟩⟩, ?_⟩, rfl, ⟨hm _ _ k2, ?_⟩, Nat.zero_le _, ?_, ?_⟩
    · rw [give_new (by omega) (by omega)]; simp
    · intro r hr
      simp [Value.ownBlock] at hr
      subst hr
      rw [give_new (by omega) (by omega)]; simp
    · rw [give_new (by omega) (by omega)]; simp
    · intro a ch k fl t _ _ _ h
      cases h
    · intro i ks hi
      cases i with
      | succ i => simp at hi
      | zero =>
        simp at hi
        subst hi
        refine ⟨_, rfl, [], fun _ => none, 0, ⟨⟨rfl, .inl ⟨rfl, rfl⟩⟩, fun r hr => by cases hr⟩, rfl, by simp, List.nodup_nil, ⟨hm _ _ k0, ?_⟩, Nat.le_refl _, fun x _ => rfl⟩
        rw [give_new (by omega) (by omega)]
        simp
  replace ht := Lib.hid ht
  replace hT := Lib.hid hT
  clear hm k0 k1 k2 k3 hb4 hs4
  go_enter Tryz.func15, Tryz.ntmps15
  go_wp2
  go_ret
  exact ⟨_, rfl, ht.out, hT.out⟩
theorem c_Creal0 (w : World) : Calls Tryz.prog 199 #[.pointer none] w fun e w' => e = .returned (.bool false) ∧ w' = w := by
  go_enter Tryz.func199, Tryz.ntmps199
  go_wp2
  go_ret
  exact ⟨rfl, rfl⟩
theorem c_SCached {w : World} {f : Nat → Nat} {tb : Nat} {L : List (List KK)} (hN : Norm f w) (h : TreeO w f tb L) (s : Nat) (ks : List KK) (hs : L[s]? = some ks) (k : KK) (hk : okK k) :
    Calls Tryz.prog 195 #[.pointer (some ⟨tb, 0, none⟩), .pointer none, .int .i64 (s : Int), keyV k.1 k.2] w fun e w' => Below w.heap.size w w' ∧
      ((∃ (i : Nat) (fl : Int), idx ks (pk k) = some i ∧ e = .returned (.tuple #[.int .i64 (i : Int), .int .i64 fl, .bool true])) ∨ (idx ks (pk k) = none ∧ e = .returned (.tuple #[.int .i64 0, .int .i64 0, .bool false]))) := by
  have hb1 : Below w.heap.size w (w.alloc (.cells #[.string k.1, .int .i64 k.2] 43)) := (Below.refl _ w).alloc (Nat.le_refl _) _
  have hF := c_SFind (w := w.alloc (.cells #[.string k.1, .int .i64 k.2] 43)) (fun r hr => hN r (Nat.le_trans hb1.size hr)) (h.turn (Turn.of_below (fun _ => False) hN hb1) id id id id) s ks hs k hk
  unfold keyV at hF ⊢
  replace hF := Lib.hid hF
  replace hb1 := Lib.hid hb1
  clear h hN hs hk
  go_enter Tryz.func195, Tryz.ntmps195
  go_wp2_with (first | (go_at_call 199; refine (c_Creal0 _).mono ?_; rintro e w1 ⟨rfl, rfl⟩) | (go_at_call 196; refine hF.out.mono ?_; rintro e w2 ⟨hb2, hr⟩; replace hb2 := Lib.hid hb2; rcases hr with ⟨i, fl, hi, rfl⟩ | ⟨hi, rfl⟩))
  all_goals go_ret3
  · exact ⟨hb1.out.trans (hb2.out.mono hb1.out.size), .inl ⟨i, fl, hi, rfl⟩⟩
  · exact ⟨hb1.out.trans (hb2.out.mono hb1.out.size), .inr ⟨hi, rfl⟩⟩
end Go.Proofs.YtkbohoolnpaleaaGreatDoor
namespace Go.Proofs.YtkbohoolnpaleaaGreatDoor
open Go.RowKit Go.Shelf Go.Lib Go.Sort Go.Proofs Go.Maps
set_option maxHeartbeats 2000000
set_option maxRecDepth 100000

/-- a value -/
structure VV where
  k : Int
  x : Nat
  s : ByteArray
  r : Int
/-- a property -/
structure PV where
  v : VV
  g : VV
  t : VV
  fl : Int
def encP (p : PV) : List Value :=
  [.int .i64 p.v.k, .float .f64 p.v.x, .string p.v.s, .int .i64 p.v.r, .int .i64 p.g.k, .float .f64 p.g.x, .string p.g.s, .int .i64 p.g.r, .int .i64 p.t.k, .float .f64 p.t.x, .string p.t.s, .int .i64 p.t.r, .int .i64 p.fl]
def propV (p : PV) : Value := .agg (encP p).toArray
def zeroVV : VV := ⟨0, 0, ⟨#[]⟩, 0⟩
def zeroPV : PV := ⟨zeroVV, zeroVV, zeroVV, 0⟩
def flatP (l : List PV) : List Value := l.flatMap encP
theorem flatP_len (l : List PV) : (flatP l).length = l.length * 13 := fm_len (k := 13) (fun _ => rfl) l
theorem flatP_get {l : List PV} {i : Nat} {p : PV} (h : l[i]? = some p) {j : Nat} {v : Value} (hj : (encP p)[j]? = some v) : (flatP l)[i * 13 + j]? = some v := fm_get (enc := encP) (k := 13) (fun _ => rfl) h hj
theorem encP_one (p : PV) : ∀ u ∈ encP p, u.oneCell' = true := by simp [encP, Value.oneCell']
/-- a fast object's properties, one for each key of its shape -/
def FastO (w : World) (f : Nat → Nat) (c fb : Nat) (L : List (List KK)) (ks : List KK) (ps : List PV) : Prop :=
  ∃ (s : Nat) (lv : Value), (w.heap[fb]? = some (.cells #[.int .i64 (s : Int), lv] 111 (0, 0)) ∧ f fb = c) ∧ RowO w f c 39 13 lv ps.length (flatP ps) ∧ L[s]? = some ks ∧ ks.length = ps.length
theorem FastO.turn {C : Nat → Prop} {f f' : Nat → Nat} {w w' : World} {c fb : Nat} {L L' : List (List KK)} {ks : List KK} {ps : List PV} (h : FastO w f c fb L ks ps) (ht : Turn C f f' w w') (hc : ¬ C c) (hL : ∀ (i : Nat) ks, L[i]? = some ks → L'[i]? = some ks) : FastO w' f' c fb L' ks ps := by
  obtain ⟨s, lv, h1, h2, h3, h4⟩ := h
  exact ⟨s, lv, blk_turn h1 ht hc, h2.turn ht hc, hL _ _ h3, h4⟩
end Go.Proofs.YtkbohoolnpaleaaGreatDoor
namespace Go.Proofs.YtkbohoolnpaleaaGreatDoor
open Go.RowKit Go.Shelf Go.Lib Go.Sort Go.Proofs Go.Maps
set_option maxHeartbeats 2000000
set_option maxRecDepth 100000

/-- several cells are set, one after the other -/
def setL : List Value → Nat → List Value → List Value
  | l, _, [] => l
  | l, o, v :: vs => setL (l.set o v) (o + 1) vs
theorem setL_len (l : List Value) (o : Nat) (vs : List Value) : (setL l o vs).length = l.length := by
  induction vs generalizing l o with
  | nil => rfl
  | cons v vs ih => rw [setL, ih]; simp
theorem setL_app (a l : List Value) (o : Nat) (vs : List Value) : setL (a ++ l) (a.length + o) vs = a ++ setL l o vs := by
  induction vs generalizing l o with
  | nil => rfl
  | cons v vs ih =>
    rw [setL, setL, List.set_append_right _ _ (by omega), show a.length + o - a.length = o by omega, Nat.add_assoc, ih]
theorem setL_front (a l vs : List Value) (h : a.length = vs.length) : setL (a ++ l) 0 vs = vs ++ l := by
  induction vs generalizing a with
  | nil => cases a <;> simp_all [setL]
  | cons v vs ih =>
    cases a with
    | nil => simp at h
    | cons x a =>
      rw [setL, List.cons_append, List.set_cons_zero]
      have := setL_app [v] (a ++ l) 0 vs
      rw [show ([v] : List Value).length + 0 = 0 + 1 by simp] at this
      rw [show (v :: (a ++ l)) = [v] ++ (a ++ l) from rfl, this, ih a (by simpa using h)]
      rfl
theorem fm_setL {α : Type} {enc : α → List Value} {k : Nat} (h : ∀ x, (enc x).length = k) {l : List α} : ∀ {i : Nat} {x' : α}, i < l.length → setL (l.flatMap enc) (i * k) (enc x') = (l.set i x').flatMap enc := by
  induction l with
  | nil => intro i x' hi; simp at hi
  | cons a l ih =>
    intro i x' hi
    cases i with
    | zero =>
      rw [List.set_cons_zero, List.flatMap_cons, List.flatMap_cons, Nat.zero_mul, setL_front _ _ _ (by rw [h, h])]
    | succ i =>
      rw [List.set_cons_succ, List.flatMap_cons, List.flatMap_cons, show (i + 1) * k = (enc a).length + i * k by rw [h, Nat.add_mul]; omega, setL_app, ih (by simpa using hi)]
theorem heap_setCells {b : Nat} {t : TypeId} : ∀ (vs : List Value) (o : Nat) (w : World) (cs : Array Value), w.heap[b]? = some (.cells cs t (0, 0)) → (w.setCells b o vs).heap[b]? = some (.cells (setL cs.toList o vs).toArray t (0, 0))
  | [], o, w, cs, h => by rw [World.setCells, setL]; exact h
  | v :: vs, o, w, cs, h => by
    rw [World.setCells, setL]
    have := heap_setCells vs (o + 1) _ _ (Go.heap_setCell_same w b o cs t v h)
    rwa [Array.toList_setIfInBounds] at this
theorem heap_setCells_all {b : Nat} {t : TypeId} {w : World} {cs : Array Value} {vs : List Value} (h : w.heap[b]? = some (.cells cs t (0, 0))) (hl : cs.size = vs.length) : (w.setCells b 0 vs).heap[b]? = some (.cells vs.toArray t (0, 0)) := by
  rw [heap_setCells vs 0 w cs h]
  have := setL_front cs.toList [] vs (by simpa using hl)
  simp at this
  rw [this]
theorem heap_setCells_ne {b r : Nat} : ∀ (vs : List Value) (o : Nat) (w : World), r ≠ b → (w.setCells b o vs).heap[r]? = w.heap[r]?
  | [], _, _, _ => rfl
  | v :: vs, o, w, h => by
    rw [World.setCells, heap_setCells_ne vs (o + 1) _ h, Below.heap_setCell _ _ _ _ h]
theorem size_setCellsH (b : Nat) : ∀ (vs : List Value) (o : Nat) (w : World), (w.setCells b o vs).heap.size = w.heap.size ∧ (w.setCells b o vs).os = w.os ∧ (w.setCells b o vs).tape = w.tape ∧ (w.setCells b o vs).output = w.output
  | [], _, _ => ⟨rfl, rfl, rfl, rfl⟩
  | v :: vs, o, w => by
    rw [World.setCells]
    have := size_setCellsH b vs (o + 1) (w.setCell ⟨b, o, none⟩ v)
    exact ⟨this.1.trans (by simp [World.setCell]), this.2.1, this.2.2.1, this.2.2.2⟩
theorem row_setL {B : Nat} {e : TypeId} {size n cap g : Nat} : ∀ (vs : List Value) (j : Nat) (w : World) (xs : List Value), w.ownsRow B e size (.slice (some ⟨g, 0, none⟩) n cap) n xs → (w.setCells g j vs).ownsRow B e size (.slice (some ⟨g, 0, none⟩) n cap) n (setL xs j vs)
  | [], _, _, _, h => h
  | v :: vs, j, w, xs, h => by
    rw [World.setCells, setL]
    exact row_setL vs (j + 1) _ _ (row_set h j v)
theorem below_setC {B : Nat} {a w : World} (h : Below B a w) {b : Nat} (hb : B ≤ b) (vs : List Value) (o : Nat) : Below B a (w.setCells b o vs) := by
  obtain ⟨h1, h2, h3, h4⟩ := size_setCellsH b vs o w
  exact ⟨h2.trans h.os, h3.trans h.tape, h4.trans h.output, by rw [h1]; exact h.size, fun r hr => (heap_setCells_ne vs o w (by omega)).trans (h.block r hr)⟩
theorem infoProp : (Tryz.prog.info? 39).map (·.size) = some 13 := by kernel_rfl
theorem rowProp : (Tryz.prog.underlying 39).isSome = true := by kernel_rfl
theorem there_of {w : World} {b o n : Nat} {cs : Array Value} {t : TypeId} (h : w.heap[b]? = some (.cells cs t (0, 0))) (hn : o + n ≤ cs.size) : w.there b o n := fun j hj => by
  refine ⟨?_, by simp [World.frozen?, h]⟩
  rw [cell_of_row w b (o + j) _ _ _ h]
  simp; omega
theorem results_cell_tmp_row {fn : Func} {p u : Tmp} (h : fn.results = #[.cell p 39, .tmp u]) (tmps : Array Value) (w : World) (g : Nat) (t : TypeId) (cs : Array Value) (fr : Nat × Nat) (x : Value)
    (hp : tmps.getD p undef = .pointer (some ⟨g, 0, none⟩)) (hx : tmps.getD u undef = x) (hg : w.heap[g]? = some (.cells cs t fr)) (hi : (Tryz.prog.info? 39).map (·.size) = some cs.size) :
    (results fn tmps).run Tryz.prog w = .ok (.tuple #[.agg cs, x]) w := by
  have hl := run_loadVar_row (P := Tryz.prog) w g t 39 cs fr _ hg Tryz.underlying39 rfl hi
  rw [results_cell_tmp h, hp, hx]
  simp [asAddr, hl, Result.andThen]
theorem range_of {w : World} {g n cap : Nat} {B : Nat} {ps : List PV} (h : w.ownsRow B 39 13 (.slice (some ⟨g, 0, none⟩) n cap) n (flatP ps)) {i : Nat} {p : PV} (hi : ps[i]? = some p) : w.rangeAt g (i * 13) (encP p) := fun j v hv => by
  have := h.cells (g := g) rfl _ _ (flatP_get hi hv)
  rwa [Addr.add_lit, Nat.zero_add] at this
theorem range_at {w w' : World} {b o : Nat} {cs : List Value} (h : w.rangeAt b o cs) (hb : w'.heap[b]? = w.heap[b]?) : w'.rangeAt b o cs := fun j v hv => (World.cell?_of_block (w := w) (a := ⟨b, o + j, none⟩) hb).trans (h j v hv)
theorem own_form {ks : List KK} {K : KK} {e : Ending} (h : (∃ (i : Nat) (fl : Int), idx ks K = some i ∧ e = .returned (.tuple #[.int .i64 (i : Int), .int .i64 fl, .bool true])) ∨ (idx ks K = none ∧ e = .returned (.tuple #[.int .i64 0, .int .i64 0, .bool false]))) :
    ∃ (z fl : Int) (bo : Bool), e = .returned (.tuple #[.int .i64 z, .int .i64 fl, .bool bo]) ∧ ((∃ i : Nat, idx ks K = some i ∧ z = (i : Int) ∧ bo = true) ∨ (idx ks K = none ∧ bo = false)) := by
  rcases h with ⟨i, fl, h1, h2⟩ | ⟨h1, h2⟩
  · exact ⟨_, fl, _, h2, .inl ⟨i, h1, rfl, rfl⟩⟩
  · exact ⟨_, _, _, h2, .inr ⟨h1, rfl⟩⟩
theorem c_FAown {w : World} {f : Nat → Nat} {tb c fb : Nat} {L : List (List KK)} {ks : List KK} {ps : List PV} (hN : Norm f w) (hT : TreeO w f tb L) (h : FastO w f c fb L ks ps) (k : KK) (hk : okK k) :
    Calls Tryz.prog 193 #[.pointer (some ⟨fb, 0, none⟩), .pointer (some ⟨tb, 0, none⟩), .pointer none, keyV k.1 k.2] w fun e w' => Below w.heap.size w w' ∧
      ((∃ (i : Nat) (p : PV), idx ks (pk k) = some i ∧ ps[i]? = some p ∧ e = .returned (.tuple #[propV p, .bool true])) ∨ (idx ks (pk k) = none ∧ e = .returned (.tuple #[propV zeroPV, .bool false]))) := by
  obtain ⟨s, lv, h1, h2, h3, h4⟩ := h
  unfold keyV
  obtain ⟨k0, kn⟩ := k
  dsimp only
  obtain ⟨W2, hW2⟩ : ∃ W2, (w.alloc (.cells #[.string k0, .int .i64 kn] 43)).alloc (.cells (encP zeroPV).toArray 39) = W2 := ⟨_, rfl⟩
  have hb2 : Below w.heap.size w W2 := by rw [← hW2]; exact ((Below.refl _ w).alloc (Nat.le_refl _) _).alloc (by simp) _
  have hs2 : W2.heap.size = w.heap.size + 2 := by rw [← hW2]; simp
  have d0 : W2.heap[w.heap.size]? = some (.cells #[.string k0, .int .i64 kn] 43 (0, 0)) := by rw [← hW2, Below.heap_alloc _ _ _ (by simp)]; exact heap_alloc_new w _
  have z0 : W2.heap[w.heap.size + 1]? = some (.cells (encP zeroPV).toArray 39 (0, 0)) := by rw [← hW2]; exact heap_alloc2_new w _ _
  have kc0 : W2.cell? ⟨w.heap.size, 0, none⟩ = some (.string k0) := by rw [cell_of_row _ _ 0 _ _ _ d0]; rfl
  have kc1 : W2.cell? ⟨w.heap.size, 1, none⟩ = some (.int .i64 kn) := by rw [cell_of_row _ _ 1 _ _ _ d0]; rfl
  have lf := heapH_lt h1.1
  have c0 : W2.cell? ⟨fb, 0, none⟩ = some (.int .i64 (s : Int)) := by rw [hb2.cell (p := ⟨fb, 0, none⟩) lf, cell_of_row _ _ 0 _ _ _ h1.1]; rfl
  have hC := fun (y : World) (hy : Below W2.heap.size W2 y) => c_SCached (w := y) (f := f) (fun r hr => hN r (Nat.le_trans hb2.size (Nat.le_trans hy.size hr))) (hT.turn (Turn.of_below (fun _ => False) hN (hb2.trans (hy.mono hb2.size))) id id id id) s ks h3 (k0, kn) hk
  unfold keyV at hC
  have t1 : w.heap.size < W2.heap.size := by omega
  have t2 : fb < W2.heap.size := by omega
  replace hC := Lib.hid hC
  replace hs2 := Lib.hid hs2
  replace h1 := Lib.hid h1
  replace h4 := Lib.hid h4
  replace h2 := Lib.hid h2
  simp only [encP, zeroPV, zeroVV] at hW2
  clear d0 hN hT h3 hk
  go_enter Tryz.func193, Tryz.ntmps193
  go_wp2_with fail
  go_region_held3 (fun y => (∀ a : Addr, a.block < W2.heap.size → y.cell? a = W2.cell? a) ∧ (∀ b : Nat, b < W2.heap.size → y.heap[b]? = W2.heap[b]?) ∧ Below W2.heap.size W2 y) (first | assumption | exact onto_drew W2 | exact onto_below (by assumption) (by assumption)) (first | (go_at_call 195; refine (hC.out _ (And.right (And.right (by assumption)))).mono ?_; rintro e y' ⟨hb, hr⟩; replace hr := own_form hr; obtain ⟨z, fl, bo, rfl, hr⟩ := hr))
  have hO := onto_below (onto_drew W2) hb
  have z1 : y'.heap[w.heap.size + 1]? = some (.cells (encP zeroPV).toArray 39 (0, 0)) := (hO.2.1 _ (by have := hs2.out; omega)).trans z0
  have hbw := hb2.trans (hO.2.2.mono hb2.size)
  replace hbw := Lib.hid hbw
  replace hb2 := Lib.hid hb2
  have hth := there_of (n := 13) (o := 0) z1 (by simp [encP])
  rcases hr with ⟨i, hi, rfl, rfl⟩ | ⟨hi, rfl⟩
  · have hil : i < ps.length := by rw [← h4.out]; exact idx_lt hi
    obtain ⟨p, hp⟩ : ∃ p, ps[i]? = some p := ⟨_, List.getElem?_eq_getElem hil⟩
    obtain ⟨g, cap, rfl, g1, g2⟩ := h2.out.1.form (by omega)
    have hg := (h2.out.1.lt g rfl).2
    have c1 : y'.cell? ⟨fb, 1, none⟩ = some (.slice (some ⟨g, 0, none⟩) ps.length cap) := by
      rw [World.cell?_of_block (w := w) (a := ⟨fb, 1, none⟩) (hbw.out.block fb lf), cell_of_row _ _ 1 _ _ _ h1.out.1]; rfl
    have hrg := range_at (range_of h2.out.1 hp) (hbw.out.block g hg)
    have hi13 : (Tryz.prog.info? 39).map (·.size) = some (encP p).length := infoProp
    have hj13 : (Tryz.prog.info? 39).map (·.size) = some (encP p).toArray.size := infoProp
    have ho13 := all_oneCell_toArray (encP_one p)
    have p3 : (0 : Int) ≤ (i : Int) := by omega
    have p4 : (i : Int) < (ps.length : Int) := by omega
    replace z1 := Lib.hid z1
    replace hi := Lib.hid hi
    replace hp := Lib.hid hp
    clear hO hb kc0 kc1 c0 t1 t2
    go_wp2_with (first | (refine wpList_load_mid (by rfl) 39 _ (by rfl) g (i * 13) (by rfl) (encP p) _ hrg Tryz.underlying39 rfl hi13 ?_) | (refine wpList_store_mid (by rfl) 39 _ _ (by rfl) (w.heap.size + 1) 0 (encP p).toArray (by rfl) (by rfl) hth hj13 ho13 ?_))
    have hz := heap_setCells_all (t := 39) (vs := encP p) z1.out rfl
    refine bodyPost_ret (results_cell_tmp_row rfl _ _ (w.heap.size + 1) 39 (encP p).toArray (0, 0) _ rfl rfl hz infoProp) rfl ?_
    exact ⟨below_setC hbw.out (by omega) _ _, .inl ⟨i, p, hi.out, hp.out, rfl⟩⟩
  · replace z1 := Lib.hid z1
    clear hO hb kc0 kc1 c0 t1 t2
    have hi13 : (Tryz.prog.info? 39).map (·.size) = some (encP zeroPV).toArray.size := infoProp
    have ho13 := all_oneCell_toArray (encP_one zeroPV)
    go_wp2_with (first | (refine wpList_store_mid (by rfl) 39 _ _ (by rfl) (w.heap.size + 1) 0 (encP zeroPV).toArray (by rfl) (by rfl) hth hi13 ho13 ?_))
    have hz := heap_setCells_all (t := 39) (vs := encP zeroPV) z1.out rfl
    refine bodyPost_ret (results_cell_tmp_row rfl _ _ (w.heap.size + 1) 39 (encP zeroPV).toArray (0, 0) _ rfl rfl hz infoProp) rfl ?_
    exact ⟨below_setC hbw.out (by omega) _ _, .inr ⟨hi, rfl⟩⟩
end Go.Proofs.YtkbohoolnpaleaaGreatDoor
namespace Go.Proofs.YtkbohoolnpaleaaGreatDoor
open Go.RowKit Go.Shelf Go.Lib Go.Sort Go.Proofs Go.Maps
set_option maxHeartbeats 2000000
set_option maxRecDepth 100000

/-- a list of shapes that has grown by one at most -/
def LePre (L L' : List (List KK)) : Prop := L'.length ≤ L.length + 1 ∧ ∀ (i : Nat) ks, L[i]? = some ks → L'[i]? = some ks
theorem LePre.refl (L : List (List KK)) : LePre L L := ⟨by omega, fun _ _ h => h⟩
theorem lePre_of {L L' : List (List KK)} {T : List KK} (h : L' = L ∨ L' = L ++ [T]) : LePre L L' := by
  rcases h with rfl | rfl
  · exact LePre.refl _
  · exact ⟨by simp, fun i ks h => by rw [List.getElem?_append_left (List.getElem?_eq_some_iff.1 h).1]; exact h⟩
theorem shape_nodup {w : World} {f : Nat → Nat} {tb : Nat} {L : List (List KK)} (h : TreeO w f tb L) {s : Nat} {ks : List KK} (hs : L[s]? = some ks) : ks.Nodup := by
  obtain ⟨rv, bw, n, ents, gw, q1, q2, q3, q4, q5, q6, q7⟩ := h
  obtain ⟨e, _, ss, g, m, _, _, _, h4, _⟩ := q7 s ks hs
  exact h4
def CP (c x : Nat) : Prop := C3 x ∨ x = c
/-- Add, its answers together -/
theorem c_SAdd2 {w : World} {f : Nat → Nat} {tb : Nat} {L : List (List KK)} (hN : Norm f w) (h : TreeO w f tb L) (hL : L.length < 100000) (s : Nat) (A : List KK) (hs : L[s]? = some A) (k : KK) (hk : okK k) (hno : idx A (pk k) = none) (fl : Int) (h0 : 0 ≤ fl) (h15 : fl ≤ 15) :
    Calls Tryz.prog 197 #[.pointer (some ⟨tb, 0, none⟩), .int .i64 (s : Int), keyV k.1 k.2, .int .i64 fl] w fun e w' =>
      ∃ (t : Nat) (er : Int) (f' : Nat → Nat) (L' : List (List KK)), e = .returned (.tuple #[.int .i64 (t : Int), .int .i64 er]) ∧ (Turn C3 f f' w w' ∧ TreeO w' f' tb L' ∧ LePre L L') ∧ ((er = 2 ∧ 128 ≤ A.length) ∨ (er = 0 ∧ A.length < 128 ∧ L'[t]? = some (A ++ [pk k]))) := by
  refine (c_SAdd hN h hL s A hs k hk hno fl h0 h15).mono ?_
  rintro e w' (⟨h1, rfl, hb⟩ | ⟨h1, t, f', L', rfl, h2, h3, h4, h5⟩)
  · exact ⟨0, 2, f, L, rfl, ⟨Turn.of_below _ hN hb, h.turn (Turn.of_below (fun _ => False) hN hb) id id id id, LePre.refl _⟩, .inl ⟨rfl, h1⟩⟩
  · exact ⟨t, 0, f', L', rfl, ⟨h2, h3, lePre_of h5⟩, .inr ⟨rfl, h1, h4⟩⟩
/-- all that is not the tree's reads as in W -/
theorem exc_drew (W : World) (f : Nat → Nat) : (∀ a : Addr, a.block < W.heap.size → ¬ C3 (f a.block) → W.drew.cell? a = W.cell? a) ∧ (∀ b : Nat, b < W.heap.size → ¬ C3 (f b) → W.drew.heap[b]? = W.heap[b]?) ∧ W.heap.size ≤ W.drew.heap.size := ⟨fun _ _ _ => rfl, fun _ _ _ => rfl, Nat.le_refl _⟩
theorem exc_turn {W y : World} {f f' : Nat → Nat} (h : Turn C3 f f' W.drew y) : (∀ a : Addr, a.block < W.heap.size → ¬ C3 (f a.block) → y.cell? a = W.cell? a) ∧ (∀ b : Nat, b < W.heap.size → ¬ C3 (f b) → y.heap[b]? = W.heap[b]?) ∧ W.heap.size ≤ y.heap.size :=
  ⟨fun a ha hc => World.cell?_of_block (h.block a.block ha hc), fun b hb hc => h.block b hb hc, h.size⟩
theorem nC3 {f : Nat → Nat} {r c : Nat} (h : f r = c) (hc : 10 ≤ c) : ¬ C3 (f r) := by rw [h]; unfold C3; omega
theorem nC3_new {f : Nat → Nat} {w : World} (hN : Norm f w) {r : Nat} (h : w.heap.size ≤ r) : ¬ C3 (f r) := by rw [hN r h]; unfold C3; omega
theorem cp_of {c : Nat} {f f' : Nat → Nat} {w w' : World} (h : Turn C3 f f' w w') : Turn (CP c) f f' w w' := h.mono fun _ h => .inl h
theorem FastO.keep {C : Nat → Prop} {f f' : Nat → Nat} {w w' : World} {c fb : Nat} {L L' : List (List KK)} {ks : List KK} {ps : List PV} (h : FastO w f c fb L ks ps) (ht : Turn C f f' w w') (hc : ¬ C c) (hL : LePre L L') : FastO w' f' c fb L' ks ps := h.turn ht hc hL.2
theorem row_type {w : World} {B e size n : Nat} {v : Value} {xs : List Value} (h : w.ownsRow B e size v n xs) {r : Nat} (hr : v.ownBlock = some r) : ∃ cur, w.heap[r]? = some (.cells cur e (0, 0)) := by
  rcases h.2 with ⟨e, _⟩ | ⟨g, cap, cur, e, _, hg, _⟩
  · rw [e] at hr; cases hr
  · rw [e] at hr; injection hr with hr; subst hr; exact ⟨_, hg⟩
theorem row_not {w : World} {B e size n : Nat} {v : Value} {xs : List Value} (h : w.ownsRow B e size v n xs) {b : Nat} {cs : Array Value} {t : TypeId} {fr : Nat × Nat} (hb : w.heap[b]? = some (.cells cs t fr)) (ht : t ≠ e) : v.ownBlock ≠ some b := fun hr => by
  obtain ⟨cur, hc⟩ := row_type h hr
  rw [hb] at hc
  injection hc with hc
  injection hc with _ hc
  exact ht hc
theorem fast_push {w y2 w5 : World} {f f2 : Nat → Nat} {tb c fb gg cap t : Nat} {s : Int} {lv : Value} {L2 : List (List KK)} {ks' : List KK} {ps : List PV} {p : PV} {o : Obj}
    (hTw : Turn (CP c) f f2 w y2) (hT2 : TreeO y2 f2 tb L2) (h1 : y2.heap[fb]? = some (.cells #[.int .i64 s, lv] 111 (0, 0)) ∧ f2 fb = c) (h2 : RowO y2 f2 c 39 13 lv ps.length (flatP ps)) (hc : 10 ≤ c)
    (hs : L2[t]? = some ks') (hl : ks'.length = ps.length + 1) (hg : ((y2.setCell ⟨fb, 0, none⟩ (.int .i64 (t : Int))).alloc o).grownBy w5 lv.ownBlock) (hat : lv.ownBlock = some gg ∨ gg = y2.heap.size + 1)
    (hown : w5.ownsRow 0 39 13 (.slice (some ⟨gg, 0, none⟩) (ps.length + 1) cap) (ps.length + 1) (flatP ps ++ encP p)) :
    ∃ f', Turn (CP c) f f' w (w5.setCell ⟨fb, 1, none⟩ (.slice (some ⟨gg, 0, none⟩) (ps.length + 1) cap)) ∧ TreeO (w5.setCell ⟨fb, 1, none⟩ (.slice (some ⟨gg, 0, none⟩) (ps.length + 1) cap)) f' tb L2 ∧ FastO (w5.setCell ⟨fb, 1, none⟩ (.slice (some ⟨gg, 0, none⟩) (ps.length + 1) cap)) f' c fb L2 ks' (ps ++ [p]) := by
  have lf := heapH_lt h1.1
  have nf := row_not h2.1 h1.1 (by decide)
  have t1 : Turn (fun x => x = c) f2 f2 y2 (y2.setCell ⟨fb, 0, none⟩ (.int .i64 (t : Int))) := (Turn.refl _ hTw.norm).set fb 0 _ h1.2
  have t2 := t1.alloc o
  have t3 := t2.grown (fun _ => c) hg (fun r hr => h2.2 r hr)
  have sz : ((y2.setCell ⟨fb, 0, none⟩ (.int .i64 (t : Int))).alloc o).heap.size = y2.heap.size + 1 := by simp
  have t4 := t3.set fb 1 (.slice (some ⟨gg, 0, none⟩) (ps.length + 1) cap) (by rw [give_old (by rw [sz]; omega)]; exact h1.2)
  have t5 := t4.mono (C' := CP c) (fun x hx => .inr hx)
  have e5 : w5.heap[fb]? = some (.cells #[.int .i64 (t : Int), lv] 111 (0, 0)) := by
    rw [hg.block fb (by rw [sz]; omega) (fun e => nf e.symm), Below.heap_alloc _ _ _ (by simp; omega), heap_setCell_same y2 fb 0 _ _ _ h1.1]; rfl
  have ng : gg ≠ fb := by
    rcases hat with h | h
    · intro e; subst e; exact nf h
    · omega
  have lg := (hown.lt gg rfl).2
  refine ⟨_, hTw.trans t5, hT2.turn t4 (by omega) (by omega) (by omega) (by omega), t, .slice (some ⟨gg, 0, none⟩) (ps.length + 1) cap, ⟨?_, ?_⟩, ⟨?_, ?_⟩, hs, by simpa using hl⟩
  · rw [heap_setCell_same w5 fb 1 _ _ _ e5]; rfl
  · rw [give_old (by rw [sz]; omega)]; exact h1.2
  · have e1 : (ps ++ [p]).length = ps.length + 1 := by simp
    have e2 : flatP (ps ++ [p]) = flatP ps ++ encP p := by simp [flatP]
    rw [e1, e2]
    exact own_at hown fun r hr => by
      injection hr with hr; subst hr
      exact Below.heap_setCell _ _ _ _ ng
  · intro r hr
    injection hr with hr
    change gg = r at hr
    subst hr
    rcases hat with h | h
    · rw [give_old (by rw [sz]; have := (h2.1.lt gg h).2; omega)]; exact h2.2 gg h
    · rw [give_new (by rw [sz]; omega) lg]
/-- a property's cells in a block of its own -/
theorem cells13 {W : World} {b : Nat} {p : PV} (h : W.heap[b]? = some (.cells (encP p).toArray 39 (0, 0))) : W.cell? ⟨b, 0, none⟩ = some (.int .i64 p.v.k) ∧ W.cell? ⟨b, 1, none⟩ = some (.float .f64 p.v.x) ∧ W.cell? ⟨b, 2, none⟩ = some (.string p.v.s) ∧ W.cell? ⟨b, 3, none⟩ = some (.int .i64 p.v.r) ∧ W.cell? ⟨b, 4, none⟩ = some (.int .i64 p.g.k) ∧ W.cell? ⟨b, 5, none⟩ = some (.float .f64 p.g.x) ∧ W.cell? ⟨b, 6, none⟩ = some (.string p.g.s) ∧ W.cell? ⟨b, 7, none⟩ = some (.int .i64 p.g.r) ∧ W.cell? ⟨b, 8, none⟩ = some (.int .i64 p.t.k) ∧ W.cell? ⟨b, 9, none⟩ = some (.float .f64 p.t.x) ∧ W.cell? ⟨b, 10, none⟩ = some (.string p.t.s) ∧ W.cell? ⟨b, 11, none⟩ = some (.int .i64 p.t.r) ∧ W.cell? ⟨b, 12, none⟩ = some (.int .i64 p.fl) := by
  refine ⟨?_, ?_, ?_, ?_, ?_, ?_, ?_, ?_, ?_, ?_, ?_, ?_, ?_⟩ <;> (rw [cell_of_row _ b _ _ _ _ h]; rfl)
theorem load_whole {b : Nat} {W : World} {C : List Value} (h : W.heap[b]? = some (.cells C.toArray 39 (0, 0))) (hl : C.length = 13) (y : World) (hy : y.heap[b]? = W.heap[b]?) : (Instr.loadAt 39 (.pointer (some ⟨b, 0, none⟩))).run Tryz.prog y = .ok (.agg C.toArray) y :=
  run_loadAt_mid y b 0 39 C _ (fun j v hv => by rw [cell_of_row _ b (0 + j) _ _ _ (hy.trans h)]; simpa using hv) Tryz.underlying39 rfl (by rw [hl]; exact infoProp)
end Go.Proofs.YtkbohoolnpaleaaGreatDoor

/-
  A range over a function, with its assignments and its body walked as one.
-/
import Derived.Test.YtkbjakadngnokaaY3
namespace Go.Proofs.Ytkbjakadngnokaa
open Go.RowKit Go.Shelf Go.Lib Go.Sort Go.Proofs Go.Maps
set_option maxHeartbeats 1000000
set_option maxRecDepth 8000

theorem rangeR {α : Type} {n : Nat} {g : Operand} {ps : Array Tmp} {assign body : Code} {Q : Exit → Act → World → Prop} {a : Act} {w : World} {gf : Nat} {lb : Array Value} (hg : a.eval g = .func (.func gf) #[] lb)
    (eg : ∀ args w, (callFunc gf args).run Try.prog w = .ok (.enter gf args) w) {encs : α → Array Value} {xs : List α} {kb : Nat} {w0 : World} (hseq : SeqG gf lb encs xs kb w0) (hb0 : Below w0.heap.size w0 w) (hkb : kb < w.heap.size) (hps : ∀ x, (encs x).size = ps.size)
    (I : List α → World → Prop) (Ix : Code → List α → World → Prop) (hI : OwnFrom w.heap.size I) (hIx : ∀ c, OwnFrom w.heap.size (Ix c)) (h0 : I [] w)
    (hround : ∀ (l : Nat) (pre : List α) (x : α) (W : World), I pre W → (pre ++ [x]) <+: xs → w.heap.size < l → l < W.heap.size →
      assign.wpIn (Fence.wide.inRound l) (n - 1 - 1) Try.prog (Exit.then (fun a₁ W1 => W1 = W ∧ ∀ W2, I pre W2 → l < W2.heap.size → body.wpIn (Fence.wide.inRound l) (n - 1 - 1) Try.prog (postG kb w.heap.size I Ix (pre ++ [x]) W2) a₁ W2) (fun _ _ _ => False)) { tmps := (ps.zip (encs x)).foldl (fun t (p, v) => t.setIfInBounds p v) a.tmps, defers := [] } W)
    (hdone : ∀ (W : World), I xs W → W.heap[w.heap.size]? = some (.deferred (some [])) → Q .normal { a with defers := { target := .collected w.heap.size, args := #[] } :: a.defers } W)
    (hstop : ∀ (c : Code) (pre : List α) (W : World), Ix c pre W → W.heap[w.heap.size]? = some (.deferred (some [])) → c.wpIn Fence.wide n Try.prog Q { a with defers := { target := .collected w.heap.size, args := #[] } :: a.defers } W) :
    (Code.rangeFunc g ps assign body).wpIn Fence.wide n Try.prog Q a w := by
  refine wpIn_rangeFunc ?_
  intro fn hfn
  let rec' : LoopState → Option Code → Loop := fun st pe => { state := st, pending := pe, fn := fn, tmps := a.tmps, params := ps, assign := assign, body := body, defers := w.heap.size }
  have hrl : ∀ st pe, rec' st pe = { state := st, pending := pe, fn := fn, tmps := a.tmps, params := ps, assign := assign, body := body, defers := w.heap.size } := fun _ _ => rfl
  generalize rec' = rc at hrl
  obtain ⟨W1, hW1⟩ : ∃ W1, (w.alloc (.deferred (some []))).alloc (.loop (rc .ready none)) = W1 := ⟨_, rfl⟩
  have hs1 : W1.heap.size = w.heap.size + 1 + 1 := by rw [← hW1]; simp
  have hL : W1.heap[w.heap.size + 1]? = some (.loop (rc .ready none)) := by rw [← hW1]; exact heap_alloc2_new w _ _
  have hD : W1.heap[w.heap.size]? = some (.deferred (some [])) := by rw [← hW1]; exact (Below.heap_alloc _ _ _ (by simp)).trans (heap_alloc_new w _)
  have hI1 : I [] W1 := by rw [← hW1]; exact hI.alloc _ (hI.alloc _ h0)
  have hb1 : Below w0.heap.size w0 W1 := by rw [← hW1]; exact hb0.trans ((((Below.refl _ w).alloc (Nat.le_refl _) _).alloc (by simp) _).mono hb0.size)
  refine ⟨w.heap.size + 1, [{ target := .collected w.heap.size, args := #[] }], W1, { target := .fn (.func gf) lb, args := #[.func (.yield (w.heap.size + 1)) #[] #[]] }, W1, gf, #[.func (.yield (w.heap.size + 1)) #[] #[]] ++ lb, W1, ?_, ?_, (fun _ _ => trivial), ?_, (fun h => by cases h), ?_⟩
  · rw [← hW1, hrl]; exact run_enterLoop_outer _ _ _ _ _
  · simp only [resolve, hg]
    simp [go_sem]
  · simp [invoke, go_sem, eg]
  have keep : ∀ {A B : World} {row : Option Nat} {q : Nat} {o : Obj}, q < W1.heap.size → A.heap[q]? = some o → A.grownBy B row → (∀ r, row = some r → W1.heap.size ≤ r ∧ ∃ o : Obj, A.heap[r]? = some o ∧ o.isCells = false) → B.heap[q]? = some o := by
    intro A B row q o hq ho hgr hr
    rw [hgr.block q (heap_lt ho) (fun e => by have := (hr q e.symm).1; omega)]
    exact ho
  have low : ∀ {A : World} {row : Option Nat}, (∀ r, row = some r → W1.heap.size ≤ r ∧ ∃ o : Obj, A.heap[r]? = some o ∧ o.isCells = false) → ∀ r, row = some r → w.heap.size ≤ r ∧ ∃ o : Obj, A.heap[r]? = some o ∧ o.isCells = false :=
    fun h r e => ⟨by have := (h r e).1; omega, (h r e).2⟩
  refine (hseq (n - 1) (w.heap.size + 1) (fun pre W => I pre W ∧ W.heap[w.heap.size + 1]? = some (.loop (rc .ready none)) ∧ W.heap[w.heap.size]? = some (.deferred (some [])))
    (fun pre W => ∃ c, Ix c pre W ∧ W.heap[w.heap.size + 1]? = some (.loop (rc .done (some c))) ∧ W.heap[w.heap.size]? = some (.deferred (some [])))
    W1 hb1
    (fun s A B row hs hgr hr => ⟨hI s A B row hs.1 hgr (low hr), keep (by omega) hs.2.1 hgr hr, keep (by omega) hs.2.2 hgr hr⟩)
    (fun s A B row hs hgr hr => by
      obtain ⟨c, h1, h2, h3⟩ := hs
      exact ⟨c, hIx c s A B row h1 hgr (low hr), keep (by omega) h2 hgr hr, keep (by omega) h3 hgr hr⟩)
    (by omega) (by omega) ⟨_, hL⟩ ?_ ⟨hI1, hL, hD⟩).mono ?_
  · rintro pre x W ⟨hi, hl, hk⟩ hpre
    have hlt := heap_lt hl
    have hy := run_yield (P := Try.prog) (args := encs x) hl (by rw [hrl]; exact hps x)
    rw [hrl] at hy
    have hl2 : (W.putObj (w.heap.size + 1) (.loop { rc .ready none with state := .busy })).heap[w.heap.size + 1]? = some (.loop { rc .ready none with state := .busy }) := World.putObj_heap_same hlt
    have hk2 : (W.putObj (w.heap.size + 1) (.loop { rc .ready none with state := .busy })).heap[w.heap.size]? = some (.deferred (some [])) := (World.putObj_heap_other (by omega)).trans hk
    refine ⟨fn, _, assign, body, hy, roundIn_of_wpIn hfn (wpIn_mono (hround (w.heap.size + 1) pre x W hi hpre (by omega) hlt) ?_)⟩
    rintro e1 a3 W3 hp1
    cases e1 with
    | goto t => exact hp1.elim
    | panic ch => exact hp1.elim
    | outgrown => exact hp1.elim
    | ret => exact hp1.elim
    | exit id => exact hp1.elim
    | normal =>
    obtain ⟨e2, hbody⟩ := hp1
    have e2 := e2.symm
    subst e2
    refine ⟨_, run_beginRound hl (by rw [hrl]), ?_⟩
    have hsz : (W.putObj (w.heap.size + 1) (.loop { rc .ready none with state := .busy })).heap.size = W.heap.size := by simp [World.putObj]
    have hi2 := hI.putObj (.loop { rc .ready none with state := .busy }) hi (by omega) hl rfl
    refine wpIn_mono (hbody _ hi2 (by rw [hsz]; exact hlt)) ?_
    have fin : ∀ (jump : Option Code) (W3 : World), KeepBut (fun r => r = kb ∨ r < w.heap.size) (W.putObj (w.heap.size + 1) (.loop { rc .ready none with state := .busy })) W3 →
        (Instr.endRound (w.heap.size + 1) jump).run Try.prog W3 = .ok (.bool jump.isNone) (W3.putObj (w.heap.size + 1) (.loop (rc (if jump.isNone then .ready else .done) jump))) ∧
        W3.heap[w.heap.size + 1]? = some (.loop { rc .ready none with state := .busy }) ∧
        (W3.putObj (w.heap.size + 1) (.loop (rc (if jump.isNone then .ready else .done) jump))).heap[w.heap.size + 1]? = some (.loop (rc (if jump.isNone then .ready else .done) jump)) ∧
        (W3.putObj (w.heap.size + 1) (.loop (rc (if jump.isNone then .ready else .done) jump))).heap[w.heap.size]? = some (.deferred (some [])) ∧
        KeepBut (fun r => r = kb ∨ r ≤ w.heap.size + 1) W (W3.putObj (w.heap.size + 1) (.loop (rc (if jump.isNone then .ready else .done) jump))) := by
      intro jump W3 hk3
      have hl3 : W3.heap[w.heap.size + 1]? = some (.loop { rc .ready none with state := .busy }) := (hk3.2 _ (by rw [hsz]; exact hlt) (by omega)).trans hl2
      have hk4 : W3.heap[w.heap.size]? = some (.deferred (some [])) := (hk3.2 _ (by rw [hsz]; omega) (by omega)).trans hk2
      have hrun := run_endRound (P := Try.prog) jump hl3
      rw [hrl] at hrun
      refine ⟨by rw [hrl]; exact hrun, hl3, World.putObj_heap_same (heap_lt hl3), (World.putObj_heap_other (by omega)).trans hk4, ⟨by have := hk3.1; simp [World.putObj] at this ⊢; exact this, fun r hr he => ?_⟩⟩
      have he1 : r ≠ w.heap.size + 1 := fun e => he (.inr (by omega))
      rw [World.putObj_heap_other he1, hk3.2 r (by rw [hsz]; exact hr) (fun e => e.elim (fun e => he (.inl e)) (fun e => he (.inr (by omega)))), World.putObj_heap_other he1]
    rintro e a3 W3 hp
    cases e with
    | normal =>
      obtain ⟨hk3, hi3⟩ := hp
      obtain ⟨hr, hl3, hl4, hk4, hkk⟩ := fin none W3 (hk3.mono (fun r h => .inl h))
      refine ⟨_, _, hr, .inl ⟨rfl, ⟨hI.putObj _ hi3 (by omega) hl3 rfl, hl4, hk4⟩, ⟨hkk.1, fun r hr2 he => ?_⟩⟩⟩
      by_cases e1 : r = w.heap.size + 1
      · subst e1; exact hl4.trans hl.symm
      · rw [World.putObj_heap_other e1, hk3.2 r (by rw [hsz]; exact hr2) he, World.putObj_heap_other e1]
    | ret =>
      obtain ⟨hk3, hi3⟩ := hp
      obtain ⟨hr, hl3, hl4, hk4, hkk⟩ := fin (some .ret) W3 hk3
      exact ⟨_, _, hr, .inr ⟨rfl, ⟨.ret, (hIx _).putObj _ hi3 (by omega) hl3 rfl, hl4, hk4⟩, hkk⟩⟩
    | exit id =>
      obtain ⟨hk3, hi3⟩ := hp
      obtain ⟨hr, hl3, hl4, hk4, hkk⟩ := fin (some (.exit id)) W3 hk3
      exact ⟨_, _, hr, .inr ⟨rfl, ⟨.exit id, (hIx _).putObj _ hi3 (by omega) hl3 rfl, hl4, hk4⟩, hkk⟩⟩
    | goto t => exact hp.elim
    | panic ch => exact hp.elim
    | outgrown => exact hp.elim
  · rintro e W2 ⟨⟨v, rfl⟩, (⟨hi, hl, hk⟩ | ⟨pre, c, hi, hl, hk⟩)⟩
    · exact ⟨none, _, by have := run_endLoop (P := Try.prog) hl (by rw [hrl]; simp); rw [hrl] at this; exact this, hdone _ (hI.putObj _ hi (by omega) hl rfl) ((World.putObj_heap_other (by omega)).trans hk)⟩
    · exact ⟨some c, _, by have := run_endLoop (P := Try.prog) hl (by rw [hrl]; simp); rw [hrl] at this; exact this, hstop c pre _ ((hIx c).putObj _ hi (by omega) hl rfl) ((World.putObj_heap_other (by omega)).trans hk)⟩
end Go.Proofs.Ytkbjakadngnokaa

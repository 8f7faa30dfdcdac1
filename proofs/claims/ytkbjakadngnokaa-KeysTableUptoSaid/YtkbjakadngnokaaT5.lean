/-
  A table that nobody made tells nothing: the contract of the law's tells.
-/
import Derived.Test.YtkbjakadngnokaaT4
import Derived.RangeFuncNested
import Derived.RangeFuncBound
import Derived.RangeFuncCalls
import Derived.RangeFuncLeaves
import Derived.RangeFuncFrom
import Derived.Shelf.Abstract
import Derived.Shelf.RegionOpen
import Derived.OwnWalkIn
import Derived.TacticsInMore
import Derived.LoopNIn
import Derived.LoopIn
namespace Go.Proofs.Ytkbjakadngnokaa
open Go.RowKit Go.Shelf Go.Lib Go.Sort Go.Proofs Go.Maps
set_option maxHeartbeats 2000000
set_option maxRecDepth 100000
attribute [local go_sem] Oper.semAt_some

theorem c_Each (w : World) (q : Option Addr) : Calls Try.prog 20 #[.pointer q] w fun e w' => e = .returned (.func (.func 40) #[] #[.pointer (some ⟨w.heap.size, 0, none⟩)]) ∧ w' = w.alloc (.cells #[.pointer q] 34) := by
  go_enter Try.func20, Try.ntmps20
  go_wp2
  go_ret
  exact ⟨rfl, rfl⟩
theorem each0 {W : World} {t : Value} {eb l : Nat} (hc : W.cell? ⟨eb, 0, none⟩ = some t) (h : NotT W t) :
    Calls Try.prog 40 #[.func (.yield l) #[] #[], .pointer (some ⟨eb, 0, none⟩)] W fun e W' => (∃ v, e = .returned v) ∧ ∃ o, W' = W.alloc o := by
  have hbA : Below W.heap.size W (W.alloc (.cells #[.func (.yield l) #[] #[]] 72)) := (Below.refl _ W).alloc (Nat.le_refl _) _
  have hI := Lib.hid (c_isN (h.keep hbA))
  have hc1 : (W.alloc (.cells #[.func (.yield l) #[] #[]] 72)).cell? ⟨eb, 0, none⟩ = some t := by rw [hbA.cell (p := ⟨eb, 0, none⟩) (cell_lt hc)]; exact hc
  clear h hc hbA
  go_enter Try.func40, Try.ntmps40
  go_wp2_with (go_at_call 37; refine hI.out.mono ?_; rintro e w1 ⟨rfl, rfl⟩)
  refine bodyPost_ret (results_none rfl _ _ _) rfl ?_
  exact ⟨⟨_, rfl⟩, _, rfl⟩
theorem each_stops (n eb n₀ : Nat) (w : World) (t : Value) (hc : w.cell? ⟨eb, 0, none⟩ = some t) (h : NotT w t) :
    SeqStopsK Fence.wide n Try.prog 40 #[.pointer (some ⟨eb, 0, none⟩)] (fun x : Empty => x.elim) (Below n₀) (fun _ => True) (fun _ => False) 0 w := by
  intro l J Jx W hW hJ hJx hY h0
  refine callsIn_wide.2 ?_
  have hc2 : W.cell? ⟨eb, 0, none⟩ = some t := by rw [hW.cell (p := ⟨eb, 0, none⟩) (cell_lt hc)]; exact hc
  refine (each0 hc2 (h.keep hW)).mono ?_
  rintro e W' ⟨h1, o, rfl⟩
  exact ⟨h1, .inl ⟨[], trivial, hJ [] W _ none h0 (World.grownBy_alloc W o none) (fun r e => by cases e)⟩⟩
theorem eql_fn (w : World) (f : Fn) (a b : Array Value) : (binOp .eql 44 (.func f a b) .nilFunc).run Try.prog w = .ok (.bool false) w := by kernel_rfl
theorem c_tells {w : World} {t : Value} (h : NotT w t) : Calls Try.prog 23 #[t] w fun e w' => e = .returned (.bool false) ∧ Below w.heap.size w w' := by
  obtain ⟨q, rfl⟩ : ∃ q, t = .pointer q := by
    rcases h with rfl | ⟨tb, rfl, _⟩
    · exact ⟨_, rfl⟩
    · exact ⟨_, rfl⟩
  refine (callsIn_wide (n := 5)).1 ?_
  refine callsIn_of_wp_marks Try.func23 rfl trivial ?_ rfl
  simp only [Try.ntmps23, List.size_toArray, List.length_cons, List.length_nil, Nat.reduceAdd, Nat.reduceSub, Array.replicate_succ, Array.replicate_zero, List.push_toArray, List.append_toArray, List.nil_append, List.cons_append]
  have hq := eql_fn (w.alloc (.cells #[.pointer q] 34)) (.func 40) #[] #[.pointer (some ⟨w.heap.size, 0, none⟩)]
  gi_wp2_with (refine ⟨trivial, ?_⟩; gi_at_call 20; refine (callsIn_wide.2 (c_Each _ _)).mono ?_; rintro e w1 ⟨rfl, rfl⟩)
  clear hq
  have hc0 : ((w.alloc (.cells #[.pointer q] 34)).alloc (.cells #[.int .i64 0] 3)).cell? ⟨w.heap.size + 1, 0, none⟩ = some (.int .i64 0) := by rw [cell_of_row _ _ _ _ _ _ (heap_alloc2_new w _ _)]; rfl
  have hc1 : (w.alloc (.cells #[.pointer q] 34)).cell? ⟨w.heap.size, 0, none⟩ = some (.pointer q) := by rw [cell_of_row _ _ _ _ _ _ (heap_alloc_new w _)]; rfl
  have hc2 : ((w.alloc (.cells #[.pointer q] 34)).alloc (.cells #[.int .i64 0] 3)).cell? ⟨w.heap.size, 0, none⟩ = some (.pointer q) := by rw [((Below.refl _ (w.alloc (.cells #[.pointer q] 34))).alloc (Nat.le_refl _) (.cells #[.int .i64 0] 3)).cell (p := ⟨w.heap.size, 0, none⟩) (cell_lt hc1)]; exact hc1
  have hB0 : Below w.heap.size w ((w.alloc (.cells #[.pointer q] 34)).alloc (.cells #[.int .i64 0] 3)) := ((Below.refl _ w).alloc (Nat.le_refl _) _).alloc (by simp) _
  have hB1 : Below (w.alloc (.cells #[.pointer q] 34)).heap.size (w.alloc (.cells #[.pointer q] 34)) ((w.alloc (.cells #[.pointer q] 34)).alloc (.cells #[.int .i64 0] 3)) := (Below.refl _ _).alloc (Nat.le_refl _) _
  refine wpIn_rangeFunc_ownF (α := Empty) rfl (by decide) (gf := 40) (lb := #[.pointer (some ⟨w.heap.size, 0, none⟩)]) rfl trivial (enters_of Try.func40 (by kernel_rfl) rfl)
    (each_stops _ w.heap.size w.heap.size ((w.alloc (.cells #[.pointer q] 34)).alloc (.cells #[.int .i64 0] 3)) (.pointer q) hc2 (h.keep hB0)) belowK_t (belowK_b (by simp; omega)) (Below.refl _ _) (fun x => x.elim)
    (fun pre W => W.cell? ⟨w.heap.size + 1, 0, none⟩ = some (.int .i64 0) ∧ Below w.heap.size w W)
    (fun _ _ _ => False)
    (OwnFrom.and (Own.from (fun s A B row hs hg hr => cell_kept hs hg hr) _) (ownFrom_below (Nat.le_refl _) (by simp; omega)))
    (fun _ _ _ _ _ hs _ _ => hs)
    ⟨hc0, hB0⟩ (fun x => x.elim) ?assign ?body ?done ?stop
  case assign => intro l x; exact x.elim
  case body => intro l pre x; exact x.elim
  case done =>
    rintro D ys W hD _ ⟨hc, hB⟩ hK
    gi_wp2
    refine ⟨by simp, .inl ⟨_, _, rfl, run_takeDeferred hK, ?_⟩⟩
    exact ⟨_, results_tmp rfl _ _ _, rfl, hB.trans (belowK_b (w := w) (Nat.le_refl _) W D _ _ (by simp at hD; omega) hK rfl rfl)⟩
  case stop =>
    rintro D c pre W _ _ h _
    exact h.elim
end Go.Proofs.Ytkbjakadngnokaa

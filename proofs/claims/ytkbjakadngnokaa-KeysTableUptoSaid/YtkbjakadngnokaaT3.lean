/-
  The contract of a table's Symbol.
-/
import Derived.Test.YtkbjakadngnokaaL1
import Derived.Laws.ResultCell
namespace Go.Proofs.Ytkbjakadngnokaa
open Go.RowKit Go.Shelf Go.Lib Go.Sort Go.Proofs Go.Maps
set_option maxHeartbeats 400000
set_option maxRecDepth 8000

theorem ne_key_row {w : World} {rb : Nat} {cs : Array Value} (hh : w.heap[rb]? = some (.cells cs 29 (0, 0))) {B size m : Nat} {v : Value} {xs : List Value} (ho : w.ownsRow B 27 size v m xs) : some rb ≠ v.ownBlock := by
  rcases ho.2 with ⟨rfl, _⟩ | ⟨g, cap, cur, rfl, _, hg, _⟩
  · exact fun e => by cases e
  · intro e
    simp [Value.ownBlock] at e
    subst e
    rw [hg] at hh
    injection hh with hh
    injection hh with _ hh
    exact absurd hh (by decide)
/-- behind the append to the symbols -/
theorem sym_m2 {w1 w2 : World} {o : Obj} {B tb bm n m k gg rb : Nat} {cs : Array Value} {vn vs : Value} {D : DataW Unit} {xn xs : List Value} (hh : w1.heap[tb]? = some (rowT bm vn vs)) (hr : w1.heap[rb]? = some (.cells cs 29 (0, 0))) (hm : w1.ownsMap Try.prog 27 (plainElem Try.prog 3) bm k D) (hn : w1.ownsRow B 27 1 vn n xn) (hs : w1.ownsRow B 27 1 vs m xs) (hal : ∀ k, vn.ownBlock = some k → vs.ownBlock ≠ some k)
    (hg : (w1.alloc o).grownBy w2 vs.ownBlock) (hat : vs.ownBlock = some gg ∨ gg = w1.heap.size + 1) :
    w2.heap[tb]? = some (rowT bm vn vs) ∧ w2.heap[rb]? = some (.cells cs 29 (0, 0)) ∧ w2.ownsMap Try.prog 27 (plainElem Try.prog 3) bm k D ∧ w2.ownsRow B 27 1 vn n xn ∧ vn.ownBlock ≠ some gg := by
  have hh1 : (w1.alloc o).heap[tb]? = some (rowT bm vn vs) := by rw [Below.heap_alloc _ _ _ (heap_lt hh)]; exact hh
  have hr1 : (w1.alloc o).heap[rb]? = some (.cells cs 29 (0, 0)) := by rw [Below.heap_alloc _ _ _ (heap_lt hr)]; exact hr
  refine ⟨?_, ?_, (hm.alloc o).kept hg ?_, (hn.alloc o).kept hg ?_, ?_⟩
  · rw [hg.block tb (heap_lt hh1) (ne_tab_row hh hs)]; exact hh1
  · rw [hg.block rb (heap_lt hr1) (ne_key_row hr hs)]; exact hr1
  · rcases ne_map_row hm hs with h | h
    · rw [h]; simp
    · exact fun e => h e.symm
  · cases hv : vn.ownBlock with
    | none => exact .inl rfl
    | some q => right; intro e; exact hal q hv e.symm
  · intro e
    rcases hat with h | h
    · exact hal gg e h
    · have := (hn.lt gg e).2; omega
theorem sym_done {w2 : World} {B tb bm n m gg cap : Nat} {vn vs : Value} {D : DataW Unit} {names syms : List ByteArray} (hB : B ≤ tb) (hB2 : B ≤ bm) (hh : w2.heap[tb]? = some (rowT bm vn vs)) (hm : w2.ownsMap Try.prog 27 (plainElem Try.prog 3) bm names.length D) (ht : TellsD D names)
    (hs : w2.ownsRow B 27 1 (.slice (some ⟨gg, 0, none⟩) n cap) syms.length (strs syms)) (hn : w2.ownsRow B 27 1 vn m (strs names)) (hm2 : m = names.length) (hne : vn.ownBlock ≠ some gg) :
    TabS (w2.setCell ⟨tb, 3, none⟩ (.slice (some ⟨gg, 0, none⟩) n cap)) B tb names syms ∧ (w2.setCell ⟨tb, 3, none⟩ (.slice (some ⟨gg, 0, none⟩) n cap)).cell? ⟨tb, 3, none⟩ = some (.slice (some ⟨gg, 0, none⟩) n cap) := by
  subst hm2
  have h2 : (w2.setCell ⟨tb, 3, none⟩ (.slice (some ⟨gg, 0, none⟩) n cap)).heap[tb]? = some (rowT bm vn (.slice (some ⟨gg, 0, none⟩) n cap)) := by
    rw [heap_setCell_same w2 tb 3 _ _ _ hh]; rfl
  refine ⟨⟨bm, vn, _, D, hB, hB2, h2, hm.setCell (by intro e; exact ne_map hm hh e.symm) _, ht, own_setTab hh hn _ _, own_setTab hh hs _ _, ?_⟩, (rowT_cells h2).2.2.2.1⟩
  intro k hk e; simp [Value.ownBlock] at e; subst e; exact hne hk
/-- a store into a block that is no part of the table -/
theorem TabS.setKey {w : World} {B tb rb i : Nat} {names syms : List ByteArray} {cs : Array Value} {u : Value} (h : TabS w B tb names syms) (hr : w.heap[rb]? = some (.cells cs 29 (0, 0))) : TabS (w.setCell ⟨rb, i, none⟩ u) B tb names syms := by
  obtain ⟨bm, vn, vs, D, h1, h2, h3, h4, h5, h6, h7, h8⟩ := h
  have hne : tb ≠ rb := by
    intro e; subst e
    rw [hr] at h3
    injection h3 with h3
    injection h3 with _ h3
    exact absurd h3 (by decide)
  have hrow : ∀ {v : Value} {m : Nat} {xs : List Value}, w.ownsRow B 27 1 v m xs → (w.setCell ⟨rb, i, none⟩ u).ownsRow B 27 1 v m xs := by
    intro v m xs ho
    have hk := ne_key_row hr ho
    refine ⟨ho.1, ?_⟩
    rcases ho.2 with h | ⟨g, cap, cur, rfl, hb, hg, r⟩
    · exact .inl h
    · refine .inr ⟨g, cap, cur, rfl, hb, ?_, r⟩
      rw [Below.heap_setCell _ _ _ _ (by intro e; subst e; simp [Value.ownBlock] at hk)]
      exact hg
  refine ⟨bm, vn, vs, D, h1, h2, ?_, h4.setCell (by intro e; exact ne_map h4 hr e.symm) _, h5, hrow h6, hrow h7, h8⟩
  rw [Below.heap_setCell _ _ _ _ hne]; exact h3
theorem tab_ne_key {w : World} {tb rb bm : Nat} {vn vs : Value} {cs : Array Value} (hh : w.heap[tb]? = some (rowT bm vn vs)) (hr : w.heap[rb]? = some (.cells cs 29 (0, 0))) : rb ≠ tb := by
  intro e; subst e
  rw [hr] at hh
  injection hh with hh
  injection hh with _ hh
  exact absurd hh (by decide)
theorem key_set3 {w : World} {tb rb bm : Nat} {vn vs u : Value} (hh : w.heap[tb]? = some (rowT bm vn vs)) (hr : w.heap[rb]? = some (.cells #[.string ⟨#[]⟩, .int .i64 0] 29 (0, 0))) :
    (w.setCell ⟨tb, 3, none⟩ u).heap[rb]? = some (.cells #[.string ⟨#[]⟩, .int .i64 0] 29 (0, 0)) ∧ (w.setCell ⟨tb, 3, none⟩ u).cell? ⟨rb, 0, none⟩ = some (.string ⟨#[]⟩) ∧ (w.setCell ⟨tb, 3, none⟩ u).cell? ⟨rb, 1, none⟩ = some (.int .i64 0) ∧ (w.setCell ⟨tb, 3, none⟩ u).frozen? ⟨rb, 0, none⟩ = false ∧ (w.setCell ⟨tb, 3, none⟩ u).frozen? ⟨rb, 1, none⟩ = false := by
  have h6 : (w.setCell ⟨tb, 3, none⟩ u).heap[rb]? = some (.cells #[.string ⟨#[]⟩, .int .i64 0] 29 (0, 0)) := by rw [Below.heap_setCell _ _ _ _ (tab_ne_key hh hr)]; exact hr
  refine ⟨h6, ?_, ?_, by simp [World.frozen?, h6], by simp [World.frozen?, h6]⟩
  · rw [cell_of_row _ rb 0 _ _ _ h6]; rfl
  · rw [cell_of_row _ rb 1 _ _ _ h6]; rfl
theorem results_cell_tmp_row {P : Program} {fn : Func} {p u : Tmp} {ty : TypeId} (h : fn.results = #[.cell p ty, .tmp u]) (tmps : Array Value) (w : World) (g : Nat) (t : TypeId) (cs : Array Value) (fr : Nat × Nat) (d : TypeDesc)
    (hp : tmps.getD p undef = .pointer (some ⟨g, 0, none⟩)) (hg : w.heap[g]? = some (.cells cs t fr))
    (hu : P.underlying ty = some d) (hd : (match d with | .struct _ | .array _ _ => true | _ => false) = true) (hi : (P.info? ty).map (·.size) = some cs.size) :
    (results fn tmps).run P w = .ok (.tuple #[.agg cs, tmps.getD u undef]) w := by
  have ha : (asAddr (Value.pointer (some ⟨g, 0, none⟩))).run P w = .ok ⟨g, 0, none⟩ w := rfl
  rw [results_cell_tmp h, hp, ha]
  simp only [Result.andThen_ok]
  rw [run_loadVar_row w g t ty cs fr d hg hu hd hi]
  rfl
theorem c_Symbol (B tb : Nat) (names syms : List ByteArray) (s : ByteArray) (hn : syms.length < 10000) (w : World) (hB : B ≤ w.heap.size) (h : TabS w B tb names syms) :
    Calls Try.prog 21 #[.pointer (some ⟨tb, 0, none⟩), .string s] w fun e w' => e = .returned (.tuple #[.agg #[.string ⟨#[]⟩, .int .i64 ((syms.length : Int) + 1)], .int .i64 0]) ∧ TabS w' B tb names (syms ++ [s]) ∧ Below B w w' := by
  have hA := h.keep ((Below.refl _ w).alloc (Nat.le_refl _) (.cells #[.string ⟨#[]⟩, .int .i64 0] 29))
  have hbA : Below B w (w.alloc (.cells #[.string ⟨#[]⟩, .int .i64 0] 29)) := (Below.refl B w).alloc hB _
  have hrA := heap_alloc_new w (.cells #[.string ⟨#[]⟩, .int .i64 0] 29)
  obtain ⟨bm, vn, vs, D, hB1, hB2, hh, hm, ht, on, os, hal⟩ := hA
  obtain ⟨i0, hi0, hz0, hz1, hz2⟩ := info_parts infoStr
  have hI := Lib.hid (c_is (w.alloc (.cells #[.string ⟨#[]⟩, .int .i64 0] 29)) tb 1 _ hh rfl)
  obtain ⟨c0, c1, c2, c3, f2, f3⟩ := rowT_cells hh
  have ht := Lib.hid ht
  have hh' := Lib.hid hh
  have hal := Lib.hid hal
  have hrA := Lib.hid hrA
  have hBW := hbA.size
  have hBW2 : B ≤ (w.alloc (.cells #[.string ⟨#[]⟩, .int .i64 0] 29)).heap.size := Nat.le_trans hB hBW
  have hBW3 : B ≤ w.heap.size + 1 := by omega
  have hbA := Lib.hid hbA
  clear hh h
  have hsnoc : strs (syms ++ [s]) = strs syms ++ [Value.string s] := by simp [strs]
  have hsnoc := Lib.hid hsnoc
  have hnl : (syms ++ [s]).length = syms.length + 1 := by simp
  have hnl := Lib.hid hnl
  have hvs : ∃ b c, vs = .slice b syms.length c := by
    rcases os.2 with ⟨e, h⟩ | ⟨g, cap, cur, e, _⟩
    · rw [h]; exact ⟨_, _, e⟩
    · exact ⟨_, _, e⟩
  obtain ⟨vb, vc, rfl⟩ := hvs
  have hn1 : decide ((10000 : Int) ≤ (syms.length : Int)) = false := decide_eq_false (by omega)
  have hn2 : syms.length ≤ 1099511627776 := by omega
  clear hn
  go_enter Try.func21, Try.ntmps21
  go_wp2_with (first | (go_at_call 37; refine hI.out.mono ?_; rintro e w1 ⟨rfl, rfl⟩) | (at_builtin; refine wpList_append_lies _ (by rfl) _ _ _ (by rfl) B 27 i0 _ 1 16 Try.underlying33 hi0 hz0 hz1 hz2 rfl (by omega) (.slice vb syms.length vc) syms.length (strs syms) (by rfl) (os.alloc _) ⟨w.heap.size + 1, 0, none⟩ 1 1 [.string s] (by rfl) (by rfl) (World.news_of_block (cs := #[.string s]) (t := 27) (fr := (0, 0)) (by exact heap_alloc2_new w _ _)) (by simp [Value.oneCell']) (by omega) (by unfold maxLen; omega) (by omega) (by simp; omega) ((w.alloc (.cells #[.string ⟨#[]⟩, .int .i64 0] 29)).heap.size + 1) (by simp) ?_; intro gg cap w5 hown5 hg5 hat5 hlt5; obtain ⟨hh5, hr5, hm5, on5, hne5⟩ := sym_m2 hh'.out hrA.out hm on os hal.out hg5 hat5; obtain ⟨_, _, _, g3, _, fz3⟩ := rowT_cells hh5; have hS := sym_done (syms := syms ++ [s]) hB1 hB2 hh5 hm5 ht.out (by rw [hnl.out, hsnoc.out]; exact hown5) on5 rfl hne5; have hcell3 := hS.2; obtain ⟨hr6, r0, r1, rf0, rf1⟩ := key_set3 (u := .slice (some ⟨gg, 0, none⟩) (syms.length + 1) cap) hh5 hr5; replace hh5 := Lib.hid hh5; replace hr5 := Lib.hid hr5; replace hr6 := Lib.hid hr6; replace hS := Lib.hid hS))
  have k1 := heap_setCell_same _ w.heap.size 0 _ 29 (.string ⟨#[]⟩) hr6.out
  have k2 := heap_setCell_same _ w.heap.size 1 _ 29 (.int .i64 ((syms.length : Int) + 1)) k1
  have hT := (hS.out.1.setKey (i := 0) (u := .string ⟨#[]⟩) hr6.out).setKey (i := 1) (u := .int .i64 ((syms.length : Int) + 1)) k1
  refine bodyPost_ret (results_cell_tmp_row rfl _ _ w.heap.size 29 #[.string ⟨#[]⟩, .int .i64 ((syms.length : Int) + 1)] (0, 0) _ rfl k2 Try.underlying29 rfl infoKeyRow) rfl ?_
  refine ⟨rfl, hT, ?_⟩
  have hb5 : Below B w w5 := ((hbA.out.alloc hBW2 _).grown hg5 (by simp; omega) (own_base os))
  exact ((hb5.setCell hB1 _).setCell hB _).setCell hB _
end Go.Proofs.Ytkbjakadngnokaa

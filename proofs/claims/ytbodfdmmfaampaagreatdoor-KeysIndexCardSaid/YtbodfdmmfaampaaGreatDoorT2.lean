/-
  The contract of a table's Intern.
-/
import Derived.Test.YtbodfdmmfaampaaGreatDoorT1
namespace Go.Proofs.YtbodfdmmfaampaaGreatDoor
open Go.RowKit Go.Shelf Go.Lib Go.Sort Go.Proofs Go.Maps
set_option maxHeartbeats 400000
set_option maxRecDepth 100000

abbrev rowT (bm : Nat) (vn vs : Value) : Obj := .cells #[.int .i64 1, .map (some bm), vn, vs] 60 (0, 0)
theorem ne_map {H : Type} {w : World} {bm n tb : Nat} {D : DataW H} {cs : Array Value} {t : TypeId} {R : Value → Option (DataW H × List MemPlace)} (h : w.ownsMap Tryz.prog 22 R bm n D) (hh : w.heap[tb]? = some (.cells cs t (0, 0))) : tb ≠ bm := by
  obtain ⟨es, c, h1, _⟩ := h
  intro e; subst e
  rw [hh] at h1; cases h1
theorem ne_map_row {H : Type} {w : World} {bm n : Nat} {D : DataW H} {R : Value → Option (DataW H × List MemPlace)} (h : w.ownsMap Tryz.prog 22 R bm n D) {B size m : Nat} {e : TypeId} {v : Value} {xs : List Value} (ho : w.ownsRow B e size v m xs) : v.ownBlock = none ∨ v.ownBlock ≠ some bm := by
  obtain ⟨es, c, h1, _⟩ := h
  rcases ho.2 with ⟨rfl, _⟩ | ⟨g, cap, cur, rfl, _, hg, _⟩
  · exact .inl rfl
  · right
    intro e
    simp [Value.ownBlock] at e
    subst e
    rw [hg] at h1; cases h1
theorem ne_tab_row {w : World} {tb bm : Nat} {vn vs : Value} (hh : w.heap[tb]? = some (rowT bm vn vs)) {B size m : Nat} {v : Value} {xs : List Value} (ho : w.ownsRow B 22 size v m xs) : some tb ≠ v.ownBlock := by
  rcases ho.2 with ⟨rfl, _⟩ | ⟨g, cap, cur, rfl, _, hg, _⟩
  · exact fun e => by cases e
  · intro e
    simp [Value.ownBlock] at e
    subst e
    rw [hg] at hh
    injection hh with hh
    injection hh with _ hh
    exact absurd hh (by decide)
theorem heap_lt {w : World} {tb : Nat} {o : Obj} (h : w.heap[tb]? = some o) : tb < w.heap.size := by
  rcases Nat.lt_or_ge tb w.heap.size with h1 | h1
  · exact h1
  · rw [Array.getElem?_eq_none h1] at h; cases h
theorem rowT_cells {w : World} {tb bm : Nat} {vn vs : Value} (hh : w.heap[tb]? = some (rowT bm vn vs)) :
    w.cell? ⟨tb, 0, none⟩ = some (.int .i64 1) ∧ w.cell? ⟨tb, 1, none⟩ = some (.map (some bm)) ∧ w.cell? ⟨tb, 2, none⟩ = some vn ∧ w.cell? ⟨tb, 3, none⟩ = some vs ∧ w.frozen? ⟨tb, 2, none⟩ = false ∧ w.frozen? ⟨tb, 3, none⟩ = false := by
  refine ⟨?_, ?_, ?_, ?_, by simp [World.frozen?, hh], by simp [World.frozen?, hh]⟩
  all_goals (rw [cell_of_row w tb _ _ _ _ hh]; rfl)
theorem own_setTab {w : World} {tb bm : Nat} {vn vs : Value} (hh : w.heap[tb]? = some (rowT bm vn vs)) {B size m : Nat} {v : Value} {xs : List Value} (ho : w.ownsRow B 22 size v m xs) (i : Nat) (u : Value) : (w.setCell ⟨tb, i, none⟩ u).ownsRow B 22 size v m xs := by
  have hne := ne_tab_row hh ho
  refine ⟨ho.1, ?_⟩
  rcases ho.2 with h | ⟨g, cap, cur, rfl, hb, hg, r⟩
  · exact .inl h
  · refine .inr ⟨g, cap, cur, rfl, hb, ?_, r⟩
    rw [Below.heap_setCell _ _ _ _ (by intro e; subst e; simp [Value.ownBlock] at hne)]
    exact hg
/-- behind the map's store -/
theorem int_m1 {w w1 : World} {B tb bm n m : Nat} {vn vs : Value} {D : DataW Unit} {xn xs : List Value} (hh : w.heap[tb]? = some (rowT bm vn vs)) (hm : w.ownsMap Tryz.prog 22 (plainElem Tryz.prog 3) bm n D) (hn : w.ownsRow B 22 1 vn n xn) (hs : w.ownsRow B 22 1 vs m xs) (hg : w.grownBy w1 (some bm)) :
    w1.heap[tb]? = some (rowT bm vn vs) ∧ w1.ownsRow B 22 1 vn n xn ∧ w1.ownsRow B 22 1 vs m xs := by
  refine ⟨?_, hn.kept hg (ne_map_row hm hn), hs.kept hg (ne_map_row hm hs)⟩
  rw [hg.block tb (heap_lt hh) (by have := ne_map hm hh; simp [this])]
  exact hh
/-- behind the append to the names -/
theorem int_m2 {w1 w2 : World} {o : Obj} {B tb bm n m k gg : Nat} {vn vs : Value} {D : DataW Unit} {xn xs : List Value} (hh : w1.heap[tb]? = some (rowT bm vn vs)) (hm : w1.ownsMap Tryz.prog 22 (plainElem Tryz.prog 3) bm k D) (hn : w1.ownsRow B 22 1 vn n xn) (hs : w1.ownsRow B 22 1 vs m xs) (hal : ∀ k, vn.ownBlock = some k → vs.ownBlock ≠ some k)
    (hg : (w1.alloc o).grownBy w2 vn.ownBlock) (hat : vn.ownBlock = some gg ∨ gg = w1.heap.size + 1) :
    w2.heap[tb]? = some (rowT bm vn vs) ∧ w2.ownsMap Tryz.prog 22 (plainElem Tryz.prog 3) bm k D ∧ w2.ownsRow B 22 1 vs m xs ∧ vs.ownBlock ≠ some gg := by
  have hh1 : (w1.alloc o).heap[tb]? = some (rowT bm vn vs) := by rw [Below.heap_alloc _ _ _ (heap_lt hh)]; exact hh
  refine ⟨?_, (hm.alloc o).kept hg ?_, (hs.alloc o).kept hg ?_, ?_⟩
  · rw [hg.block tb (heap_lt hh1) (ne_tab_row hh hn)]; exact hh1
  · rcases ne_map_row hm hn with h | h
    · rw [h]; simp
    · exact fun e => h e.symm
  · cases hv : vs.ownBlock with
    | none => exact .inl rfl
    | some q =>
      right
      intro e
      exact hal q e.symm hv
  · rcases hat with h | h
    · exact hal gg h
    · intro e
      have := (hs.lt gg e).2
      omega
theorem tab_done {w2 : World} {B tb bm n m gg cap : Nat} {vn vs : Value} {D : DataW Unit} {names syms : List ByteArray} (hB : B ≤ tb) (hB2 : B ≤ bm) (hh : w2.heap[tb]? = some (rowT bm vn vs)) (hm : w2.ownsMap Tryz.prog 22 (plainElem Tryz.prog 3) bm names.length D) (ht : TellsD D names)
    (hn : w2.ownsRow B 22 1 (.slice (some ⟨gg, 0, none⟩) n cap) names.length (strs names)) (hs : w2.ownsRow B 22 1 vs m (strs syms)) (hm2 : m = syms.length) (hne : vs.ownBlock ≠ some gg) :
    TabS (w2.setCell ⟨tb, 2, none⟩ (.slice (some ⟨gg, 0, none⟩) n cap)) B tb names syms := by
  subst hm2
  refine ⟨bm, _, vs, D, hB, hB2, ?_, hm.setCell (by intro e; exact ne_map hm hh e.symm) _, ht, own_setTab hh hn _ _, own_setTab hh hs _ _, ?_⟩
  · rw [heap_setCell_same w2 tb 2 _ _ _ hh]; rfl
  · intro k hk; simp [Value.ownBlock] at hk; subst hk; exact hne
theorem c_Intern (B tb : Nat) (names syms : List ByteArray) (s : ByteArray) (hs : s.size ≤ 1099511627776) (hn : names.length ≤ 1099511627776) (w : World) (hB : B ≤ w.heap.size) (h : TabS w B tb names syms) :
    Calls Tryz.prog 14 #[.pointer (some ⟨tb, 0, none⟩), .string s] w fun e w' => ∃ (i : Nat) (names' : List ByteArray), e = .returned (.int .i64 (i : Int)) ∧ TabS w' B tb names' syms ∧ Below B w w' ∧ ((names' = names ∧ names[i]? = some (evenB s)) ∨ (evenB s ∉ names ∧ names' = names ++ [evenB s] ∧ i = names.length)) := by
  have h0 := h
  obtain ⟨bm, vn, vs, D, hB1, hB2, hh, hm, ht, on, os, hal⟩ := h
  obtain ⟨i0, hi0, hz0, hz1, hz2⟩ := info_parts infoStr
  have hI := Lib.hid (c_is w tb 1 _ hh rfl)
  have hL := Lib.hid (c_ULen s hs w)
  have hC := Lib.hid (c_UCut s hs w)
  have hE : (evenB s).size ≤ maxLen := by rw [evenB_size]; unfold maxLen; omega
  have hkey : keyOf Tryz.prog 22 (.string (evenB s)) = some (kl (evenB s)) := WideMaps.keyOf_string_mk Tryz.underlying22 hE
  obtain ⟨c0, c1, c2, c3, f2, f3⟩ := rowT_cells hh
  have ht1 := ht.1 (evenB s)
  have ht2 := Lib.hid ht.2
  have ht := Lib.hid ht
  have h0 := Lib.hid h0
  have hh' := Lib.hid hh
  have hal := Lib.hid hal
  have hkl := Lib.hid (rfl : kl (evenB s) = kl (evenB s))
  clear hh hE
  have hput := Lib.hid (fun (hm : IsMap D) hn => tells_put hm ht.out (evenB s) hn)
  generalize evenB s = E at *
  cases hhas : Maps.has D (kl E) with
  | true =>
    have hin := Lib.hid (ht1.1 hhas)
    clear ht1 hput hkl
    go_enter Tryz.func14, Tryz.ntmps14
    go_wp2_with (first | (go_at_call 30; refine hI.out.mono ?_; rintro e w1 ⟨rfl, rfl⟩) | (go_at_call 15; refine hL.out.mono ?_; rintro e w1 ⟨rfl, rfl⟩) | (go_at_call 31; refine hC.out.mono ?_; rintro e w1 ⟨rfl, rfl⟩) | (at_lookup; refine wpList_lookup_own_ok_int _ rfl _ _ 57 rfl 22 3 .i64 lawStr Tryz.underlying57 Tryz.underlying3 (zeroInt _) bm names.length D rfl hm _ _ rfl hkey ?_; rw [hhas]; intro c hat hwc))
    go_ret
    obtain ⟨i, hi⟩ := List.getElem?_of_mem hin.out
    have := ht2.out i E hi
    rw [this] at hat
    injection hat with hat
    injection hat with _ hat
    subst hat
    exact ⟨i, names, rfl, h0.out, Below.refl _ _, .inl ⟨rfl, hi⟩⟩
  | false =>
    have hin : E ∉ names := fun h => by rw [ht1.2 h] at hhas; cases hhas
    have ht3 := Lib.hid (hput.out hm.isMap hin)
    have hin := Lib.hid hin
    have hsnoc : strs (names ++ [E]) = strs names ++ [Value.string E] := by simp [strs]
    have hsnoc := Lib.hid hsnoc
    have hnl : (names ++ [E]).length = names.length + 1 := by simp
    have hnl := Lib.hid hnl
    have hval : plainElem (H := Unit) Tryz.prog 3 (.int .i64 (names.length : Int)) = some (.lit (.int .i64 (names.length : Int)), []) := plainElem_int Tryz.underlying3 (WalkArith.wf_i64 (by omega))
    have hvn : ∃ b c, vn = .slice b names.length c := by
      rcases on.2 with ⟨e, h⟩ | ⟨g, cap, cur, e, _⟩
      · rw [h]; exact ⟨_, _, e⟩
      · exact ⟨_, _, e⟩
    obtain ⟨vb, vc, rfl⟩ := hvn
    have hnb : B ≤ bm := hB2
    clear ht1 hput hkl
    go_enter Tryz.func14, Tryz.ntmps14
    go_wp2_with (first | (go_at_call 30; refine hI.out.mono ?_; rintro e w1 ⟨rfl, rfl⟩) | (go_at_call 15; refine hL.out.mono ?_; rintro e w1 ⟨rfl, rfl⟩) | (go_at_call 31; refine hC.out.mono ?_; rintro e w1 ⟨rfl, rfl⟩) | (at_lookup; refine wpList_lookup_own_ok_int _ rfl _ _ 57 rfl 22 3 .i64 lawStr Tryz.underlying57 Tryz.underlying3 (zeroInt _) bm names.length D rfl hm _ _ rfl hkey ?_; rw [hhas]; intro c hat hwc) | (at_mapUpdate; refine wpList_mapUpdate_own _ rfl _ _ _ 57 rfl 22 3 lawStr Tryz.underlying57 _ bm names.length D rfl hm (by unfold maxLen; omega) _ _ _ rfl rfl hkey _ [] hval ?_; intro w4 hm4 hg4; obtain ⟨hh4, on4, os4⟩ := int_m1 hh'.out hm on os hg4; obtain ⟨_, _, d2, _, _, _⟩ := rowT_cells hh4; replace hh4 := Lib.hid hh4; have hB4 := Nat.le_trans hB hg4.size; have hsz4 := Lib.hid hg4) | (at_builtin; refine wpList_append_lies _ (by rfl) _ _ _ (by rfl) B 22 i0 _ 1 16 Tryz.underlying58 hi0 hz0 hz1 hz2 rfl (by omega) (.slice vb names.length vc) names.length (strs names) (by rfl) (on4.alloc _) ⟨w4.heap.size, 0, none⟩ 1 1 [.string E] (by rfl) (by rfl) (World.news_of_block (cs := #[.string E]) (t := 22) (fr := (0, 0)) (by exact heap_alloc_new w4 _)) (by simp [Value.oneCell']) (by omega) (by unfold maxLen; omega) (by omega) (by simp; omega) (w4.heap.size + 1) (by simp) ?_; intro gg cap w5 hown5 hg5 hat5 hlt5; obtain ⟨hh5, hm5, os5, hne5⟩ := int_m2 hh4.out hm4 on4 os4 hal.out hg5 hat5; obtain ⟨_, _, g2, _, fz2, _⟩ := rowT_cells hh5; replace hh5 := Lib.hid hh5))
    go_ret
    have hb4 : Below B w1 w4 := (Below.refl B w1).grown hg4 hB (fun k hk => by cases hk; exact hnb)
    have hb5 : Below B w1 w5 := (hb4.alloc hB4 _).grown hg5 (by simp; omega) (own_base on4)
    refine ⟨names.length, names ++ [E], rfl, ?_, hb5.setCell hB1 _, .inr ⟨hin.out, rfl, rfl⟩⟩
    refine tab_done hB1 hB2 hh5.out ?_ ht3.out ?_ os5 rfl hne5
    · rw [hnl.out]; exact hm5
    · rw [hnl.out, hsnoc.out]; exact hown5
end Go.Proofs.YtbodfdmmfaampaaGreatDoor

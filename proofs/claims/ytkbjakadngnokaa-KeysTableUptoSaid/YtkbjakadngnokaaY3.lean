/-
  A made table's Len and Name; Intern with what it leaves alone; when texts compare as alike.
-/
import Derived.Test.YtkbjakadngnokaaY2
namespace Go.Proofs.Ytkbjakadngnokaa
open Go.RowKit Go.Shelf Go.Lib Go.Sort Go.Proofs Go.Maps
set_option maxHeartbeats 1000000
set_option maxRecDepth 8000

theorem c_EvenR (s : ByteArray) (hs : s.size ≤ 1099511627776) (w : World) :
    Calls Try.prog 16 #[.string s] w fun e w' => e = .returned (.string (evenB s)) ∧ w' = w := by
  have h1 : s.size / 2 * 2 ≤ s.size := by omega
  have h2 : IntKind.i64.wrap (((s.size / 2 : Nat) : Int) * 2) = ((s.size / 2 * 2 : Nat) : Int) := by rw [IntKind.wrap_i64]; omega
  have h3 : Int.tdiv (s.size : Int) 2 = ((s.size / 2 : Nat) : Int) := by
    rw [Int.tdiv_eq_ediv_of_nonneg (by omega)]; rfl
  unfold evenB
  go_enter Try.func16, Try.ntmps16
  go_wp2
  go_ret
  exact ⟨rfl, rfl⟩
theorem ba_eq {a b : ByteArray} (h : a.toList = b.toList) : a = b := by
  rw [ByteArray.toList_eq, ByteArray.toList_eq] at h
  cases a with | mk a => cases b with | mk b =>
  congr 1
  exact Array.toList_inj.1 h
theorem U_even (s : ByteArray) : U (evenB s) = U s := by
  unfold U
  rw [evenB_size]
  have : s.size / 2 * 2 / 2 = s.size / 2 := by omega
  rw [this]
  exact unitsN_even s _ (Nat.le_refl _)
theorem cmpU_even (x s : ByteArray) (hx : evenB x = x) : cmpU (U x) (U s) = 0 ↔ x = evenB s := by
  constructor
  · intro h
    have h1 := cmpU_eq h
    have h2 := even_flat x
    have h3 := even_flat s
    rw [h1, ← h3, hx] at h2
    exact ba_eq h2
  · intro h
    rw [h, U_even]
    exact cmpU_self _
theorem evenB_even (s : ByteArray) : evenB (evenB s) = evenB s := by
  have h2 := even_flat (evenB s)
  rw [U_even, ← even_flat s] at h2
  exact ba_eq h2
theorem c_Len1 {w : World} {B tb : Nat} {names syms : List ByteArray} (h : TabS w B tb names syms) : Calls Try.prog 18 #[.pointer (some ⟨tb, 0, none⟩)] w fun e w' => e = .returned (.int .i64 (names.length : Int)) ∧ w' = w := by
  obtain ⟨bm, vn, vs, D, hB1, hB2, hh, hm, ht, on, os, hal⟩ := h
  have hI := Lib.hid (c_is w tb 1 _ hh rfl)
  obtain ⟨c0, c1, c2, c3, f2, f3⟩ := rowT_cells hh
  have hvn : ∃ b c, vn = .slice b names.length c := by
    rcases on.2 with ⟨e, h⟩ | ⟨g, cap, cur, e, _⟩
    · rw [h]; exact ⟨_, _, e⟩
    · exact ⟨_, _, e⟩
  obtain ⟨vb, vc, rfl⟩ := hvn
  clear hh hm ht on os hal
  go_enter Try.func18, Try.ntmps18
  go_wp2_with (go_at_call 37; refine hI.out.mono ?_; rintro e w1 ⟨rfl, rfl⟩)
  go_ret
  exact ⟨rfl, rfl⟩
theorem c_NameYes {w : World} {B tb : Nat} {names syms : List ByteArray} (h : TabS w B tb names syms) (j : Nat) (hj : j < names.length) :
    Calls Try.prog 19 #[.pointer (some ⟨tb, 0, none⟩), .int .i64 (j : Int)] w fun e w' => e = .returned (.tuple #[.string (nth names j), .int .i64 0]) ∧ w' = w := by
  obtain ⟨bm, vn, vs, D, hB1, hB2, hh, hm, ht, on, os, hal⟩ := h
  have hI := Lib.hid (c_is w tb 1 _ hh rfl)
  obtain ⟨c0, c1, c2, c3, f2, f3⟩ := rowT_cells hh
  obtain ⟨g, cap, rfl, _, _⟩ := on.form (by omega)
  have hc := on.cells (g := g) rfl j (.string (nth names j)) (by simp [strs, nth, hj])
  rw [add_zero_addr] at hc
  have p1 : (0 : Int) ≤ (j : Int) := by omega
  have p2 : (j : Int) < (names.length : Int) := by omega
  generalize nth names j = x at *
  clear hh hm ht on os hal
  go_enter Try.func19, Try.ntmps19
  go_wp2_with (go_at_call 37; refine hI.out.mono ?_; rintro e w1 ⟨rfl, rfl⟩)
  go_ret2
  exact ⟨rfl, rfl⟩
theorem c_NameNo {w : World} {B tb : Nat} {names syms : List ByteArray} (h : TabS w B tb names syms) (z : Int) (hz : z < 0 ∨ (names.length : Int) ≤ z) :
    Calls Try.prog 19 #[.pointer (some ⟨tb, 0, none⟩), .int .i64 z] w fun e w' => e = .returned (.tuple #[.string ⟨#[]⟩, .int .i64 1]) ∧ w' = w := by
  obtain ⟨bm, vn, vs, D, hB1, hB2, hh, hm, ht, on, os, hal⟩ := h
  have hI := Lib.hid (c_is w tb 1 _ hh rfl)
  obtain ⟨c0, c1, c2, c3, f2, f3⟩ := rowT_cells hh
  have hvn : ∃ b c, vn = .slice b names.length c := by
    rcases on.2 with ⟨e, h⟩ | ⟨g, cap, cur, e, _⟩
    · rw [h]; exact ⟨_, _, e⟩
    · exact ⟨_, _, e⟩
  obtain ⟨vb, vc, rfl⟩ := hvn
  clear hh hm ht on os hal
  rcases Int.lt_or_le z 0 with h0 | h0
  · clear hz
    go_enter Try.func19, Try.ntmps19
    go_wp2_with (go_at_call 37; refine hI.out.mono ?_; rintro e w1 ⟨rfl, rfl⟩)
    go_ret2
    exact ⟨rfl, rfl⟩
  · have p1 : ¬ (z < 0) := by omega
    have p2 : (names.length : Int) ≤ z := by omega
    clear hz h0
    go_enter Try.func19, Try.ntmps19
    go_wp2_with (go_at_call 37; refine hI.out.mono ?_; rintro e w1 ⟨rfl, rfl⟩)
    go_ret2
    exact ⟨rfl, rfl⟩
/-- a table's state, and its blocks are of P -/
def TabP (w : World) (B tb : Nat) (names syms : List ByteArray) (P : Nat → Prop) : Prop :=
  ∃ (bm : Nat) (vn vs : Value) (D : DataW Unit), (P tb ∧ P bm ∧ (∀ k, vn.ownBlock = some k → P k) ∧ (∀ k, vs.ownBlock = some k → P k)) ∧ B ≤ tb ∧ B ≤ bm ∧ w.heap[tb]? = some (.cells #[.int .i64 1, .map (some bm), vn, vs] 52 (0, 0)) ∧ w.ownsMap Try.prog 27 (plainElem Try.prog 3) bm names.length D ∧ TellsD D names ∧
    w.ownsRow B 27 1 vn names.length (strs names) ∧ w.ownsRow B 27 1 vs syms.length (strs syms) ∧ (∀ k, vn.ownBlock = some k → vs.ownBlock ≠ some k)
theorem TabP.tab {w : World} {B tb : Nat} {names syms : List ByteArray} {P : Nat → Prop} (h : TabP w B tb names syms P) : TabS w B tb names syms := by
  obtain ⟨bm, vn, vs, D, _, h⟩ := h
  exact ⟨bm, vn, vs, D, h⟩
theorem TabS.p {w : World} {B tb : Nat} {names syms : List ByteArray} (h : TabS w B tb names syms) : TabP w B tb names syms (fun r => B ≤ r ∧ r < w.heap.size) := by
  obtain ⟨bm, vn, vs, D, h1, h2, h3, h4, h5, h6, h7, h8⟩ := h
  refine ⟨bm, vn, vs, D, ⟨⟨h1, heap_lt h3⟩, ⟨h2, ?_⟩, fun k hk => h6.lt k hk, fun k hk => h7.lt k hk⟩, h1, h2, h3, h4, h5, h6, h7, h8⟩
  obtain ⟨es, c, g1, g2⟩ := h4
  exact heap_lt g1
theorem TabP.lt {w : World} {B tb : Nat} {names syms : List ByteArray} {P : Nat → Prop} (h : TabP w B tb names syms P) : TabP w B tb names syms (fun r => P r ∧ r < w.heap.size) := by
  obtain ⟨bm, vn, vs, D, ⟨q1, q2, q3, q4⟩, h1, h2, h3, h4, h5, h6, h7, h8⟩ := h
  refine ⟨bm, vn, vs, D, ⟨⟨q1, heap_lt h3⟩, ⟨q2, ?_⟩, fun k hk => ⟨q3 k hk, (h6.lt k hk).2⟩, fun k hk => ⟨q4 k hk, (h7.lt k hk).2⟩⟩, h1, h2, h3, h4, h5, h6, h7, h8⟩
  obtain ⟨es, c, g1, g2⟩ := h4
  exact heap_lt g1
theorem TabP.mono {w : World} {B tb : Nat} {names syms : List ByteArray} {P Q : Nat → Prop} (h : TabP w B tb names syms P) (hPQ : ∀ r, P r → Q r) : TabP w B tb names syms Q := by
  obtain ⟨bm, vn, vs, D, ⟨q1, q2, q3, q4⟩, h⟩ := h
  exact ⟨bm, vn, vs, D, ⟨hPQ _ q1, hPQ _ q2, fun k hk => hPQ _ (q3 k hk), fun k hk => hPQ _ (q4 k hk)⟩, h⟩
theorem row_eq {w w' : World} {B e n : Nat} {v : Value} {xs : List Value} (h : w.ownsRow B e 1 v n xs) (hk : ∀ k, v.ownBlock = some k → w'.heap[k]? = w.heap[k]?) : w'.ownsRow B e 1 v n xs := by
  refine ⟨h.1, ?_⟩
  rcases h.2 with h | ⟨g, cap, cur, rfl, hb, hg, r⟩
  · exact .inl h
  · exact .inr ⟨g, cap, cur, rfl, hb, by rw [hk g rfl]; exact hg, r⟩
theorem TabP.at {w w' : World} {B tb : Nat} {names syms : List ByteArray} {P : Nat → Prop} (h : TabP w B tb names syms P) (hk : ∀ r, P r → r < w.heap.size → w'.heap[r]? = w.heap[r]?) : TabP w' B tb names syms P := by
  obtain ⟨bm, vn, vs, D, ⟨q1, q2, q3, q4⟩, h1, h2, h3, h4, h5, h6, h7, h8⟩ := h.lt
  refine ⟨bm, vn, vs, D, ⟨q1.1, q2.1, fun k hk => (q3 k hk).1, fun k hk => (q4 k hk).1⟩, h1, h2, ?_, ?_, h5, row_eq h6 (fun k e => hk k (q3 k e).1 (q3 k e).2), row_eq h7 (fun k e => hk k (q4 k e).1 (q4 k e).2), h8⟩
  · rw [hk tb q1.1 q1.2]; exact h3
  · obtain ⟨es, c, g1, g2⟩ := h4
    exact ⟨es, c, by rw [hk bm q2.1 q2.2]; exact g1, g2⟩
theorem grown_keep {w w' : World} {k : Option Nat} (h : w.grownBy w' k) : KeepBut (fun r => k = some r) w w' := ⟨h.size, fun r hr he => h.block r hr (fun e => he e.symm)⟩
theorem alloc_keep (ex : Nat → Prop) (w : World) (o : Obj) : KeepBut ex w (w.alloc o) := ⟨by simp, fun r hr _ => Below.heap_alloc _ _ _ hr⟩
theorem set_keep {ex : Nat → Prop} (w : World) (b i : Nat) (u : Value) (hb : ex b) : KeepBut ex w (w.setCell ⟨b, i, none⟩ u) :=
  ⟨by simp [World.setCell], fun r _ he => Below.heap_setCell _ _ _ _ (fun e => he (by rw [e]; exact hb))⟩
theorem tab_doneP {P : Nat → Prop} {w2 : World} {B tb bm n m gg cap : Nat} {vn vs : Value} {D : DataW Unit} {names syms : List ByteArray} (hP : P tb ∧ P bm ∧ P gg ∧ ∀ k, vs.ownBlock = some k → P k) (hB : B ≤ tb) (hB2 : B ≤ bm) (hh : w2.heap[tb]? = some (rowT bm vn vs)) (hm : w2.ownsMap Try.prog 27 (plainElem Try.prog 3) bm names.length D) (ht : TellsD D names)
    (hn : w2.ownsRow B 27 1 (.slice (some ⟨gg, 0, none⟩) n cap) names.length (strs names)) (hs : w2.ownsRow B 27 1 vs m (strs syms)) (hm2 : m = syms.length) (hne : vs.ownBlock ≠ some gg) :
    TabP (w2.setCell ⟨tb, 2, none⟩ (.slice (some ⟨gg, 0, none⟩) n cap)) B tb names syms P := by
  subst hm2
  refine ⟨bm, _, vs, D, ⟨hP.1, hP.2.1, fun k hk => by simp [Value.ownBlock] at hk; subst hk; exact hP.2.2.1, hP.2.2.2⟩, hB, hB2, ?_, hm.setCell (by intro e; exact ne_map hm hh e.symm) _, ht, own_setTab hh hn _ _, own_setTab hh hs _ _, ?_⟩
  · rw [heap_setCell_same w2 tb 2 _ _ _ hh]; rfl
  · intro k hk; simp [Value.ownBlock] at hk; subst hk; exact hne
theorem c_InternP (P : Nat → Prop) (B tb : Nat) (names syms : List ByteArray) (s : ByteArray) (hs : s.size ≤ 1099511627776) (hn : names.length ≤ 1099511627776) (w : World) (hB : B ≤ w.heap.size) (h : TabP w B tb names syms P) :
    Calls Try.prog 17 #[.pointer (some ⟨tb, 0, none⟩), .string s] w fun e w' => ∃ (i : Nat) (names' : List ByteArray), e = .returned (.int .i64 (i : Int)) ∧ TabP w' B tb names' syms (fun r => P r ∨ w.heap.size ≤ r) ∧ Below B w w' ∧ KeepBut P w w' ∧ ((names' = names ∧ names[i]? = some (evenB s)) ∨ (evenB s ∉ names ∧ names' = names ++ [evenB s] ∧ i = names.length)) := by
  have h0 := h
  obtain ⟨bm, vn, vs, D, hPP, hB1, hB2, hh, hm, ht, on, os, hal⟩ := h
  have hPP := Lib.hid hPP
  obtain ⟨i0, hi0, hz0, hz1, hz2⟩ := info_parts infoStr
  have hI := Lib.hid (c_is w tb 1 _ hh rfl)
  have hL := Lib.hid (c_ULen s hs w)
  have hC := Lib.hid (c_UCut s hs w)
  have hE : (evenB s).size ≤ maxLen := by rw [evenB_size]; unfold maxLen; omega
  have hkey : keyOf Try.prog 27 (.string (evenB s)) = some (kl (evenB s)) := WideMaps.keyOf_string_mk Try.underlying27 hE
  obtain ⟨c0, c1, c2, c3, f2, f3⟩ := rowT_cells hh
  have ht1 := ht.1 (evenB s)
  have ht2 := Lib.hid ht.2
  have ht := Lib.hid ht
  have h0 := Lib.hid h0
  have hh' := Lib.hid hh
  have hal := Lib.hid hal
  have hkl := Lib.hid (rfl : kl (evenB s) = kl (evenB s))
  clear hh hE
  have hput := Lib.hid (fun (hm : IsMap D) hn => tells_put hm ht.out (evenB s) hn)
  generalize evenB s = E at *
  cases hhas : Maps.has D (kl E) with
  | true =>
    have hin := Lib.hid (ht1.1 hhas)
    clear ht1 hput hkl
    go_enter Try.func17, Try.ntmps17
    go_wp2_with (first | (go_at_call 37; refine hI.out.mono ?_; rintro e w1 ⟨rfl, rfl⟩) | (go_at_call 39; refine hL.out.mono ?_; rintro e w1 ⟨rfl, rfl⟩) | (go_at_call 38; refine hC.out.mono ?_; rintro e w1 ⟨rfl, rfl⟩) | (at_lookup; refine wpList_lookup_own_ok_int _ rfl _ _ 50 rfl 27 3 .i64 lawStr Try.underlying50 Try.underlying3 (zeroInt _) bm names.length D rfl hm _ _ rfl hkey ?_; rw [hhas]; intro c hat hwc))
    go_ret
    obtain ⟨i, hi⟩ := List.getElem?_of_mem hin.out
    have := ht2.out i E hi
    rw [this] at hat
    injection hat with hat
    injection hat with _ hat
    subst hat
    exact ⟨i, names, rfl, h0.out.mono (fun r h => .inl h), Below.refl _ _, KeepBut.refl _ _, .inl ⟨rfl, hi⟩⟩
  | false =>
    have hin : E ∉ names := fun h => by rw [ht1.2 h] at hhas; cases hhas
    have ht3 := Lib.hid (hput.out hm.isMap hin)
    have hin := Lib.hid hin
    have hsnoc : strs (names ++ [E]) = strs names ++ [Value.string E] := by simp [strs]
    have hsnoc := Lib.hid hsnoc
    have hnl : (names ++ [E]).length = names.length + 1 := by simp
    have hnl := Lib.hid hnl
    have hval : plainElem (H := Unit) Try.prog 3 (.int .i64 (names.length : Int)) = some (.lit (.int .i64 (names.length : Int)), []) := plainElem_int Try.underlying3 (WalkArith.wf_i64 (by omega))
    have hvn : ∃ b c, vn = .slice b names.length c := by
      rcases on.2 with ⟨e, h⟩ | ⟨g, cap, cur, e, _⟩
      · rw [h]; exact ⟨_, _, e⟩
      · exact ⟨_, _, e⟩
    obtain ⟨vb, vc, rfl⟩ := hvn
    have hnb : B ≤ bm := hB2
    clear ht1 hput hkl
    go_enter Try.func17, Try.ntmps17
    go_wp2_with (first | (go_at_call 37; refine hI.out.mono ?_; rintro e w1 ⟨rfl, rfl⟩) | (go_at_call 39; refine hL.out.mono ?_; rintro e w1 ⟨rfl, rfl⟩) | (go_at_call 38; refine hC.out.mono ?_; rintro e w1 ⟨rfl, rfl⟩) | (at_lookup; refine wpList_lookup_own_ok_int _ rfl _ _ 50 rfl 27 3 .i64 lawStr Try.underlying50 Try.underlying3 (zeroInt _) bm names.length D rfl hm _ _ rfl hkey ?_; rw [hhas]; intro c hat hwc) | (at_mapUpdate; refine wpList_mapUpdate_own _ rfl _ _ _ 50 rfl 27 3 lawStr Try.underlying50 _ bm names.length D rfl hm (by unfold maxLen; omega) _ _ _ rfl rfl hkey _ [] hval ?_; intro w4 hm4 hg4; obtain ⟨hh4, on4, os4⟩ := int_m1 hh'.out hm on os hg4; obtain ⟨_, _, d2, _, _, _⟩ := rowT_cells hh4; replace hh4 := Lib.hid hh4; have hB4 := Nat.le_trans hB hg4.size; have hsz4 := Lib.hid hg4) | (at_builtin; refine wpList_append_lies _ (by rfl) _ _ _ (by rfl) B 27 i0 _ 1 16 Try.underlying33 hi0 hz0 hz1 hz2 rfl (by omega) (.slice vb names.length vc) names.length (strs names) (by rfl) (on4.alloc _) ⟨w4.heap.size, 0, none⟩ 1 1 [.string E] (by rfl) (by rfl) (World.news_of_block (cs := #[.string E]) (t := 27) (fr := (0, 0)) (by exact heap_alloc_new w4 _)) (by simp [Value.oneCell']) (by omega) (by unfold maxLen; omega) (by omega) (by simp; omega) (w4.heap.size + 1) (by simp) ?_; intro gg cap w5 hown5 hg5 hat5 hlt5; obtain ⟨hh5, hm5, os5, hne5⟩ := int_m2 hh4.out hm4 on4 os4 hal.out hg5 hat5; obtain ⟨_, _, g2, _, fz2, _⟩ := rowT_cells hh5; replace hh5 := Lib.hid hh5))
    go_ret
    have hb4 : Below B w1 w4 := (Below.refl B w1).grown hg4 hB (fun k hk => by cases hk; exact hnb)
    have hb5 : Below B w1 w5 := (hb4.alloc hB4 _).grown hg5 (by simp; omega) (own_base on4)
    obtain ⟨q1, q2, q3, q4⟩ := hPP.out
    have k4 : KeepBut P w1 w4 := (grown_keep hg4).mono (fun r e => by cases e; exact q2)
    have k5 : KeepBut P (w4.alloc (.cells #[.string E] 27)) w5 := (grown_keep hg5).mono (fun r e => q3 r e)
    have kk := ((k4.trans (alloc_keep P w4 (.cells #[.string E] 27))).trans k5).trans (set_keep (ex := P) w5 tb 2 (.slice (some ⟨gg, 0, none⟩) (names.length + 1) cap) q1)
    refine ⟨names.length, names ++ [E], rfl, ?_, hb5.setCell hB1 _, kk, .inr ⟨hin.out, rfl, rfl⟩⟩
    refine tab_doneP ⟨.inl q1, .inl q2, ?_, fun k hk => .inl (q4 k hk)⟩ hB1 hB2 hh5.out ?_ ht3.out ?_ os5 rfl hne5
    · rcases hat5 with h | h
      · exact .inl (q3 _ h)
      · right; have := k4.1; omega
    · rw [hnl.out]; exact hm5
    · rw [hnl.out, hsnoc.out]; exact hown5
end Go.Proofs.Ytkbjakadngnokaa

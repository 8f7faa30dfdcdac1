/-
  Contracts: How a dictionary takes a property that it has: the walk. How a dictionary takes a property that it has not. How a dictionary takes a property that it has not: the walk. The keys that a dictionary tells. A dictionary drops a property: what a map's operations do; what is left of the list. A dictionary's list is made anew: what holds at each round.
-/
import Derived.Test.YtoccmiinkfhohaaGreatW7
namespace Go.Proofs.YtoccmiinkfhohaaGreat
open Go.RowKit Go.Shelf Go.Lib Go.Sort Go.Proofs Go.Maps
set_option maxHeartbeats 2000000
set_option maxRecDepth 100000

theorem c_SWputS {w : World} {f : Nat → Nat} {c db b : Nat} {es : List EN} (hN : Norm f w) (h : SlowO w f c db b es) (tv : Value) (k : KK) (hk : okK k) (p : PV) (i : Nat) (hli : lidx es (pk k) = some i) :
    Calls Tryz.prog 46 #[.pointer (some ⟨db, 0, none⟩), tv, keyV k.1 k.2, propV p] w fun e w' => e = .returned (.bool true) ∧ PutD w f c db b (putL (live es) (pk k) p) w' := by
  obtain ⟨mb, n, g, lv, h1, h2, h3, h4, h5, h6, h7⟩ := h
  obtain ⟨z, hz, hlk⟩ := look_K h3 (pk k) (pk_ok hk)
  rw [h7 _ (pk_ok hk)] at hz hlk
  have hP := Lib.hid (c_Hplain k hk.1)
  have lm := h3.lt
  unfold keyV propV at *
  obtain ⟨k0, kn⟩ := k
  dsimp only at *
  generalize pk (k0, kn) = K at *
  obtain ⟨W2, hW2⟩ : ∃ W2, (w.alloc (.cells #[.string k0, .int .i64 kn] 31)).alloc (.cells (encP p).toArray 36) = W2 := ⟨_, rfl⟩
  have hb2 : Below w.heap.size w W2 := by rw [← hW2]; exact ((Below.refl _ w).alloc (Nat.le_refl _) _).alloc (by simp) _
  have hs2 : W2.heap.size = w.heap.size + 2 := by rw [← hW2]; simp
  have d0 : W2.heap[w.heap.size]? = some (.cells #[.string k0, .int .i64 kn] 31 (0, 0)) := by rw [← hW2, Below.heap_alloc _ _ _ (by simp)]; exact heap_alloc_new w _
  have z0 : W2.heap[w.heap.size + 1]? = some (.cells (encP p).toArray 36 (0, 0)) := by rw [← hW2]; exact heap_alloc2_new w _ _
  have kc0 : W2.cell? ⟨w.heap.size, 0, none⟩ = some (.string k0) := by rw [cell_of_row _ _ 0 _ _ _ d0]; rfl
  have kc1 : W2.cell? ⟨w.heap.size, 1, none⟩ = some (.int .i64 kn) := by rw [cell_of_row _ _ 1 _ _ _ d0]; rfl
  have lf := heapH_lt h1.1
  have c0 : W2.cell? ⟨db, 0, none⟩ = some (.map (some mb)) := by rw [hb2.cell (p := ⟨db, 0, none⟩) lf, cell_of_row _ _ 0 _ _ _ h1.1]; rfl
  rw [← hb2.block mb lm] at hlk
  have t1 : w.heap.size < W2.heap.size := by omega
  have t2 : db < W2.heap.size := by omega
  have t3 : mb < W2.heap.size := by omega
  rw [hli] at hlk hz
  dsimp only [Option.map, Option.isSome] at hlk
  obtain rfl := hz _ rfl
  have hil := lidx_lt hli
  obtain ⟨en, j, e1, e2, e3, e4, e5, e6, e7⟩ := lidx_some hli
  have hpl : live (es.set i { en with p := p }) = putL (live es) (pk en.k) p := by unfold putL; rw [e3, e4]; exact e6 p
  obtain ⟨g', cap, rfl, g1, g2⟩ := h2.1.form (by omega)
  have hg := (h2.1.lt g' rfl).2
  have ng : db ≠ g' := fun e => row_not h2.1 h1.1 (by decide) (congrArg some e.symm)
  obtain ⟨cur, hcur⟩ := row_type h2.1 (r := g') rfl
  have p3 : (0 : Int) ≤ (i : Int) := by omega
  have p4 : (i : Int) < (es.length : Int) := by omega
  replace hs2 := Lib.hid hs2
  replace h1 := Lib.hid h1
  replace h4 := Lib.hid h4
  replace h2 := Lib.hid h2
  replace h3 := Lib.hid h3
  replace h5 := Lib.hid h5
  replace h6 := Lib.hid h6
  replace h7 := Lib.hid h7
  replace z0 := Lib.hid z0
  replace hN := Lib.hid hN
  replace hpl := Lib.hid hpl
  replace e1 := Lib.hid e1
  replace e3 := Lib.hid e3
  replace hcur := Lib.hid hcur
  clear d0 hk e2 e4 e5 e6 e7 hz hli
  go_enter Tryz.func46, Tryz.ntmps46
  go_wp2_with fail
  go_region_held3 (fun y => (∀ a : Addr, a.block < W2.heap.size → y.cell? a = W2.cell? a) ∧ (∀ b : Nat, b < W2.heap.size → y.heap[b]? = W2.heap[b]?) ∧ Below W2.heap.size W2 y) (first | assumption | exact onto_drew W2 | exact onto_below (by assumption) (by assumption)) (first | (go_at_call 57; refine (hP.out _).mono ?_; rintro e y' ⟨rfl, hb⟩))
  have hO := onto_below (onto_drew W2) hb
  have z1 : y'.heap[w.heap.size + 1]? = some (.cells (encP p).toArray 36 (0, 0)) := (hO.2.1 _ (by have := hs2.out; omega)).trans z0.out
  have hbw := hb2.trans (hO.2.2.mono hb2.size)
  have c1 : y'.cell? ⟨db, 1, none⟩ = some (.slice (some ⟨g', 0, none⟩) es.length cap) := by
    rw [World.cell?_of_block (w := w) (a := ⟨db, 1, none⟩) (hbw.block db lf), cell_of_row _ _ 1 _ _ _ h1.out.1]; rfl
  obtain ⟨v0, v1, v2, v3, v4, v5, v6, v7, v8, v9, v10, v11, v12⟩ := cells13 z1
  obtain ⟨u0, u1, u2, u3, u4, u5, u6, u7, u8, u9, u10, u11, u12⟩ := range15 (p := en.p) (range_at (rangeN h2.out.1 e1.out) (hbw.block g' hg))
  have fz : ∀ o, y'.frozen? ⟨g', o, none⟩ = false := fun o => by
    have : y'.heap[g']? = some (.cells cur 129 (0, 0)) := (hbw.block g' hg).trans hcur.out
    simp [World.frozen?, this]
  have hT1 : Turn (fun x => x = c) f f w y' := Turn.of_below _ hN.out hbw
  have hT0 : Turn (fun _ => False) f f w y' := Turn.of_below _ hN.out hbw
  obtain ⟨r1, r2⟩ := slow_set (e := en) _ rfl hT1 (blk_turn h1.out hT0 id) (h2.out.turn hT0 id) (h3.out.turn hT0 id) h4.out h5.out h6.out h7.out e1.out hpl.out
  replace hbw := Lib.hid hbw
  replace z1 := Lib.hid z1
  replace r1 := Lib.hid r1
  replace r2 := Lib.hid r2
  clear hO hb kc0 kc1 c0 t1 t2 t3 hlk hT1 hT0
  have rsf := fun (w : World) (a : Addr) (x : Nat) => run_store Tryz.prog w a (.float .f64 x) .plain rfl
  go_wp2_with fail
  refine wp_region_noPanic ?_
  go_region_law (fail)
  all_goals
    refine NoPanic.normal ?_
    generalize hw6 : World.drew _ = w6
    have hw7 : (y'.setCells g' (i * 16 + 2) (encP p)).drew = w6 := hw6
    rw [hw7] at r1 r2
    clear hw6 hw7 v0 v1 v2 v3 v4 v5 v6 v7 v8 v9 v10 v11 v12 u0 u1 u2 u3 u4 u5 u6 u7 u8 u9 u10 u11 u12 c1 rsf fz
    go_wp2
    go_ret
    exact ⟨rfl, f, _, r1.out, r2.out.mono (Nat.le_succ _), by rw [← e3.out]; exact hpl.out⟩
end Go.Proofs.YtoccmiinkfhohaaGreat
namespace Go.Proofs.YtoccmiinkfhohaaGreat
open Go.RowKit Go.Shelf Go.Lib Go.Sort Go.Proofs Go.Maps
set_option maxHeartbeats 2000000
set_option maxRecDepth 100000

theorem slow_push {w y w5 : World} {f f2 : Nat → Nat} {c db b gg cap mb n : Nat} {gm : Lit → Option Int} {lv : Value} {es : List EN} {e : EN} {K : KK} {o : Obj} (hK : pk e.k = K) (hg0 : e.gone = false) (hok : okK e.k)
    (hTw : Turn (fun x => x = c) f f2 w y) (h1 : y.heap[db]? = some (.cells #[.map (some mb), lv] 97 (0, 0)) ∧ f2 db = c) (h2 : RowO y f2 c 129 16 lv es.length (flatN es))
    (h3 : ∃ g', MapG y 31 mb (n + 1) g' ∧ g' (klK K) = some (es.length : Int) ∧ ∀ l, l ≠ klK K → g' l = gm l) (h3' : f2 mb = c) (h4 : n ≤ b ∧ es.length ≤ b) (h5 : ∀ e ∈ es, okK e.k) (h6 : (gk (live es)).Nodup) (h7 : ∀ x, okK x → gm (klK x) = (lidx es x).map Int.ofNat) (hno : lidx es K = none)
    (hg : (y.alloc o).grownBy w5 lv.ownBlock) (hat : lv.ownBlock = some gg ∨ gg = y.heap.size + 1)
    (hown : w5.ownsRow 0 129 16 (.slice (some ⟨gg, 0, none⟩) (es.length + 1) cap) (es.length + 1) (flatN es ++ encN e)) :
    ∃ f', Turn (fun x => x = c) f f' w (w5.setCell ⟨db, 1, none⟩ (.slice (some ⟨gg, 0, none⟩) (es.length + 1) cap)) ∧ SlowO (w5.setCell ⟨db, 1, none⟩ (.slice (some ⟨gg, 0, none⟩) (es.length + 1) cap)) f' c db (b + 1) (es ++ [e]) ∧ live (es ++ [e]) = putL (live es) K e.p := by
  have lf := heapH_lt h1.1
  have nf := row_not h2.1 h1.1 (by decide)
  obtain ⟨g', hm, hk1, hk2⟩ := h3
  have lm := hm.lt
  have nm : lv.ownBlock ≠ some mb := fun e => by
    obtain ⟨cur, hc⟩ := row_type h2.1 e
    obtain ⟨D, ⟨es', cl, hm, _⟩, _⟩ := hm
    rw [hc] at hm
    cases hm
  have ndm : db ≠ mb := fun e => by
    obtain ⟨D, ⟨es', cl, hm, _⟩, _⟩ := hm
    rw [← e, h1.1] at hm
    cases hm
  have t2 := (Turn.refl (fun x => x = c) hTw.norm).alloc o
  have t3 := t2.grown (fun _ => c) hg (fun r hr => h2.2 r hr)
  have sz : (y.alloc o).heap.size = y.heap.size + 1 := by simp
  have t4 := t3.set db 1 (.slice (some ⟨gg, 0, none⟩) (es.length + 1) cap) (by rw [give_old (by rw [sz]; omega)]; exact h1.2)
  have e5 : w5.heap[db]? = some (.cells #[.map (some mb), lv] 97 (0, 0)) := by
    rw [hg.block db (by rw [sz]; omega) (fun e => nf e.symm), Below.heap_alloc _ _ _ lf]; exact h1.1
  have ng : gg ≠ db := by
    rcases hat with h | h
    · intro e; subst e; exact nf h
    · omega
  have lg := (hown.lt gg rfl).2
  have hlive : live (es ++ [e]) = putL (live es) K e.p := by
    unfold putL
    rw [lidx_none.1 hno, live_app, ← hK]
    simp [live, hg0]
  refine ⟨_, hTw.trans t4, ⟨mb, n + 1, g', .slice (some ⟨gg, 0, none⟩) (es.length + 1) cap, ⟨?_, ?_⟩, ⟨?_, ?_⟩, ⟨hm.at ?_, ?_⟩, ⟨by omega, by simp; omega⟩, ?_, ?_, ?_⟩, hlive⟩
  · rw [heap_setCell_same w5 db 1 _ _ _ e5]; rfl
  · rw [give_old (by rw [sz]; omega)]; exact h1.2
  · have e1 : (es ++ [e]).length = es.length + 1 := by simp
    have e2 : flatN (es ++ [e]) = flatN es ++ encN e := by simp [flatN]
    rw [e1, e2]
    exact own_at hown fun r hr => by
      injection hr with hr; subst hr
      exact Below.heap_setCell _ _ _ _ ng
  · intro r hr
    injection hr with hr
    change gg = r at hr
    subst hr
    rcases hat with h | h
    · rw [give_old (by rw [sz]; have := (h2.1.lt gg h).2; omega)]; exact h2.2 gg h
    · rw [give_new (by rw [sz]; omega) lg]
  · rw [Below.heap_setCell _ _ _ _ ndm.symm, hg.block mb (by rw [sz]; omega) (fun e => nm e.symm), Below.heap_alloc _ _ _ lm]
  · rw [give_old (by rw [sz]; omega)]; exact h3'
  · intro x hx
    rcases List.mem_append.1 hx with h | h
    · exact h5 x h
    · simp at h; subst h; exact hok
  · rw [hlive]; exact gk_put_nodup h6 _ _
  · intro x hx
    rw [lidx_snoc hg0, hK]
    by_cases e1 : K = x
    · subst e1; rw [hk1, hno]; simp
    · rw [hk2 _ (fun h => e1 (klK_inj (by rw [← hK]; exact pk_ok hok) hx h.symm)), h7 x hx]
      cases lidx es x <;> simp [e1]
theorem infoEntry : (Tryz.prog.info? 129).map (fun i => (i.zero, i.size, i.bytes)) = some (some (.agg (encN ⟨(⟨#[]⟩, 0), zeroPV, false⟩).toArray), 16, 160) := by kernel_rfl
end Go.Proofs.YtoccmiinkfhohaaGreat
namespace Go.Proofs.YtoccmiinkfhohaaGreat
open Go.RowKit Go.Shelf Go.Lib Go.Sort Go.Proofs Go.Maps
set_option maxHeartbeats 2000000
set_option maxRecDepth 100000

theorem c_SWputN {w : World} {f : Nat → Nat} {c db b : Nat} {es : List EN} (hN : Norm f w) (h : SlowO w f c db b es) (hbb : b ≤ 100000) (tv : Value) (k : KK) (hk : okK k) (p : PV) (hli : lidx es (pk k) = none) :
    Calls Tryz.prog 46 #[.pointer (some ⟨db, 0, none⟩), tv, keyV k.1 k.2, propV p] w fun e w' => e = .returned (.bool true) ∧ PutD w f c db b (putL (live es) (pk k) p) w' := by
  obtain ⟨mb, n, g, lv, h1, h2, h3, h4, h5, h6, h7⟩ := h
  have hel : es.length ≤ 100000 := by omega
  have hnl : n ≤ 100000 := by omega
  clear hbb
  obtain ⟨z, hz, hlk⟩ := look_K h3 (pk k) (pk_ok hk)
  rw [h7 _ (pk_ok hk)] at hz hlk
  have hP := Lib.hid (c_Hplain k hk.1)
  have lm := h3.lt
  obtain ⟨Um, hU⟩ := store_U lawKey Tryz.underlying94 (b := mb) (n := n) (g := g) (keyOf_K (pk k) (pk_ok hk)) (isKey_klK _) (v := (es.length : Int)) (WalkArith.wf_i64 (by omega)) (by unfold maxLen; omega)
  have hUr := fun y h => (hU y h).1
  have hUt := Lib.hid (fun y h => (hU y h).2)
  unfold keyV propV at *
  obtain ⟨k0, kn⟩ := k
  dsimp only at *
  generalize hK : pk (k0, kn) = K at *
  obtain ⟨W2, hW2⟩ : ∃ W2, (w.alloc (.cells #[.string k0, .int .i64 kn] 31)).alloc (.cells (encP p).toArray 36) = W2 := ⟨_, rfl⟩
  have hb2 : Below w.heap.size w W2 := by rw [← hW2]; exact ((Below.refl _ w).alloc (Nat.le_refl _) _).alloc (by simp) _
  have hs2 : W2.heap.size = w.heap.size + 2 := by rw [← hW2]; simp
  have d0 : W2.heap[w.heap.size]? = some (.cells #[.string k0, .int .i64 kn] 31 (0, 0)) := by rw [← hW2, Below.heap_alloc _ _ _ (by simp)]; exact heap_alloc_new w _
  have z0 : W2.heap[w.heap.size + 1]? = some (.cells (encP p).toArray 36 (0, 0)) := by rw [← hW2]; exact heap_alloc2_new w _ _
  have kc0 : W2.cell? ⟨w.heap.size, 0, none⟩ = some (.string k0) := by rw [cell_of_row _ _ 0 _ _ _ d0]; rfl
  have kc1 : W2.cell? ⟨w.heap.size, 1, none⟩ = some (.int .i64 kn) := by rw [cell_of_row _ _ 1 _ _ _ d0]; rfl
  have lf := heapH_lt h1.1
  have c0 : W2.cell? ⟨db, 0, none⟩ = some (.map (some mb)) := by rw [hb2.cell (p := ⟨db, 0, none⟩) lf, cell_of_row _ _ 0 _ _ _ h1.1]; rfl
  have hlk2 := hlk
  rw [← hb2.block mb lm] at hlk
  have t1 : w.heap.size < W2.heap.size := by omega
  have t2 : db < W2.heap.size := by omega
  have t3 : mb < W2.heap.size := by omega
  rw [hli] at hlk hz
  dsimp only [Option.map, Option.isSome] at hlk
  have ndm : db ≠ mb := fun e => by
    obtain ⟨D, ⟨es', cl, hm, _⟩, _⟩ := h3.1
    rw [← e, h1.1] at hm
    cases hm
  have hlf : ∃ q cp, lv = .slice q es.length cp := by
    rcases h2.1.2 with ⟨e, h⟩ | ⟨g, cap, cur, e, _⟩
    · rw [h]; exact ⟨_, _, e⟩
    · exact ⟨_, _, e⟩
  obtain ⟨q, cp, rfl⟩ := hlf
  replace hs2 := Lib.hid hs2
  replace h1 := Lib.hid h1
  replace h4 := Lib.hid h4
  replace h2 := Lib.hid h2
  replace h3 := Lib.hid h3
  replace h5 := Lib.hid h5
  replace h6 := Lib.hid h6
  replace h7 := Lib.hid h7
  replace z0 := Lib.hid z0
  replace d0 := Lib.hid d0
  replace hN := Lib.hid hN
  replace hli := Lib.hid hli
  replace hK := Lib.hid hK
  replace hUr := Lib.hid hUr
  replace hk := Lib.hid hk
  clear hz hU hlk2
  go_enter Tryz.func46, Tryz.ntmps46
  go_wp2_with fail
  go_region_held3 (fun y => (∀ a : Addr, a.block < W2.heap.size → y.cell? a = W2.cell? a) ∧ (∀ b : Nat, b < W2.heap.size → y.heap[b]? = W2.heap[b]?) ∧ Below W2.heap.size W2 y) (first | assumption | exact onto_drew W2 | exact onto_below (by assumption) (by assumption)) (first | (go_at_call 57; refine (hP.out _).mono ?_; rintro e y' ⟨rfl, hb⟩))
  have hO := onto_below (onto_drew W2) hb
  clear kc0 kc1 c0
  have z1 : y'.heap[w.heap.size + 1]? = some (.cells (encP p).toArray 36 (0, 0)) := (hO.2.1 _ (by have := hs2.out; omega)).trans z0.out
  have d1 : y'.heap[w.heap.size]? = some (.cells #[.string k0, .int .i64 kn] 31 (0, 0)) := (hO.2.1 _ t1).trans d0.out
  have hbw := hb2.trans (hO.2.2.mono hb2.size)
  have e1 : y'.heap[db]? = some (.cells #[.map (some mb), .slice q es.length cp] 97 (0, 0)) := (hbw.block db lf).trans h1.out.1
  have c0 : y'.cell? ⟨db, 0, none⟩ = some (.map (some mb)) := by rw [cell_of_row _ _ 0 _ _ _ e1]; rfl
  have c1 : y'.cell? ⟨db, 1, none⟩ = some (.slice q es.length cp) := by rw [cell_of_row _ _ 1 _ _ _ e1]; rfl
  have kc0 : y'.cell? ⟨w.heap.size, 0, none⟩ = some (.string k0) := by rw [cell_of_row _ _ 0 _ _ _ d1]; rfl
  have kc1 : y'.cell? ⟨w.heap.size, 1, none⟩ = some (.int .i64 kn) := by rw [cell_of_row _ _ 1 _ _ _ d1]; rfl
  have hm2 := butU_start (.inl (h3.out.1.at (hbw.block mb lm)) : MapU y' 31 mb n g (klK K) (es.length : Int))
  have g1 : w.heap.size < y'.heap.size := heapH_lt d1
  have g2 : db < y'.heap.size := heapH_lt e1
  have g3 : w.heap.size + 1 < y'.heap.size := heapH_lt z1
  have n1 : w.heap.size ≠ mb := by omega
  have n3 : w.heap.size + 1 ≠ mb := by omega
  have hbw' := Lib.hid hbw
  replace z1 := Lib.hid z1
  replace d1 := Lib.hid d1
  replace e1 := Lib.hid e1
  have hUr2 := hUr.out
  clear hO hb hbw t1 t2 t3 hlk
  go_wp2_with fail
  go_region_held3 (fun y => ((∀ a : Addr, a.block < y'.heap.size → a.block ≠ mb → y.cell? a = y'.cell? a) ∧ y'.grownBy y (some mb)) ∧ MapU y 31 mb n g (klK K) (es.length : Int) ∧ mb < y'.heap.size) (first | assumption | exact hm2 | exact butU_below (by assumption) (by assumption) | exact butU_turn (by assumption) (hUt.out _ (And.left (And.right (by assumption))))) (first | (go_at_call 57; refine (hP.out _).mono ?_; rintro e y2 ⟨rfl, hb⟩))
  have hbU := butU_below hm2 hb
  have hbT := butU_turn hbU (hUt.out _ hbU.2.1)
  have hfin := (hUt.out y2 hbU.2.1).1
  have hg5 := hbT.1.2
  generalize Um y2 = y5 at *
  have k1 : y5.heap[db]? = some (.cells #[.map (some mb), .slice q es.length cp] 97 (0, 0)) := (hg5.block db g2 (fun e => ndm (Option.some.inj e))).trans e1.out
  have k2 : y5.heap[w.heap.size]? = some (.cells #[.string k0, .int .i64 kn] 31 (0, 0)) := (hg5.block _ g1 (fun e => n1 (Option.some.inj e))).trans d1.out
  have k3 : y5.heap[w.heap.size + 1]? = some (.cells (encP p).toArray 36 (0, 0)) := (hg5.block _ g3 (fun e => n3 (Option.some.inj e))).trans z1.out
  have T1 : Turn (fun x => x = c) f (give f y' y5 (fun _ => 0)) w y5 := (Turn.of_below _ hN.out hbw'.out).grown _ hg5 (fun r hr => by obtain rfl := Option.some.inj hr; exact h3.out.2)
  have nq : (Value.slice q es.length cp).ownBlock ≠ some mb := fun e => by
    obtain ⟨cur, hc⟩ := row_type h2.out.1 e
    obtain ⟨D, ⟨es', cl, hm, _⟩, _⟩ := h3.out.1
    rw [hc] at hm
    cases hm
  have hrow : y5.ownsRow 0 129 16 (.slice q es.length cp) es.length (flatN es) := own_at h2.out.1 (fun r hr => (hg5.block r (Nat.lt_of_lt_of_le (h2.out.1.lt r hr).2 hbw'.out.size) (fun e => nq (hr.trans e))).trans (hbw'.out.block r (h2.out.1.lt r hr).2))
  have hro2 : RowO y5 (give f y' y5 (fun _ => 0)) c 129 16 (.slice q es.length cp) es.length (flatN es) := ⟨hrow, fun r hr => (give_old (Nat.lt_of_lt_of_le (h2.out.1.lt r hr).2 hbw'.out.size)).trans (h2.out.2 r hr)⟩
  have o1 : give f y' y5 (fun _ => 0) db = c := (give_old g2).trans h1.out.2
  have o2 : give f y' y5 (fun _ => 0) mb = c := (give_old (Nat.lt_of_lt_of_le lm hbw'.out.size)).trans h3.out.2
  have nf := row_not hrow k1 (by decide)
  have lf5 := heapH_lt k1
  clear hbU hbT hb hUr hUt hUr2 hm2 kc0 kc1 c0 c1 hg5 g1 g2 g3
  have c1 : y5.cell? ⟨db, 1, none⟩ = some (.slice q es.length cp) := by rw [cell_of_row _ _ 1 _ _ _ k1]; rfl
  have f1 : y5.frozen? ⟨db, 1, none⟩ = false := by simp [World.frozen?, k1]
  have kc0 : y5.cell? ⟨w.heap.size, 0, none⟩ = some (.string k0) := by rw [cell_of_row _ _ 0 _ _ _ k2]; rfl
  have kc1 : y5.cell? ⟨w.heap.size, 1, none⟩ = some (.int .i64 kn) := by rw [cell_of_row _ _ 1 _ _ _ k2]; rfl
  obtain ⟨v0, v1, v2, v3, v4, v5, v6, v7, v8, v9, v10, v11, v12⟩ := cells13 k3
  obtain ⟨i0, hi0, hz0, hz1, hz2⟩ := info_parts infoEntry
  have hm1 : es.length + 1 ≤ maxLen ∧ (es.length + 1) * 160 ≤ 140737488355328 := by unfold maxLen; omega
  have l1 : w.heap.size < y5.heap.size := heapH_lt k2
  have l2 : w.heap.size + 1 < y5.heap.size := heapH_lt k3
  replace hm1 := Lib.hid hm1
  replace hrow := Lib.hid hrow
  replace hro2 := Lib.hid hro2
  replace o1 := Lib.hid o1
  replace o2 := Lib.hid o2
  replace nf := Lib.hid nf
  replace nq := Lib.hid nq
  replace k1 := Lib.hid k1
  replace k2 := Lib.hid k2
  replace k3 := Lib.hid k3
  replace T1 := Lib.hid T1
  replace hfin := Lib.hid hfin
  go_wp2_with fail
  refine wp_region_noPanic ?_
  go_region_law (first | (refine step_append_lies _ rfl _ _ _ rfl 0 129 i0 _ 16 160 Tryz.underlying95 hi0 hz0 hz1 hz2 rfl (by omega) (.slice q es.length cp) es.length (flatN es) rfl ((hrow.out.alloc _).drew) ⟨y5.heap.size, 0, none⟩ 1 1 (encN ⟨(k0, kn), p, false⟩) rfl rfl (World.news_of_block (cs := (encN ⟨(k0, kn), p, false⟩).toArray) (t := 129) (fr := (0, 0)) (by exact heap_alloc_new y5 _)) (encN_one _) (by omega) hm1.out.1 hm1.out.2 (by simp) (y5.heap.size + 1) (by simp) ?_; intro gg cap w5 hown5 hg5 hat5 hlt5; obtain ⟨hc5, hf5⟩ := tb_after c1 f1 lf5 nf.out hg5))
  all_goals
    refine NoPanic.normal ?_
    obtain ⟨f', r1, r2, r3⟩ := slow_push (e := ⟨(k0, kn), p, false⟩) hK.out rfl hk.out T1.out ⟨k1.out, o1.out⟩ hro2.out hfin.out o2.out h4.out h5.out h6.out h7.out hli.out (grown_undrew hg5) hat5 hown5
    generalize w5.setCell ⟨db, 1, none⟩ (.slice (some ⟨gg, 0, none⟩) (es.length + 1) cap) = w6 at *
    replace r1 := Lib.hid r1
    replace r2 := Lib.hid r2
    replace r3 := Lib.hid r3
    clear v0 v1 v2 v3 v4 v5 v6 v7 v8 v9 v10 v11 v12 hc5 hf5 hg5 hown5 c1 f1 kc0 kc1
    go_wp2
    go_ret
    exact ⟨rfl, f', _, r1.out, r2.out, r3.out⟩
theorem c_SWput {w : World} {f : Nat → Nat} {c db b : Nat} {es : List EN} (hN : Norm f w) (h : SlowO w f c db b es) (hbb : b ≤ 100000) (tv : Value) (k : KK) (hk : okK k) (p : PV) :
    Calls Tryz.prog 46 #[.pointer (some ⟨db, 0, none⟩), tv, keyV k.1 k.2, propV p] w fun e w' => e = .returned (.bool true) ∧ PutD w f c db b (putL (live es) (pk k) p) w' := by
  cases hi : lidx es (pk k) with
  | none => exact c_SWputN hN h hbb tv k hk p hi
  | some i => exact c_SWputS hN h tv k hk p i hi
end Go.Proofs.YtoccmiinkfhohaaGreat
namespace Go.Proofs.YtoccmiinkfhohaaGreat
open Go.RowKit Go.Shelf Go.Lib Go.Sort Go.Proofs Go.Maps
set_option maxHeartbeats 2000000
set_option maxRecDepth 100000

/-- the keys of those that are not gone -/
def lkeys (l : List EN) : List KK := l.filterMap fun e => if e.gone then none else some e.k
theorem lkeys_snoc (l : List EN) (e : EN) : lkeys (l ++ [e]) = if e.gone then lkeys l else lkeys l ++ [e.k] := by
  unfold lkeys
  cases h : e.gone <;> simp [h]
theorem lkeys_pk (l : List EN) : (lkeys l).map pk = gk (live l) := by
  induction l with
  | nil => rfl
  | cons e l ih =>
    rw [live_cons]
    unfold lkeys gk at *
    cases h : e.gone
    · simpa [h] using ih
    · simpa [h] using ih
theorem lkeys_ok {l : List EN} (h : ∀ e ∈ l, okK e.k) : ∀ x ∈ lkeys l, okK x := fun x hx => by
  obtain ⟨e, he, hm⟩ := List.mem_filterMap.1 hx
  cases hg : e.gone
  · simp [hg] at hm; subst hm; exact h e he
  · simp [hg] at hm
theorem take_get {α : Type} {l : List α} {i : Nat} {x : α} (h : l[i]? = some x) : l.take (i + 1) = l.take i ++ [x] := by rw [List.take_add_one, h]; rfl
theorem lkeys_len (l : List EN) : (lkeys l).length ≤ l.length := List.length_filterMap_le _ _
theorem infoEntryS : (Tryz.prog.info? 129).map (·.size) = some 16 := by kernel_rfl
/-- an entry of nothing -/
def zeroN : Array Value := #[.string ⟨#[]⟩, .int .i64 0, .int .i64 0, .float .f64 0, .string ⟨#[]⟩, .int .i64 0, .int .i64 0, .float .f64 0, .string ⟨#[]⟩, .int .i64 0, .int .i64 0, .float .f64 0, .string ⟨#[]⟩, .int .i64 0, .int .i64 0, .bool false]
theorem zeroN_there (w : World) : (w.alloc (.cells zeroN 129)).there w.heap.size 0 16 := there_of (heap_alloc_new w _) (Nat.le_refl 16)
/-- an entry, whole, in a row -/
theorem rangeE {w : World} {g n cap B : Nat} {es : List EN} (h : w.ownsRow B 129 16 (.slice (some ⟨g, 0, none⟩) n cap) n (flatN es)) {i : Nat} {e : EN} (hi : es[i]? = some e) : w.rangeAt g (i * 16) (encN e) := fun j v hv => by
  have := h.cells (g := g) rfl _ _ (flatN_get hi hv)
  rwa [Addr.add_lit, Nat.zero_add] at this
/-- a block of zeros that has been stored to, whole -/
theorem fresh_set {w : World} {o : Array Value} {t : TypeId} {vs : List Value} (hl : o.size = vs.length) : Below w.heap.size w ((w.alloc (.cells o t)).setCells w.heap.size 0 vs) ∧ ((w.alloc (.cells o t)).setCells w.heap.size 0 vs).heap[w.heap.size]? = some (.cells vs.toArray t (0, 0)) ∧ ((w.alloc (.cells o t)).setCells w.heap.size 0 vs).heap.size = w.heap.size + 1 :=
  ⟨below_setC ((Below.refl _ w).alloc (Nat.le_refl _) _) (Nat.le_refl _) vs 0, heap_setCells_all (heap_alloc_new w _) hl, by rw [(size_setCellsH _ _ _ _).1]; simp⟩
theorem fresh_cells {w : World} (e : EN) : Below w.heap.size w ((w.alloc (.cells zeroN 129)).setCells w.heap.size 0 (encN e)) ∧ ((w.alloc (.cells zeroN 129)).setCells w.heap.size 0 (encN e)).cell? ⟨w.heap.size, 0, none⟩ = some (.string e.k.1) ∧ ((w.alloc (.cells zeroN 129)).setCells w.heap.size 0 (encN e)).cell? ⟨w.heap.size, 1, none⟩ = some (.int .i64 e.k.2) ∧ ((w.alloc (.cells zeroN 129)).setCells w.heap.size 0 (encN e)).cell? ⟨w.heap.size, 15, none⟩ = some (.bool e.gone) := by
  obtain ⟨h1, h2, _⟩ := fresh_set (w := w) (o := zeroN) (t := 129) (vs := encN e) rfl
  generalize (w.alloc (.cells zeroN 129)).setCells w.heap.size 0 (encN e) = W at *
  refine ⟨h1, ?_, ?_, ?_⟩
  · rw [cell_of_row _ _ 0 _ _ _ h2]; rfl
  · rw [cell_of_row _ _ 1 _ _ _ h2]; rfl
  · rw [cell_of_row _ _ 15 _ _ _ h2]; rfl
theorem c_SWkeys {w : World} {f : Nat → Nat} {c db b : Nat} {es : List EN} (h : SlowO w f c db b es) (hbb : b ≤ 100000) (tv : Value) :
    Calls Tryz.prog 119 #[.pointer (some ⟨db, 0, none⟩), tv] w fun e w' => ∃ (v : Value) (l : List KK), e = .returned v ∧ RdK w' v l ∧ l.map pk = gk (live es) ∧ (∀ x ∈ l, okK x) ∧ Below w.heap.size w w' := by
  obtain ⟨mb, n, g, lv, h1, h2, h3, h4, h5, h6, h7⟩ := h
  have hel : es.length ≤ 100000 := by omega
  have c1 : w.cell? ⟨db, 1, none⟩ = some lv := by rw [cell_of_row _ _ 1 _ _ _ h1.1]; rfl
  have hlf : ∃ q cp, lv = .slice q es.length cp := by
    rcases h2.1.2 with ⟨e, h⟩ | ⟨g, cap, cur, e, _⟩
    · rw [h]; exact ⟨_, _, e⟩
    · exact ⟨_, _, e⟩
  obtain ⟨q, cp, rfl⟩ := hlf
  obtain ⟨i0, hi0, hz0, hz1, hz2⟩ := info_parts infoKey
  replace h2 := Lib.hid h2
  replace h5 := Lib.hid h5
  clear h1 h3 h4 h6 h7
  go_enter Tryz.func119, Tryz.ntmps119
  go_wp2
  go_loopw [5, 13] (fun v vi wr => ∃ i : Nat, i ≤ es.length ∧ vi = .int .i64 (i : Int) ∧ wr.ownsRow w.heap.size 31 2 v (lkeys (es.take i)).length (flatK (lkeys (es.take i))) ∧ Below w.heap.size w wr) (fun _ vi _ => es.length - (intOf vi).toNat)
  case atStart => exact ⟨0, by omega, rfl, ⟨rfl, .inl ⟨rfl, rfl⟩⟩, Below.refl _ _⟩
  case round =>
    obtain ⟨i, hi, rfl, hown, hbel⟩ := hrel
    rcases Nat.lt_or_ge i es.length with hlt | hge
    · obtain ⟨g', cap, heq, g1, g2⟩ := h2.out.1.form (by omega)
      injection heq with e1 e2 e3
      subst e1
      subst e3
      clear e2
      obtain ⟨en, hen⟩ : ∃ en, es[i]? = some en := ⟨_, List.getElem?_eq_getElem hlt⟩
      have hrg := range_at (rangeE h2.out.1 hen) (hbel.block g' g2)
      have hi16 : (Tryz.prog.info? 129).map (·.size) = some (encN en).length := infoEntryS
      have hj16 : (Tryz.prog.info? 129).map (·.size) = some (encN en).toArray.size := infoEntryS
      have ho16 := all_oneCell_toArray (encN_one en)
      have q1 : (0 : Int) ≤ (i : Int) := by omega
      have q2 : (i : Int) < (es.length : Int) := by omega
      have hfs := fresh_cells (w := wr) en
      have hth : (wr.alloc (.cells zeroN 129)).there wr.heap.size 0 (encN en).toArray.size := zeroN_there wr
      have htk := lkeys_snoc (es.take i) en
      rw [← take_get hen] at htk
      have hlk := lkeys_len (es.take i)
      have hlt2 : (es.take i).length ≤ i := List.length_take_le _ _
      have hsz := hbel.size
      obtain ⟨⟨k0, kn⟩, p, gn⟩ := en
      dsimp only at *
      generalize encN ⟨(k0, kn), p, gn⟩ = E at *
      replace hfs := Lib.hid hfs
      replace htk := Lib.hid htk
      replace hlk := Lib.hid hlk
      replace hlt2 := Lib.hid hlt2
      replace hown := Lib.hid hown
      replace hbel := Lib.hid hbel
      clear hen
      have tokA : True := trivial
      have tokB : True := trivial
      cases gn with
      | true =>
        have hown2 := Lib.hid (htk.out)
        go_wp2_with (first | (clear tokA; refine wpList_load_mid rfl 129 (.tmp 15) rfl g' (i * 16) rfl E _ hrg Tryz.underlying129 rfl hi16 ?_) | (clear tokB; refine wpList_store_mid rfl 129 (.tmp 7) (.tmp 16) rfl wr.heap.size 0 E.toArray rfl rfl hth hj16 ho16 ?_; obtain ⟨hb4, d0, d1, d2⟩ := hfs.out; generalize hW4 : World.setCells _ _ _ _ = W4; rw [show (wr.alloc (.cells zeroN 129)).setCells wr.heap.size 0 E = W4 from hW4] at hb4 d0 d1 d2; clear hW4 hth hrg; replace hb4 := Lib.hid hb4))
        go_roundw
        case rel =>
          refine ⟨i + 1, by omega, by go_num, ?_, hbel.out.trans (hb4.out.mono hsz)⟩
          rw [htk.out]
          exact own_at hown.out fun r hr => hb4.out.block r (hown.out.lt r hr).2
        case measure => simp [intOf]; omega
      | false =>
        go_wp2_with (first | (clear tokA; refine wpList_load_mid rfl 129 (.tmp 15) rfl g' (i * 16) rfl E _ hrg Tryz.underlying129 rfl hi16 ?_) | (clear tokB; refine wpList_store_mid rfl 129 (.tmp 7) (.tmp 16) rfl wr.heap.size 0 E.toArray rfl rfl hth hj16 ho16 ?_; obtain ⟨hb4, d0, d1, d2⟩ := hfs.out; generalize hW4 : World.setCells _ _ _ _ = W4; rw [show (wr.alloc (.cells zeroN 129)).setCells wr.heap.size 0 E = W4 from hW4] at hb4 d0 d1 d2; clear hW4 hth hrg; have hown4 := own_at hown.out fun r hr => hb4.block r (hown.out.lt r hr).2; have hs4 := Nat.le_trans hsz hb4.size; replace hb4 := Lib.hid hb4) | (at_builtin; refine wpList_append_lies _ (by rfl) _ _ _ (by rfl) w.heap.size 31 i0 _ 2 24 Tryz.underlying56 hi0 hz0 hz1 hz2 rfl (by omega) u5 (lkeys (es.take i)).length (flatK (lkeys (es.take i))) (by rfl) (hown4.alloc _) ⟨_, 0, none⟩ 1 1 [.string k0, .int .i64 kn] (by rfl) (by rfl) (World.news_of_block (cs := #[.string k0, .int .i64 kn]) (t := 31) (fr := (0, 0)) (by exact heap_alloc_new _ _)) (by simp [Value.oneCell']) (by omega) (by have := hlk.out; have := hlt2.out; have := hel; unfold maxLen; omega) (by have := hlk.out; have := hlt2.out; have := hel; omega) (by simp; omega) _ rfl ?_; intro gg cap w5 hown5 hgrow hat hlt5; have hbel5 := Lib.hid (((hbel.out.trans (hb4.out.mono hsz)).alloc hs4 _).grown hgrow (by simp; omega) (own_base hown.out)); clear hgrow hat hlt5))
        go_roundw
        case rel =>
          refine ⟨i + 1, by omega, by go_num, ?_, hbel5.out⟩
          rw [htk.out]
          simpa [flatK_app, flatK, encK] using hown5
        case measure => simp [intOf]; omega
    · obtain rfl : i = es.length := by omega
      rw [List.take_length] at hown
      replace hown := Lib.hid hown
      replace hbel := Lib.hid hbel
      go_wp2
      go_ret
      exact ⟨_, lkeys es, rfl, own_rdk hown.out, lkeys_pk es, lkeys_ok h5.out, hbel.out⟩
end Go.Proofs.YtoccmiinkfhohaaGreat
namespace Go.Proofs.YtoccmiinkfhohaaGreat
open Go.RowKit Go.Shelf Go.Lib Go.Sort Go.Proofs Go.Maps
set_option maxHeartbeats 2000000
set_option maxRecDepth 100000

/-- a look-up of a key that is there, without a second answer -/
theorem look_K1 {w : World} {f : Nat → Nat} {c b n : Nat} {g : Lit → Option Int} (h : MapO w f c 31 b n g) (x : KK) (hx : okK x) (i : Int) (hi : g (klK x) = some i) :
    ∀ y : World, y.heap[b]? = w.heap[b]? → (Instr.lookup 94 (.map (some b)) (keyV x.1 x.2) false).run Tryz.prog y = .ok (.int .i64 i) y := by
  obtain ⟨⟨D, ⟨es, cl, h1, h2⟩, h3, h4⟩, h5⟩ := h
  intro y hy
  have hm : y.ownsMap Tryz.prog 31 (plainElem (H := Unit) Tryz.prog 3) b (Maps.size D) D := ⟨es, cl, hy.trans h1, h2⟩
  obtain ⟨c, hr, hat, _⟩ := hm.lookup_int lawKey Tryz.underlying94 Tryz.underlying3 (zeroIntH y) (keyOf_K x hx)
  have := (h3 (klK x)).2 i hi
  rw [hat] at this
  injection this with this
  injection this with _ this
  rw [hr, this]
/-- the map as it was, or with a key deleted -/
def MapV (y : World) (k : TypeId) (b n : Nat) (g : Lit → Option Int) (kl : Lit) : Prop :=
  MapG y k b n g ∨ ∃ g', MapG y k b n g' ∧ g' kl = none ∧ ∀ l, l ≠ kl → g' l = g l
theorem step_del {ops : Array Oper} {o : Oper} {a : Act} {w : World} {K : Act → World → Prop} {Q : Exit → Act → World → Prop} {E : Prop} (hg : o.guard = none) (m x : Operand) (t k : TypeId) (hop : o.op = Op.call { callee := Callee.builtin Builtin.delete, args := #[m, x], argTypes := #[t, k] })
    (Kd : Keyed Tryz.prog k) (ht : Tryz.prog.underlying t = some (.map k 3)) (b n : Nat) (g : Lit → Option Int) (hm : a.eval m = .map (some b)) (key : Value) (kl : Lit) (hx : a.eval x = key) (hkey : keyOf Tryz.prog k key = some kl) (hV : MapV w k b n g kl)
    (hK : ∀ w', (∃ g', MapG w' k b n g' ∧ g' kl = none ∧ ∀ l, l ≠ kl → g' l = g l) → w.mapTurned w' b → K (a.put o.dst (.tuple #[])) w') :
    if Region.wanted o (yielded ops a.tmps) = true then Oper.wp Tryz.prog o a w K Q else E := by
  have hw : Region.wanted o (yielded ops a.tmps) = true := by simp [Region.wanted, hg]
  rw [if_pos hw]
  have go : ∀ g0, MapG w k b n g0 → (∀ l, l ≠ kl → g0 l = g l) → Oper.wp Tryz.prog o a w K Q := by
    rintro g0 ⟨D, h1, h2, h3⟩ hg0
    obtain ⟨w', hrun, r1, r2⟩ := h1.drop Kd ht hkey o.type
    obtain ⟨g', q1, q2, q3⟩ := tellsL_del h2 kl
    have r1' := r1
    obtain ⟨es, cl, a1, a2, a3, a4⟩ := r1
    have hsz : Maps.size (D.del kl) ≤ Maps.size D := by
      have e1 : Maps.size (D.del kl) = es.size := by rw [a4]; simp [Maps.size, length_sorted]
      rw [e1]; exact a3
    unfold Oper.wp
    simp [execOp, hop, resolve, invoke, builtin, hm, hx, hrun, Result.andThen]
    refine hK w' ⟨g', ⟨_, ⟨es, cl, a1, a2, ?_, a4⟩, q1, Nat.le_trans hsz h3⟩, q2, fun l hl => (q3 l hl).trans (hg0 l hl)⟩ r2
    rw [a4]; simp [Maps.size, length_sorted]
  rcases hV with h | ⟨g0, h, _, h2⟩
  · exact go g h (fun _ _ => rfl)
  · exact go g0 h h2
/-- S of a region in which a key is deleted -/
theorem butV_start {W : World} {k : TypeId} {b n : Nat} {g : Lit → Option Int} {kl : Lit} (h : MapG W k b n g) :
    ((∀ a : Addr, a.block < W.heap.size → a.block ≠ b → W.drew.cell? a = W.cell? a) ∧ W.grownBy W.drew (some b)) ∧ MapV W.drew k b n g kl ∧ b < W.heap.size := ⟨but_drew W b, .inl (h.at rfl), h.lt⟩
theorem MapV.at {w w' : World} {k : TypeId} {b n : Nat} {g : Lit → Option Int} {kl : Lit} (h : MapV w k b n g kl) (hb : w'.heap[b]? = w.heap[b]?) : MapV w' k b n g kl := by
  rcases h with h | ⟨g', h, r⟩
  · exact .inl (h.at hb)
  · exact .inr ⟨g', h.at hb, r⟩
theorem MapV.lt {w : World} {k : TypeId} {b n : Nat} {g : Lit → Option Int} {kl : Lit} (h : MapV w k b n g kl) : b < w.heap.size := by
  rcases h with h | ⟨g', h, r⟩
  · exact h.lt
  · exact h.lt
theorem butV_below {W y y' : World} {k : TypeId} {b n : Nat} {g : Lit → Option Int} {kl : Lit} (h : ((∀ a : Addr, a.block < W.heap.size → a.block ≠ b → y.cell? a = W.cell? a) ∧ W.grownBy y (some b)) ∧ MapV y k b n g kl ∧ b < W.heap.size) (hb : Below y.heap.size y y') :
    ((∀ a : Addr, a.block < W.heap.size → a.block ≠ b → y'.cell? a = W.cell? a) ∧ W.grownBy y' (some b)) ∧ MapV y' k b n g kl ∧ b < W.heap.size := ⟨but_below h.1 hb, h.2.1.at (hb.block b h.2.1.lt), h.2.2⟩
theorem butV_turn {W y y' : World} {k : TypeId} {b n : Nat} {g : Lit → Option Int} {kl : Lit} (h : ((∀ a : Addr, a.block < W.heap.size → a.block ≠ b → y.cell? a = W.cell? a) ∧ W.grownBy y (some b)) ∧ MapV y k b n g kl ∧ b < W.heap.size)
    (hU : ∃ g', MapG y' k b n g' ∧ g' kl = none ∧ ∀ l, l ≠ kl → g' l = g l) (ht : y.mapTurned y' b) :
    ((∀ a : Addr, a.block < W.heap.size → a.block ≠ b → y'.cell? a = W.cell? a) ∧ W.grownBy y' (some b)) ∧ MapV y' k b n g kl ∧ b < W.heap.size := ⟨but_turned h.1 ht, .inr hU, h.2.2⟩
/-- a store at a key that is there -/
def MapX (y : World) (k : TypeId) (b n : Nat) (g : Lit → Option Int) (kl : Lit) (v : Int) : Prop :=
  MapG y k b n g ∨ ∃ g', MapG y k b n g' ∧ g' kl = some v ∧ ∀ l, l ≠ kl → g' l = g l
theorem store_X {k t : TypeId} (K : Keyed Tryz.prog k) (ht : Tryz.prog.underlying t = some (.map k 3)) {b n : Nat} {g : Lit → Option Int} {key : Value} {kl : Lit} (hkey : keyOf Tryz.prog k key = some kl) (hl : WideAt.IsKeyLit kl) {v : Int} (hv : (Lit.int .i64 v).wf = true) (hn : n < maxLen) (hin : (g kl).isSome = true) :
    ∃ U : World → World, ∀ y, MapX y k b n g kl v → (Instr.mapUpdate t (.map (some b)) key (.int .i64 v)).run Tryz.prog y = .ok () (U y) ∧ (∃ g', MapG (U y) k b n g' ∧ g' kl = some v ∧ ∀ l, l ≠ kl → g' l = g l) ∧ y.mapTurned (U y) b := by
  have key : ∀ y : World, ∃ y' : World, MapX y k b n g kl v → (Instr.mapUpdate t (.map (some b)) key (.int .i64 v)).run Tryz.prog y = .ok () y' ∧ (∃ g', MapG y' k b n g' ∧ g' kl = some v ∧ ∀ l, l ≠ kl → g' l = g l) ∧ y.mapTurned y' b := by
    intro y
    by_cases hU : MapX y k b n g kl v
    · have go : ∀ (g0 : Lit → Option Int), MapG y k b n g0 → (g0 kl).isSome = true → (∀ l, l ≠ kl → g0 l = g l) → ∃ y' : World, (Instr.mapUpdate t (.map (some b)) key (.int .i64 v)).run Tryz.prog y = .ok () y' ∧ (∃ g', MapG y' k b n g' ∧ g' kl = some v ∧ ∀ l, l ≠ kl → g' l = g l) ∧ y.mapTurned y' b := by
        intro g0 hG hsm hg0
        obtain ⟨D, h1, h2, h3⟩ := hG
        have hval : plainElem (H := Unit) Tryz.prog 3 (.int .i64 v) = some (.lit (.int .i64 v), []) := plainElem_int Tryz.underlying3 hv
        obtain ⟨y', r1, r2, r3⟩ := h1.store K ht (Nat.lt_of_le_of_lt h3 hn) hkey hval
        obtain ⟨g', q1, q2, q3⟩ := tellsL_put h1.isMap h2 kl hl v
        have hs := size_put (k := kl) (h1.tidy K) (.lit (.int .i64 v))
        rw [(h2 kl).1, hsm] at hs
        refine ⟨y', r1, ⟨g', ⟨_, ?_, q1, ?_⟩, q2, fun l hl' => (q3 l hl').trans (hg0 l hl')⟩, r3⟩
        · obtain ⟨es, cl, a1, a2, a3, a4⟩ := r2
          refine ⟨es, cl, a1, a2, ?_, a4⟩
          rw [a4]
          simp [Maps.size, length_sorted]
        · simp at hs; omega
      rcases hU with hU | ⟨g1, hU, hk1, hk2⟩
      · obtain ⟨y', h⟩ := go g hU hin (fun _ _ => rfl)
        exact ⟨y', fun _ => h⟩
      · obtain ⟨y', h⟩ := go g1 hU (by rw [hk1]; rfl) hk2
        exact ⟨y', fun _ => h⟩
    · exact ⟨y, fun h => absurd h hU⟩
  obtain ⟨U, hU⟩ := Classical.axiomOfChoice key
  exact ⟨U, hU⟩
theorem MapX.at {w w' : World} {k : TypeId} {b n : Nat} {g : Lit → Option Int} {kl : Lit} {v : Int} (h : MapX w k b n g kl v) (hb : w'.heap[b]? = w.heap[b]?) : MapX w' k b n g kl v := by
  rcases h with h | ⟨g', h, r⟩
  · exact .inl (h.at hb)
  · exact .inr ⟨g', h.at hb, r⟩
theorem MapX.lt {w : World} {k : TypeId} {b n : Nat} {g : Lit → Option Int} {kl : Lit} {v : Int} (h : MapX w k b n g kl v) : b < w.heap.size := by
  rcases h with h | ⟨g', h, r⟩
  · exact h.lt
  · exact h.lt
theorem butX_start {W : World} {k : TypeId} {b n : Nat} {g : Lit → Option Int} {kl : Lit} {v : Int} (h : MapG W k b n g) :
    ((∀ a : Addr, a.block < W.heap.size → a.block ≠ b → W.drew.cell? a = W.cell? a) ∧ W.grownBy W.drew (some b)) ∧ MapX W.drew k b n g kl v ∧ b < W.heap.size := ⟨but_drew W b, .inl (h.at rfl), h.lt⟩
theorem butX_below {W y y' : World} {k : TypeId} {b n : Nat} {g : Lit → Option Int} {kl : Lit} {v : Int} (h : ((∀ a : Addr, a.block < W.heap.size → a.block ≠ b → y.cell? a = W.cell? a) ∧ W.grownBy y (some b)) ∧ MapX y k b n g kl v ∧ b < W.heap.size) (hb : Below y.heap.size y y') :
    ((∀ a : Addr, a.block < W.heap.size → a.block ≠ b → y'.cell? a = W.cell? a) ∧ W.grownBy y' (some b)) ∧ MapX y' k b n g kl v ∧ b < W.heap.size := ⟨but_below h.1 hb, h.2.1.at (hb.block b h.2.1.lt), h.2.2⟩
theorem butX_turn {W y y' : World} {k : TypeId} {b n : Nat} {g : Lit → Option Int} {kl : Lit} {v : Int} (h : ((∀ a : Addr, a.block < W.heap.size → a.block ≠ b → y.cell? a = W.cell? a) ∧ W.grownBy y (some b)) ∧ MapX y k b n g kl v ∧ b < W.heap.size)
    (hU : (∃ g', MapG y' k b n g' ∧ g' kl = some v ∧ ∀ l, l ≠ kl → g' l = g l) ∧ y.mapTurned y' b) :
    ((∀ a : Addr, a.block < W.heap.size → a.block ≠ b → y'.cell? a = W.cell? a) ∧ W.grownBy y' (some b)) ∧ MapX y' k b n g kl v ∧ b < W.heap.size := ⟨but_turned h.1 hU.2, .inr hU.1, h.2.2⟩
/-- those that are not gone -/
def alive (l : List EN) : List EN := l.filter fun e => !e.gone
theorem alive_snoc (l : List EN) (e : EN) : alive (l ++ [e]) = if e.gone then alive l else alive l ++ [e] := by
  unfold alive
  cases h : e.gone <;> simp [h]
theorem live_alive (l : List EN) : live (alive l) = live l := by
  induction l with
  | nil => rfl
  | cons e l ih =>
    unfold alive at *
    cases h : e.gone
    · simp only [List.filter_cons, h]; simp [live_cons, h, ih]
    · simp only [List.filter_cons, h]; simp [live_cons, h, ih]
theorem lidx_alive (l : List EN) (x : KK) : lidx (alive l) x = idx (gk (live l)) x := by
  induction l with
  | nil => rfl
  | cons e l ih =>
    unfold alive at *
    rw [live_cons]
    cases h : e.gone
    · simp only [List.filter_cons, h]
      by_cases hx : pk e.k = x <;> simp [lidx, gk, idx, h, hx]
      simpa [gk] using congrArg (Option.map (· + 1)) ih
    · simp only [List.filter_cons, h]
      simpa using ih
theorem alive_len (l : List EN) : (alive l).length ≤ l.length := List.length_filter_le _ _
theorem flatN_drop {es : List EN} {i : Nat} {e : EN} (hi : es[i]? = some e) : (flatN es).set (i * 16 + 15) (.bool true) = flatN (es.set i { e with gone := true }) := by
  have h := setL_mid (enc := encN) (k := 16) (fun _ => rfl) (a := [.string e.k.1, .int .i64 e.k.2] ++ encP e.p) (x := [.bool e.gone]) (x' := [.bool true]) (e' := { e with gone := true }) hi ⟨[], rfl, rfl⟩ rfl
  exact h
/-- len of a map -/
theorem len_of {k t : TypeId} {w : World} {b n : Nat} {g : Lit → Option Int} (h : MapG w k b n g) (ht : Tryz.prog.underlying t = some (.map k 3)) : ∃ sz : Nat, sz ≤ n ∧ ∀ y : World, y.heap[b]? = w.heap[b]? → (Builtin.len_ #[t] 3 #[.map (some b)]).run Tryz.prog y = .ok (.int .i64 (sz : Int)) y := by
  obtain ⟨D, ⟨es, cl, h1, h2⟩, h3, h4⟩ := h
  refine ⟨Maps.size D, h4, fun y hy => ?_⟩
  have hm : y.ownsMap Tryz.prog k (plainElem (H := Unit) Tryz.prog 3) b (Maps.size D) D := ⟨es, cl, hy.trans h1, h2⟩
  exact hm.len ht 3
theorem onto_blk {W y : World} (h : (∀ a : Addr, a.block < W.heap.size → y.cell? a = W.cell? a) ∧ (∀ b : Nat, b < W.heap.size → y.heap[b]? = W.heap[b]?) ∧ Below W.heap.size W y) (b : Nat) (hb : b < W.heap.size) : y.heap[b]? = W.heap[b]? := h.2.1 b hb
theorem set_gone_mem {es : List EN} {i : Nat} {e : EN} (hi : es[i]? = some e) (h : ∀ e ∈ es, okK e.k) : ∀ x ∈ es.set i { e with gone := true }, okK x.k := mem_set_k (e' := { e with gone := true }) hi rfl h
theorem slow_gone {w y w4 : World} {f : Nat → Nat} {c db b g cap mb n i j : Nat} {gm : Lit → Option Int} {es : List EN} {e : EN} {K : KK}
    (hTw : Turn (fun x => x = c) f f w y) (h1 : y.heap[db]? = some (.cells #[.map (some mb), .slice (some ⟨g, 0, none⟩) es.length cap] 97 (0, 0)) ∧ f db = c) (h2 : RowO y f c 129 16 (.slice (some ⟨g, 0, none⟩) es.length cap) es.length (flatN es))
    (h3 : f mb = c) (lm : mb < y.heap.size) (nm : mb ≠ g) (ndm : db ≠ mb) (h4 : n ≤ b ∧ es.length ≤ b) (h5 : ∀ e ∈ es, okK e.k) (h6 : (gk (live es)).Nodup) (h7 : ∀ x, okK x → gm (klK x) = (lidx es x).map Int.ofNat) (hi : es[i]? = some e) (hg0 : e.gone = false) (hK : pk e.k = K) (hl : live (es.set i { e with gone := true }) = (live es).eraseIdx j)
    (hg : (y.setCell ⟨g, i * 16 + 15, none⟩ (.bool true)).grownBy w4 (some mb)) (hm : ∃ gd, MapG w4 31 mb n gd ∧ gd (klK K) = none ∧ ∀ l, l ≠ klK K → gd l = gm l) :
    ∃ f', Turn (fun x => x = c) f f' w w4 ∧ SlowO w4 f' c db b (es.set i { e with gone := true }) := by
  have ng : db ≠ g := fun e => row_not h2.1 h1.1 (by decide) (congrArg some e.symm)
  have lf := heapH_lt h1.1
  have lg := (h2.1.lt g rfl).2
  have sz : (y.setCell ⟨g, i * 16 + 15, none⟩ (.bool true)).heap.size = y.heap.size := by simp [World.setCell]
  have t1 : Turn (fun x => x = c) f f y (y.setCell ⟨g, i * 16 + 15, none⟩ (.bool true)) := (Turn.refl _ hTw.norm).set g _ _ (h2.2 g rfl)
  have t2 := t1.grown (fun _ => 0) hg (fun r hr => by obtain rfl := Option.some.inj hr; exact h3)
  have hlen : (es.set i { e with gone := true }).length = es.length := by simp
  obtain ⟨gd, m1, m2, m3⟩ := hm
  refine ⟨_, hTw.trans t2, mb, n, gd, .slice (some ⟨g, 0, none⟩) es.length cap, ⟨?_, ?_⟩, ⟨?_, ?_⟩, ⟨m1, ?_⟩, by rw [hlen]; exact h4, set_gone_mem hi h5, ?_, fun x hx => ?_⟩
  · rw [hg.block db (by rw [sz]; exact lf) (fun e => ndm (Option.some.inj e)), Below.heap_setCell _ _ _ _ ng]; exact h1.1
  · rw [give_old (by rw [sz]; exact lf)]; exact h1.2
  · rw [hlen, ← flatN_drop hi]
    exact own_at (row_set h2.1 (i * 16 + 15) (.bool true)) fun r hr => by
      obtain rfl := Option.some.inj hr
      exact hg.block _ (by rw [sz]; exact lg) (fun e => nm (Option.some.inj e).symm)
  · intro r hr
    obtain rfl := Option.some.inj hr
    rw [give_old (by rw [sz]; exact lg)]; exact h2.2 _ rfl
  · rw [give_old (by rw [sz]; exact lm)]; exact h3
  · rw [hl]
    exact h6.sublist ((List.eraseIdx_sublist _ _).map _)
  · rw [lidx_drop hi hg0 h6, hK]
    have hok := h5 e (List.mem_of_getElem? hi)
    by_cases e1 : K = x
    · subst e1; rw [m2]; simp
    · rw [m3 _ (fun h => e1 (klK_inj (by rw [← hK]; exact pk_ok hok) hx h.symm)), h7 x hx]
      simp [e1]
end Go.Proofs.YtoccmiinkfhohaaGreat
namespace Go.Proofs.YtoccmiinkfhohaaGreat
open Go.RowKit Go.Shelf Go.Lib Go.Sort Go.Proofs Go.Maps
set_option maxHeartbeats 2000000
set_option maxRecDepth 100000

theorem fold_set (vs : List Value) : ∀ (pre cs : List Value), cs.length = vs.length → List.foldl (fun (cs : Array Value) (x : Value × Nat) => cs.setIfInBounds x.snd x.fst) (pre ++ cs).toArray (vs.zipIdx pre.length) = (pre ++ vs).toArray := by
  induction vs with
  | nil => intro pre cs h; simp at h; simp [h]
  | cons v vs ih =>
    intro pre cs h
    cases cs with
    | nil => simp at h
    | cons c cs =>
      have h2 := ih (pre ++ [v]) cs (by simpa using h)
      rw [List.zipIdx_cons, List.foldl_cons]
      have e1 : ((pre ++ c :: cs).toArray).setIfInBounds pre.length v = (pre ++ [v] ++ cs).toArray := by
        apply Array.toList_inj.1
        rw [Array.toList_setIfInBounds]
        simp [List.set_append_right]
      dsimp only
      rw [e1]
      have e2 : (pre ++ [v]).length = pre.length + 1 := by simp
      rw [e2] at h2
      rw [h2]
      simp
theorem fold_encN (e : EN) : List.foldl (fun (cs : Array Value) (x : Value × Nat) => cs.setIfInBounds x.snd x.fst) #[.string ⟨#[]⟩, .int .i64 0, .int .i64 0, .float .f64 0, .string ⟨#[]⟩, .int .i64 0, .int .i64 0, .float .f64 0, .string ⟨#[]⟩, .int .i64 0, .int .i64 0, .float .f64 0, .string ⟨#[]⟩, .int .i64 0, .int .i64 0, .bool false] (encN e).zipIdx = (encN e).toArray :=
  fold_set (encN e) [] _ rfl
theorem own_slice {w : World} {B e size n : Nat} {v : Value} {xs : List Value} (h : w.ownsRow B e size v n xs) : ∃ p c, v = .slice p n c := by
  rcases h.2 with ⟨e, h⟩ | ⟨g, cap, cur, e, _⟩
  · rw [h]; exact ⟨_, _, e⟩
  · exact ⟨_, _, e⟩
/-- where a key stands while the list is made anew -/
def mixI (es : List EN) (i : Nat) (x : KK) : Option Nat := match idx (gk (live (es.take i))) x with | some j => some j | none => lidx es x
def DropI (w4 : World) (mb n : Nat) (es : List EN) (i : Nat) (v : Value) (wr : World) : Prop :=
  (wr.ownsRow w4.heap.size 129 16 v (alive (es.take i)).length (flatN (alive (es.take i))) ∧ w4.grownBy wr (some mb)) ∧ ∃ gi, MapG wr 31 mb n gi ∧ ∀ x, okK x → gi (klK x) = (mixI es i x).map Int.ofNat
theorem DropI.start {w4 : World} {mb n : Nat} {es : List EN} {g : Lit → Option Int} (hm : MapG w4 31 mb n g) (hg : ∀ x, okK x → g (klK x) = (lidx es x).map Int.ofNat) : DropI w4 mb n es 0 (.slice none 0 0) w4.drew :=
  ⟨⟨⟨rfl, .inl ⟨rfl, rfl⟩⟩, ⟨rfl, rfl, rfl, Nat.le_refl _, fun _ _ _ => rfl⟩⟩, g, hm.at rfl, fun x hx => by rw [hg x hx]; rfl⟩
theorem mixI_gone {es : List EN} {i : Nat} {e : EN} (hi : es[i]? = some e) (hg : e.gone = true) (x : KK) : mixI es (i + 1) x = mixI es i x := by
  unfold mixI
  rw [take_get hi, live_app]
  have : live [e] = [] := by simp [live, hg]
  rw [this, List.append_nil]
theorem lidx_has {es : List EN} : ∀ {i : Nat} {e : EN}, es[i]? = some e → e.gone = false → (lidx es (pk e.k)).isSome = true := by
  induction es with
  | nil => intro i e h; simp at h
  | cons a l ih =>
    intro i e h hg
    by_cases ha : a.gone = false ∧ pk a.k = pk e.k
    · simp [lidx, ha]
    · cases i with
      | zero => simp at h; subst h; exact absurd ⟨hg, rfl⟩ ha
      | succ i =>
        simp only [lidx, ha, if_false, Option.isSome_map]
        exact ih (by simpa using h) hg
theorem gk_live_len (l : List EN) : (gk (live l)).length = (alive l).length := by
  rw [← live_alive]
  have : ∀ l : List EN, (∀ e ∈ l, e.gone = false) → (gk (live l)).length = l.length := by
    intro l
    induction l with
    | nil => intro _; rfl
    | cons e l ih =>
      intro h
      rw [live_cons]
      have h1 := h e (by simp)
      have h2 := ih fun x hx => h x (by simp [hx])
      simp [gk, h1] at h2 ⊢
      exact h2
  refine this _ fun e he => ?_
  have := (List.mem_filter.1 he).2
  simpa using this
theorem mixI_live {es : List EN} {i : Nat} {e : EN} (hi : es[i]? = some e) (hg : e.gone = false) (hn : (gk (live es)).Nodup) (x : KK) : mixI es (i + 1) x = if pk e.k = x then some (alive (es.take i)).length else mixI es i x := by
  unfold mixI
  have e1 : live [e] = [(pk e.k, e.p)] := by simp [live, hg]
  have e2 : gk (live (es.take i) ++ live [e]) = gk (live (es.take i)) ++ [pk e.k] := by rw [e1]; simp [gk]
  rw [take_get hi, live_app, e2, idx_snoc]
  have hnot : idx (gk (live (es.take i))) (pk e.k) = none := by
    rw [idx_none]
    intro hm
    have e3 : gk (live es) = gk (live (es.take i)) ++ gk (live (es.drop i)) := by
      unfold gk; rw [← List.map_append, ← live_app, List.take_append_drop]
    rw [e3, List.nodup_append] at hn
    have hd : pk e.k ∈ gk (live (es.drop i)) := by
      have h0 : (es.drop i)[0]? = some e := by simpa using hi
      unfold gk live
      exact List.mem_map.2 ⟨(pk e.k, e.p), List.mem_filterMap.2 ⟨e, List.mem_of_getElem? h0, by simp [hg]⟩, rfl⟩
    exact hn.2.2 _ hm _ hd rfl
  by_cases hx : pk e.k = x
  · subst hx
    rw [hnot]
    simp [gk_live_len]
  · cases idx (gk (live (es.take i))) x <;> simp [hx]
theorem DropI.skip {w4 wr y : World} {mb n : Nat} {es : List EN} {i : Nat} {v : Value} {e : EN} (h : DropI w4 mb n es i v wr) (hi : es[i]? = some e) (hg : e.gone = true) (hb : Below wr.heap.size wr y) : DropI w4 mb n es (i + 1) v y := by
  obtain ⟨⟨h1, h2⟩, gi, h3, h4⟩ := h
  have ha : alive (es.take (i + 1)) = alive (es.take i) := by rw [take_get hi, alive_snoc, if_pos hg]
  refine ⟨⟨?_, ⟨hb.os.trans h2.os, hb.tape.trans h2.tape, hb.output.trans h2.output, Nat.le_trans h2.size hb.size, fun r hr hne => (hb.block r (Nat.lt_of_lt_of_le hr h2.size)).trans (h2.block r hr hne)⟩⟩, gi, h3.at (hb.block mb h3.lt), fun x hx => by rw [h4 x hx, mixI_gone hi hg]⟩
  rw [ha]
  exact own_at h1 fun r hr => hb.block r (h1.lt r hr).2
theorem DropI.step {w4 wr W4 y w5 : World} {mb n : Nat} {es : List EN} {i : Nat} {v v' : Value} {e : EN} {gi : Lit → Option Int} {o : Obj} (h1 : wr.ownsRow w4.heap.size 129 16 v (alive (es.take i)).length (flatN (alive (es.take i)))) (h2 : w4.grownBy wr (some mb)) (h4 : ∀ x, okK x → gi (klK x) = (mixI es i x).map Int.ofNat)
    (hi : es[i]? = some e) (hg : e.gone = false) (hn : (gk (live es)).Nodup) (hok : okK e.k) (hlm : mb < w4.heap.size) (hb : Below wr.heap.size wr W4) (hgr : W4.grownBy y (some mb)) (hm : ∃ g', MapG y 31 mb n g' ∧ g' (klK (pk e.k)) = some ((alive (es.take i)).length : Int) ∧ ∀ l, l ≠ klK (pk e.k) → g' l = gi l)
    (hg5 : (y.alloc o).grownBy w5 v.ownBlock) (hown : w5.ownsRow w4.heap.size 129 16 v' ((alive (es.take i)).length + 1) (flatN (alive (es.take i)) ++ encN e)) : DropI w4 mb n es (i + 1) v' w5 := by
  have ha : alive (es.take (i + 1)) = alive (es.take i) ++ [e] := by rw [take_get hi, alive_snoc, if_neg (by simp [hg])]
  obtain ⟨g', m1, m2, m3⟩ := hm
  have sz : (y.alloc o).heap.size = y.heap.size + 1 := by simp
  have s1 := h2.size
  have s2 := hb.size
  have s3 := hgr.size
  have s5 := hg5.size
  refine ⟨⟨?_, ⟨?_, ?_, ?_, by omega, fun r hr hne => ?_⟩⟩, g', m1.at ?_, fun x hx => ?_⟩
  · rw [ha]
    simpa [flatN] using hown
  · exact hg5.os.trans (hgr.os.trans (hb.os.trans h2.os))
  · exact hg5.tape.trans (hgr.tape.trans (hb.tape.trans h2.tape))
  · exact hg5.output.trans (hgr.output.trans (hb.output.trans h2.output))
  · rw [hg5.block r (by omega) (fun e => by have := (h1.lt r e.symm).1; omega), Below.heap_alloc _ _ _ (by omega), hgr.block r (by omega) hne, hb.block r (by omega)]
    exact h2.block r hr hne
  · rw [hg5.block mb (by omega) (fun e => by have := (h1.lt mb e.symm).1; omega), Below.heap_alloc _ _ _ (by omega)]
  · rw [mixI_live hi hg hn]
    by_cases hx2 : pk e.k = x
    · subst hx2; rw [m2]; simp
    · rw [m3 _ (fun h => hx2 (klK_inj (pk_ok hok) hx h.symm)), h4 x hx]
      simp [hx2]
theorem DropI.done {w4 wr : World} {f : Nat → Nat} {c db b mb n : Nat} {g : Lit → Option Int} {lv v : Value} {es : List EN} (hN : Norm f w4) (h1 : w4.heap[db]? = some (.cells #[.map (some mb), lv] 97 (0, 0)) ∧ f db = c) (h3 : MapO w4 f c 31 mb n g) (h4 : n ≤ b ∧ es.length ≤ b)
    (h5 : ∀ e ∈ es, okK e.k) (h6 : (gk (live es)).Nodup) (h : DropI w4 mb n es es.length v wr) : ∃ f', Turn (fun x => x = c) f f' w4 (wr.setCell ⟨db, 1, none⟩ v) ∧ SlowO (wr.setCell ⟨db, 1, none⟩ v) f' c db b (alive es) := by
  obtain ⟨⟨q1, q2⟩, gi, q3, q4⟩ := h
  rw [List.take_length] at q1
  have lf := heapH_lt h1.1
  have lm := h3.lt
  have ndm : db ≠ mb := fun e => by
    obtain ⟨D, ⟨es', cl, hm, _⟩, _⟩ := h3.1
    rw [← e, h1.1] at hm
    cases hm
  have t1 := (Turn.refl (fun x => x = c) hN).grown (fun _ => c) q2 (fun r hr => by obtain rfl := Option.some.inj hr; exact h3.2)
  have t2 := t1.set db 1 v (by rw [give_old lf]; exact h1.2)
  have e5 : wr.heap[db]? = some (.cells #[.map (some mb), lv] 97 (0, 0)) := (q2.block db lf (fun e => ndm (Option.some.inj e))).trans h1.1
  have hal := alive_len es
  refine ⟨_, t2, mb, n, gi, v, ⟨?_, ?_⟩, ⟨?_, ?_⟩, ⟨q3.at ?_, ?_⟩, ⟨h4.1, by omega⟩, fun e he => h5 e (List.mem_filter.1 he).1, by rw [live_alive]; exact h6, fun x hx => ?_⟩
  · rw [heap_setCell_same wr db 1 _ _ _ e5]; rfl
  · rw [give_old lf]; exact h1.2
  · have hr0 : wr.ownsRow 0 129 16 v (alive es).length (flatN (alive es)) := by
      refine ⟨q1.1, ?_⟩
      rcases q1.2 with h | ⟨g, cap, cur, e, _, r⟩
      · exact .inl h
      · exact .inr ⟨g, cap, cur, e, Nat.zero_le _, r⟩
    exact own_at hr0 fun r hr => Below.heap_setCell _ _ _ _ (fun e => by have := (q1.lt r hr).1; have : r = db := e; omega)
  · intro r hr
    have := q1.lt r hr
    rw [give_new this.1 this.2]
  · exact Below.heap_setCell _ _ _ _ ndm.symm
  · rw [give_old lm]; exact h3.2
  · rw [q4 x hx, lidx_alive]
    unfold mixI
    rw [List.take_length]
    cases hq : idx (gk (live es)) x with
    | some j => rfl
    | none => dsimp only; rw [lidx_none.2 hq]
end Go.Proofs.YtoccmiinkfhohaaGreat

/-
  Contracts: How a fast object takes a property. How a fast object takes a property that it has. A fast object, together; a dictionary: its entries, its map, and the list that it tells. What a dictionary tells of a key. How a dictionary takes a property that it has. How a dictionary takes a property that it has: the walk. How a dictionary takes a property that it has not. How a dictionary takes a property that it has not: the walk. The keys that a dictionary tells.
-/
import Derived.Test.YtkbohoolnpaleaaGreatDoorW10
namespace Go.Proofs.YtkbohoolnpaleaaGreatDoor
open Go.RowKit Go.Shelf Go.Lib Go.Sort Go.Proofs Go.Maps
set_option maxHeartbeats 2000000
set_option maxRecDepth 100000

/-- what a fast object makes of a property -/
def PutF (w : World) (f : Nat → Nat) (tb c fb : Nat) (L : List (List KK)) (ks : List KK) (ps : List PV) (K : KK) (p : PV) (b : Bool) (w' : World) : Prop :=
  ∃ (f' : Nat → Nat) (L' : List (List KK)) (ks' : List KK) (ps' : List PV), (Turn (CP c) f f' w w' ∧ TreeO w' f' tb L' ∧ LePre L L') ∧ FastO w' f' c fb L' ks' ps' ∧
    (b = false → ks' = ks ∧ ps' = ps ∧ idx ks K = none ∧ 128 ≤ ks.length) ∧
    (b = true → (∃ i, idx ks K = some i ∧ ks' = ks ∧ ps' = ps.set i p) ∨ (idx ks K = none ∧ ks.length < 128 ∧ ks' = ks ++ [K] ∧ ps' = ps ++ [p]))
theorem infoPropF : (Tryz.prog.info? 39).map (fun i => (i.zero, i.size, i.bytes)) = some (some (propV zeroPV), 13, 128) := by kernel_rfl
theorem c_FAputN {w : World} {f : Nat → Nat} {tb c fb : Nat} {L : List (List KK)} {ks : List KK} {ps : List PV} (hN : Norm f w) (hT : TreeO w f tb L) (hL : L.length < 100000) (h : FastO w f c fb L ks ps) (hc : 10 ≤ c) (k : KK) (hk : okK k) (p : PV) (hno : idx ks (pk k) = none) (h0 : 0 ≤ p.fl) (h15 : p.fl ≤ 15) :
    Calls Tryz.prog 194 #[.pointer (some ⟨fb, 0, none⟩), .pointer (some ⟨tb, 0, none⟩), keyV k.1 k.2, propV p] w fun e w' => ∃ b, e = .returned (.bool b) ∧ PutF w f tb c fb L ks ps (pk k) p b w' := by
  obtain ⟨s, lv, h1, h2, h3, h4⟩ := h
  unfold keyV propV
  obtain ⟨k0, kn⟩ := k
  dsimp only
  obtain ⟨W2, hW2⟩ : ∃ W2, (w.alloc (.cells #[.string k0, .int .i64 kn] 43)).alloc (.cells (encP p).toArray 39) = W2 := ⟨_, rfl⟩
  have hb2 : Below w.heap.size w W2 := by rw [← hW2]; exact ((Below.refl _ w).alloc (Nat.le_refl _) _).alloc (by simp) _
  have hs2 : W2.heap.size = w.heap.size + 2 := by rw [← hW2]; simp
  have d0 : W2.heap[w.heap.size]? = some (.cells #[.string k0, .int .i64 kn] 43 (0, 0)) := by rw [← hW2, Below.heap_alloc _ _ _ (by simp)]; exact heap_alloc_new w _
  have z0 : W2.heap[w.heap.size + 1]? = some (.cells (encP p).toArray 39 (0, 0)) := by rw [← hW2]; exact heap_alloc2_new w _ _
  have kc0 : W2.cell? ⟨w.heap.size, 0, none⟩ = some (.string k0) := by rw [cell_of_row _ _ 0 _ _ _ d0]; rfl
  have kc1 : W2.cell? ⟨w.heap.size, 1, none⟩ = some (.int .i64 kn) := by rw [cell_of_row _ _ 1 _ _ _ d0]; rfl
  have lf := heapH_lt h1.1
  have c0 : W2.cell? ⟨fb, 0, none⟩ = some (.int .i64 (s : Int)) := by rw [hb2.cell (p := ⟨fb, 0, none⟩) lf, cell_of_row _ _ 0 _ _ _ h1.1]; rfl
  have hC := fun (y : World) (hy : Below W2.heap.size W2 y) => c_SFind (w := y) (f := f) (fun r hr => hN r (Nat.le_trans hb2.size (Nat.le_trans hy.size hr))) (hT.turn (Turn.of_below (fun _ => False) hN (hb2.trans (hy.mono hb2.size))) id id id id) s ks h3 (k0, kn) hk
  have hA := fun (y : World) (hy : Below W2.heap.size W2 y) => c_SAdd2 (w := y) (f := f) (fun r hr => hN r (Nat.le_trans hb2.size (Nat.le_trans hy.size hr))) (hT.turn (Turn.of_below (fun _ => False) hN (hb2.trans (hy.mono hb2.size))) id id id id) hL s ks h3 (k0, kn) hk hno p.fl h0 h15
  unfold keyV at hC hA
  have t1 : w.heap.size < W2.heap.size := by omega
  have t2 : fb < W2.heap.size := by omega
  have t3 : w.heap.size + 1 < W2.heap.size := by omega
  replace hC := Lib.hid hC
  replace hA := Lib.hid hA
  replace hs2 := Lib.hid hs2
  replace h1 := Lib.hid h1
  replace h4 := Lib.hid h4
  replace h2 := Lib.hid h2
  replace hno := Lib.hid hno
  replace z0 := Lib.hid z0
  replace d0 := Lib.hid d0
  replace hN := Lib.hid hN
  have h3' := Lib.hid h3
  clear hT h3 hk h0 h15 hL
  go_enter Tryz.func194, Tryz.ntmps194
  go_wp2_with fail
  go_region_held3 (fun y => (∀ a : Addr, a.block < W2.heap.size → y.cell? a = W2.cell? a) ∧ (∀ b : Nat, b < W2.heap.size → y.heap[b]? = W2.heap[b]?) ∧ Below W2.heap.size W2 y) (first | assumption | exact onto_drew W2 | exact onto_below (by assumption) (by assumption)) (first | (go_at_call 196; refine (hC.out _ (And.right (And.right (by assumption)))).mono ?_; rintro e y' ⟨hb, hr⟩; replace hr := own_form hr; obtain ⟨z, fl, bo, rfl, hr⟩ := hr))
  have hO := onto_below (onto_drew W2) hb
  obtain ⟨_, rfl⟩ : idx ks (pk (k0, kn)) = none ∧ bo = false := by
    rcases hr with ⟨i, hi, _⟩ | hr
    · rw [hno.out] at hi; cases hi
    · exact hr
  rw [← hO.1 ⟨w.heap.size, 0, none⟩ t1] at kc0
  rw [← hO.1 ⟨w.heap.size, 1, none⟩ t1] at kc1
  rw [← hO.1 ⟨fb, 0, none⟩ t2] at c0
  have z1 : y'.heap[w.heap.size + 1]? = some (.cells (encP p).toArray 39 (0, 0)) := (hO.2.1 _ t3).trans z0.out
  have zc : y'.cell? ⟨w.heap.size + 1, 12, none⟩ = some (.int .i64 p.fl) := by rw [cell_of_row _ _ 12 _ _ _ z1]; rfl
  have hA' := Lib.hid (hA.out y'.drew hO.2.2.drew)
  have hbw := Lib.hid (hb2.trans (hO.2.2.mono hb2.size))
  have g1 : w.heap.size < y'.heap.size := Nat.lt_of_lt_of_le t1 hO.2.2.size
  have g2 : fb < y'.heap.size := Nat.lt_of_lt_of_le t2 hO.2.2.size
  have g3 : w.heap.size + 1 < y'.heap.size := Nat.lt_of_lt_of_le t3 hO.2.2.size
  have n1 : ¬ C3 (f w.heap.size) := nC3_new hN.out (Nat.le_refl _)
  have n2 : ¬ C3 (f fb) := nC3 h1.out.2 hc
  have n3 : ¬ C3 (f (w.heap.size + 1)) := nC3_new hN.out (Nat.le_succ _)
  have hst := exc_drew y' f
  replace z1 := Lib.hid z1
  replace hb2 := Lib.hid hb2
  clear hO hb hr hW2 t1 t2 t3 hA
  go_wp2_with fail
  go_region_held3 (fun y => (∀ a : Addr, a.block < y'.heap.size → ¬ C3 (f a.block) → y.cell? a = y'.cell? a) ∧ (∀ b : Nat, b < y'.heap.size → ¬ C3 (f b) → y.heap[b]? = y'.heap[b]?) ∧ y'.heap.size ≤ y.heap.size) (first | assumption | exact hst | exact exc_turn (by assumption)) (first | (go_at_call 197; refine hA'.out.mono ?_; rintro e y2 ⟨t, er, f2, L2, rfl, hX, hY⟩; have hTu := hX.1))
  have hE := exc_turn hX.1
  have hTw : Turn C3 f f2 w y2 := (Turn.of_below C3 hN.out hbw.out.drew).trans hX.1
  rcases hY with ⟨rfl, hbig⟩ | ⟨rfl, hsm, hLt⟩
  · replace hE := Lib.hid hE
    clear hTu hst
    go_wp2
    go_ret
    refine ⟨false, rfl, f2, L2, ks, ps, ⟨cp_of hTw, hX.2.1, hX.2.2⟩, FastO.keep ⟨s, lv, h1.out, h2.out, h3'.out, h4.out⟩ hTw (by unfold C3; omega) hX.2.2, fun _ => ⟨rfl, rfl, hno.out, hbig⟩, fun h => by cases h⟩
  · have hTc := cp_of (c := c) hTw
    have e1 : y2.heap[fb]? = some (.cells #[.int .i64 (s : Int), lv] 111 (0, 0)) ∧ f2 fb = c := blk_turn h1.out hTw (by unfold C3; omega)
    have e2 := h2.out.turn hTw (by unfold C3; omega)
    have c0' : y2.cell? ⟨fb, 0, none⟩ = some (.int .i64 (s : Int)) := by rw [cell_of_row _ _ 0 _ _ _ e1.1]; rfl
    have f0' : y2.frozen? ⟨fb, 0, none⟩ = false := by simp [World.frozen?, e1.1]
    have z2 : y2.heap[w.heap.size + 1]? = some (.cells (encP p).toArray 39 (0, 0)) := (hE.2.1 _ g3 n3).trans z1.out
    obtain ⟨W3, hW3⟩ : ∃ W3, y2.setCell ⟨fb, 0, none⟩ (.int .i64 (t : Int)) = W3 := ⟨_, rfl⟩
    have hne : fb ≠ w.heap.size + 1 := by omega
    have s3 : W3.heap.size = y2.heap.size := by rw [← hW3]; simp [World.setCell]
    have z3 : W3.heap[w.heap.size + 1]? = some (.cells (encP p).toArray 39 (0, 0)) := by rw [← hW3, Below.heap_setCell _ _ _ _ hne.symm]; exact z2
    have b3 : W3.heap[fb]? = some (.cells #[.int .i64 (t : Int), lv] 111 (0, 0)) := by rw [← hW3, heap_setCell_same y2 fb 0 _ _ _ e1.1]; rfl
    have c1 : W3.cell? ⟨fb, 1, none⟩ = some lv := by rw [cell_of_row _ _ 1 _ _ _ b3]; rfl
    have f1 : W3.frozen? ⟨fb, 1, none⟩ = false := by simp [World.frozen?, b3]
    obtain ⟨v0, v1, v2, v3, v4, v5, v6, v7, v8, v9, v10, v11, v12⟩ := cells13 z3
    have nf := row_not e2.1 e1.1 (by decide)
    have hrow : W3.ownsRow 0 39 13 lv ps.length (flatP ps) := by rw [← hW3]; exact own_at e2.1 fun r hr => Below.heap_setCell _ _ _ _ (fun e => nf ((show r = fb from e) ▸ hr))
    obtain ⟨i0, hi0, hz0, hz1, hz2⟩ := info_parts infoPropF
    have hm1 : ps.length + 1 ≤ maxLen ∧ (ps.length + 1) * 128 ≤ 140737488355328 := by have := h4.out; unfold maxLen; omega
    have lf3 := heapH_lt b3
    replace hm1 := Lib.hid hm1
    replace hE := Lib.hid hE
    replace e1 := Lib.hid e1
    replace e2 := Lib.hid e2
    replace z2 := Lib.hid z2
    replace z3 := Lib.hid z3
    replace b3 := Lib.hid b3
    replace s3 := Lib.hid s3
    replace hrow := Lib.hid hrow
    replace nf := Lib.hid nf
    clear hTu hst n1 n2 n3 kc0 kc1 zc c0
    go_wp2_with fail
    refine wp_region_noPanic ?_
    go_region_law (first | (refine step_append_lies _ rfl _ _ _ rfl 0 39 i0 _ 13 128 Tryz.underlying109 hi0 hz0 hz1 hz2 rfl (by omega) lv ps.length (flatP ps) rfl ((hrow.out.alloc _).drew) ⟨W3.heap.size, 0, none⟩ 1 1 (encP p) rfl rfl (World.news_of_block (cs := (encP p).toArray) (t := 39) (fr := (0, 0)) (by exact heap_alloc_new W3 _)) (encP_one p) (by omega) hm1.out.1 hm1.out.2 (by simp) (W3.heap.size + 1) (by simp) ?_; intro gg cap w5 hown5 hg5 hat5 hlt5; obtain ⟨hc5, hf5⟩ := tb_after c1 f1 lf3 nf.out hg5))
    all_goals
      refine NoPanic.normal ?_
      have hlt := h4.out
      obtain ⟨f', r1, r2, r3⟩ := fast_push (p := p) hTc hX.2.1 e1.out e2.out hc hLt (by simp; omega) (by rw [hW3]; exact grown_undrew hg5) (by rw [← s3.out]; exact hat5) hown5
      generalize w5.setCell ⟨fb, 1, none⟩ (.slice (some ⟨gg, 0, none⟩) (ps.length + 1) cap) = w6 at *
      replace r1 := Lib.hid r1
      replace r2 := Lib.hid r2
      replace r3 := Lib.hid r3
      clear hlt v0 v1 v2 v3 v4 v5 v6 v7 v8 v9 v10 v11 v12 c0' f0' hc5 hf5 hg5 hown5 c1 f1 hW3
      go_wp2
      go_ret
      exact ⟨true, rfl, f', L2, _, _, ⟨r1.out, r2.out, hX.2.2⟩, r3.out, fun h => (by cases h), fun _ => .inr ⟨hno.out, hsm, rfl, rfl⟩⟩
end Go.Proofs.YtkbohoolnpaleaaGreatDoor
namespace Go.Proofs.YtkbohoolnpaleaaGreatDoor
open Go.RowKit Go.Shelf Go.Lib Go.Sort Go.Proofs Go.Maps
set_option maxHeartbeats 2000000
set_option maxRecDepth 100000

/-- a property's cells in the midst of a row -/
theorem range13 {W : World} {g o : Nat} {p : PV} (h : W.rangeAt g o (encP p)) : W.cell? ⟨g, o, none⟩ = some (.int .i64 p.v.k) ∧ W.cell? ⟨g, o + 1, none⟩ = some (.float .f64 p.v.x) ∧ W.cell? ⟨g, o + 2, none⟩ = some (.string p.v.s) ∧ W.cell? ⟨g, o + 3, none⟩ = some (.int .i64 p.v.r) ∧ W.cell? ⟨g, o + 4, none⟩ = some (.int .i64 p.g.k) ∧ W.cell? ⟨g, o + 5, none⟩ = some (.float .f64 p.g.x) ∧ W.cell? ⟨g, o + 6, none⟩ = some (.string p.g.s) ∧ W.cell? ⟨g, o + 7, none⟩ = some (.int .i64 p.g.r) ∧ W.cell? ⟨g, o + 8, none⟩ = some (.int .i64 p.t.k) ∧ W.cell? ⟨g, o + 9, none⟩ = some (.float .f64 p.t.x) ∧ W.cell? ⟨g, o + 10, none⟩ = some (.string p.t.s) ∧ W.cell? ⟨g, o + 11, none⟩ = some (.int .i64 p.t.r) ∧ W.cell? ⟨g, o + 12, none⟩ = some (.int .i64 p.fl) := ⟨h 0 _ rfl, h 1 _ rfl, h 2 _ rfl, h 3 _ rfl, h 4 _ rfl, h 5 _ rfl, h 6 _ rfl, h 7 _ rfl, h 8 _ rfl, h 9 _ rfl, h 10 _ rfl, h 11 _ rfl, h 12 _ rfl⟩
theorem Turn.setC {C : Nat → Prop} {f f' : Nat → Nat} {w : World} {b : Nat} : ∀ (vs : List Value) (o : Nat) {w' : World}, Turn C f f' w w' → C (f' b) → Turn C f f' w (w'.setCells b o vs)
  | [], _, _, h, _ => h
  | v :: vs, o, _, h, hb => by rw [World.setCells]; exact Turn.setC vs (o + 1) (h.set b o v hb) hb
theorem Turn.drew {C : Nat → Prop} {f f' : Nat → Nat} {w w' : World} (h : Turn C f f' w w') : Turn C f f' w w'.drew := h.then ((Below.refl _ w').drew)
theorem fast_set {w y2 : World} {f f2 : Nat → Nat} {tb c fb g cap t i : Nat} {s : Int} {L2 : List (List KK)} {ks : List KK} {ps : List PV} {p : PV} (vs : List Value) (hv : encP p = vs)
    (hTw : Turn (CP c) f f2 w y2) (hT2 : TreeO y2 f2 tb L2) (h1 : y2.heap[fb]? = some (.cells #[.int .i64 s, .slice (some ⟨g, 0, none⟩) ps.length cap] 111 (0, 0)) ∧ f2 fb = c) (h2 : RowO y2 f2 c 39 13 (.slice (some ⟨g, 0, none⟩) ps.length cap) ps.length (flatP ps)) (hc : 10 ≤ c)
    (hs : L2[t]? = some ks) (hl : ks.length = ps.length) (hi : i < ps.length) :
    Turn (CP c) f f2 w ((y2.setCell ⟨fb, 0, none⟩ (.int .i64 (t : Int))).setCells g (i * 13) vs).drew ∧ TreeO ((y2.setCell ⟨fb, 0, none⟩ (.int .i64 (t : Int))).setCells g (i * 13) vs).drew f2 tb L2 ∧ FastO ((y2.setCell ⟨fb, 0, none⟩ (.int .i64 (t : Int))).setCells g (i * 13) vs).drew f2 c fb L2 ks (ps.set i p) := by
  have ng : fb ≠ g := fun e => row_not h2.1 h1.1 (by decide) (congrArg some e.symm)
  have t1 : Turn (fun x => x = c) f2 f2 y2 (y2.setCell ⟨fb, 0, none⟩ (.int .i64 (t : Int))) := (Turn.refl _ hTw.norm).set fb 0 _ h1.2
  have t2 := (Turn.setC (b := g) vs (i * 13) t1 (h2.2 g rfl)).drew
  refine ⟨hTw.trans (t2.mono (fun x hx => .inr hx)), hT2.turn t2 (by omega) (by omega) (by omega) (by omega), t, .slice (some ⟨g, 0, none⟩) ps.length cap, ⟨?_, h1.2⟩, ⟨?_, h2.2⟩, hs, by simpa using hl⟩
  · show ((y2.setCell ⟨fb, 0, none⟩ (.int .i64 (t : Int))).setCells g (i * 13) vs).heap[fb]? = _
    rw [heap_setCells_ne _ _ _ ng, heap_setCell_same y2 fb 0 _ _ _ h1.1]; rfl
  · have e1 : (ps.set i p).length = ps.length := by simp
    rw [e1, show flatP (ps.set i p) = setL (flatP ps) (i * 13) vs from by rw [← hv]; exact (fm_setL (k := 13) (fun _ => rfl) hi).symm]
    have r1 : (y2.setCell ⟨fb, 0, none⟩ (.int .i64 (t : Int))).ownsRow 0 39 13 (.slice (some ⟨g, 0, none⟩) ps.length cap) ps.length (flatP ps) := own_at h2.1 fun r hr => Below.heap_setCell _ _ _ _ (fun e => ng ((Option.some.inj hr).trans e).symm)
    exact own_at (row_setL vs (i * 13) _ _ r1) fun r _ => rfl
theorem c_FAputS {w : World} {f : Nat → Nat} {tb c fb : Nat} {L : List (List KK)} {ks : List KK} {ps : List PV} (hN : Norm f w) (hT : TreeO w f tb L) (hL : L.length < 100000) (h : FastO w f c fb L ks ps) (hc : 10 ≤ c) (k : KK) (hk : okK k) (p : PV) (i : Nat) (hno : idx ks (pk k) = some i) (hks : ks.length ≤ 1000) (h0 : 0 ≤ p.fl) (h15 : p.fl ≤ 15) :
    Calls Tryz.prog 194 #[.pointer (some ⟨fb, 0, none⟩), .pointer (some ⟨tb, 0, none⟩), keyV k.1 k.2, propV p] w fun e w' => ∃ b, e = .returned (.bool b) ∧ PutF w f tb c fb L ks ps (pk k) p b w' := by
  obtain ⟨s, lv, h1, h2, h3, h4⟩ := h
  unfold keyV propV
  obtain ⟨k0, kn⟩ := k
  dsimp only
  obtain ⟨W2, hW2⟩ : ∃ W2, (w.alloc (.cells #[.string k0, .int .i64 kn] 43)).alloc (.cells (encP p).toArray 39) = W2 := ⟨_, rfl⟩
  have hb2 : Below w.heap.size w W2 := by rw [← hW2]; exact ((Below.refl _ w).alloc (Nat.le_refl _) _).alloc (by simp) _
  have hs2 : W2.heap.size = w.heap.size + 2 := by rw [← hW2]; simp
  have d0 : W2.heap[w.heap.size]? = some (.cells #[.string k0, .int .i64 kn] 43 (0, 0)) := by rw [← hW2, Below.heap_alloc _ _ _ (by simp)]; exact heap_alloc_new w _
  have z0 : W2.heap[w.heap.size + 1]? = some (.cells (encP p).toArray 39 (0, 0)) := by rw [← hW2]; exact heap_alloc2_new w _ _
  have kc0 : W2.cell? ⟨w.heap.size, 0, none⟩ = some (.string k0) := by rw [cell_of_row _ _ 0 _ _ _ d0]; rfl
  have kc1 : W2.cell? ⟨w.heap.size, 1, none⟩ = some (.int .i64 kn) := by rw [cell_of_row _ _ 1 _ _ _ d0]; rfl
  have lf := heapH_lt h1.1
  have c0 : W2.cell? ⟨fb, 0, none⟩ = some (.int .i64 (s : Int)) := by rw [hb2.cell (p := ⟨fb, 0, none⟩) lf, cell_of_row _ _ 0 _ _ _ h1.1]; rfl
  have hC := fun (y : World) (hy : Below W2.heap.size W2 y) => c_SFind (w := y) (f := f) (fun r hr => hN r (Nat.le_trans hb2.size (Nat.le_trans hy.size hr))) (hT.turn (Turn.of_below (fun _ => False) hN (hb2.trans (hy.mono hb2.size))) id id id id) s ks h3 (k0, kn) hk
  have hA := fun (y : World) (hy : Below W2.heap.size W2 y) => c_SChange (w := y) (f := f) (fun r hr => hN r (Nat.le_trans hb2.size (Nat.le_trans hy.size hr))) (hT.turn (Turn.of_below (fun _ => False) hN (hb2.trans (hy.mono hb2.size))) id id id id) hL s ks h3 hks (k0, kn) hk i hno p.fl h0 h15
  unfold keyV at hC hA
  have t1 : w.heap.size < W2.heap.size := by omega
  have t2 : fb < W2.heap.size := by omega
  have t3 : w.heap.size + 1 < W2.heap.size := by omega
  replace hC := Lib.hid hC
  replace hA := Lib.hid hA
  replace hs2 := Lib.hid hs2
  replace h1 := Lib.hid h1
  replace h4 := Lib.hid h4
  replace h2 := Lib.hid h2
  replace hno := Lib.hid hno
  replace z0 := Lib.hid z0
  replace d0 := Lib.hid d0
  replace hN := Lib.hid hN
  have h3' := Lib.hid h3
  clear hT h3 hk h0 h15 hL
  go_enter Tryz.func194, Tryz.ntmps194
  go_wp2_with fail
  go_region_held3 (fun y => (∀ a : Addr, a.block < W2.heap.size → y.cell? a = W2.cell? a) ∧ (∀ b : Nat, b < W2.heap.size → y.heap[b]? = W2.heap[b]?) ∧ Below W2.heap.size W2 y) (first | assumption | exact onto_drew W2 | exact onto_below (by assumption) (by assumption)) (first | (go_at_call 196; refine (hC.out _ (And.right (And.right (by assumption)))).mono ?_; rintro e y' ⟨hb, hr⟩; replace hr := own_form hr; obtain ⟨z, fl, bo, rfl, hr⟩ := hr))
  have hO := onto_below (onto_drew W2) hb
  obtain ⟨rfl, rfl⟩ : z = (i : Int) ∧ bo = true := by
    rcases hr with ⟨j, hj, h1, h2⟩ | ⟨hr, _⟩
    · rw [hno.out] at hj; cases hj; exact ⟨h1, h2⟩
    · rw [hno.out] at hr; cases hr
  rw [← hO.1 ⟨w.heap.size, 0, none⟩ t1] at kc0
  rw [← hO.1 ⟨w.heap.size, 1, none⟩ t1] at kc1
  rw [← hO.1 ⟨fb, 0, none⟩ t2] at c0
  have z1 : y'.heap[w.heap.size + 1]? = some (.cells (encP p).toArray 39 (0, 0)) := (hO.2.1 _ t3).trans z0.out
  have zc : y'.cell? ⟨w.heap.size + 1, 12, none⟩ = some (.int .i64 p.fl) := by rw [cell_of_row _ _ 12 _ _ _ z1]; rfl
  have hA' := Lib.hid (hA.out y'.drew hO.2.2.drew)
  have hbw := Lib.hid (hb2.trans (hO.2.2.mono hb2.size))
  have g1 : w.heap.size < y'.heap.size := Nat.lt_of_lt_of_le t1 hO.2.2.size
  have g2 : fb < y'.heap.size := Nat.lt_of_lt_of_le t2 hO.2.2.size
  have g3 : w.heap.size + 1 < y'.heap.size := Nat.lt_of_lt_of_le t3 hO.2.2.size
  have n1 : ¬ C3 (f w.heap.size) := nC3_new hN.out (Nat.le_refl _)
  have n2 : ¬ C3 (f fb) := nC3 h1.out.2 hc
  have n3 : ¬ C3 (f (w.heap.size + 1)) := nC3_new hN.out (Nat.le_succ _)
  have hst := exc_drew y' f
  replace z1 := Lib.hid z1
  replace hb2 := Lib.hid hb2
  clear hO hb hr hW2 t1 t2 t3 hA
  go_wp2_with fail
  go_region_held3 (fun y => (∀ a : Addr, a.block < y'.heap.size → ¬ C3 (f a.block) → y.cell? a = y'.cell? a) ∧ (∀ b : Nat, b < y'.heap.size → ¬ C3 (f b) → y.heap[b]? = y'.heap[b]?) ∧ y'.heap.size ≤ y.heap.size) (first | assumption | exact hst | exact exc_turn (by assumption)) (first | (go_at_call 198; refine hA'.out.mono ?_; rintro e y2 ⟨t, f2, L2, rfl, hX, hT2, hLt, hLL⟩; have hTu := hX))
  have hE := exc_turn hX
  have hTw : Turn C3 f f2 w y2 := (Turn.of_below C3 hN.out hbw.out.drew).trans hX
  have hTc := cp_of (c := c) hTw
  have e1 : y2.heap[fb]? = some (.cells #[.int .i64 (s : Int), lv] 111 (0, 0)) ∧ f2 fb = c := blk_turn h1.out hTw (by unfold C3; omega)
  have e2 := h2.out.turn hTw (by unfold C3; omega)
  have c0' : y2.cell? ⟨fb, 0, none⟩ = some (.int .i64 (s : Int)) := by rw [cell_of_row _ _ 0 _ _ _ e1.1]; rfl
  have f0' : y2.frozen? ⟨fb, 0, none⟩ = false := by simp [World.frozen?, e1.1]
  have z2 : y2.heap[w.heap.size + 1]? = some (.cells (encP p).toArray 39 (0, 0)) := (hE.2.1 _ g3 n3).trans z1.out
  obtain ⟨W3, hW3⟩ : ∃ W3, y2.setCell ⟨fb, 0, none⟩ (.int .i64 (t : Int)) = W3 := ⟨_, rfl⟩
  have hne : fb ≠ w.heap.size + 1 := by omega
  have z3 : W3.heap[w.heap.size + 1]? = some (.cells (encP p).toArray 39 (0, 0)) := by rw [← hW3, Below.heap_setCell _ _ _ _ hne.symm]; exact z2
  have b3 : W3.heap[fb]? = some (.cells #[.int .i64 (t : Int), lv] 111 (0, 0)) := by rw [← hW3, heap_setCell_same y2 fb 0 _ _ _ e1.1]; rfl
  have hil : i < ps.length := by rw [← h4.out]; exact idx_lt hno.out
  obtain ⟨q, hq⟩ : ∃ q, ps[i]? = some q := ⟨_, List.getElem?_eq_getElem hil⟩
  have nf := row_not e2.1 e1.1 (by decide)
  obtain ⟨g, cap, rfl, k1, k2⟩ := e2.1.form (by omega)
  have c1 : W3.cell? ⟨fb, 1, none⟩ = some (.slice (some ⟨g, 0, none⟩) ps.length cap) := by rw [cell_of_row _ _ 1 _ _ _ b3]; rfl
  obtain ⟨v0, v1, v2, v3, v4, v5, v6, v7, v8, v9, v10, v11, v12⟩ := cells13 z3
  obtain ⟨u0, u1, u2, u3, u4, u5, u6, u7, u8, u9, u10, u11, u12⟩ := range13 (p := q) (range_at (range_of e2.1 hq) (show W3.heap[g]? = y2.heap[g]? by rw [← hW3]; exact Below.heap_setCell _ _ _ _ (fun e => nf (congrArg some (show g = fb from e)))))
  obtain ⟨cur, hcur⟩ := row_type e2.1 (r := g) rfl
  have fz : ∀ o, W3.frozen? ⟨g, o, none⟩ = false := fun o => by
    have : W3.heap[g]? = some (.cells cur 39 (0, 0)) := by rw [← hW3, Below.heap_setCell _ _ _ _ (fun e => nf (congrArg some (show g = fb from e)))]; exact hcur
    simp [World.frozen?, this]
  have p3 : (0 : Int) ≤ (i : Int) := by omega
  have p4 : (i : Int) < (ps.length : Int) := by omega
  replace hE := Lib.hid hE
  replace e1 := Lib.hid e1
  replace e2 := Lib.hid e2
  replace z2 := Lib.hid z2
  replace z3 := Lib.hid z3
  replace b3 := Lib.hid b3
  replace nf := Lib.hid nf
  replace hq := Lib.hid hq
  replace hcur := Lib.hid hcur
  clear hTu hst n1 n2 n3 kc0 kc1 zc c0
  go_wp2_with fail
  have rsf := fun (w : World) (a : Addr) (x : Nat) => run_store Tryz.prog w a (.float .f64 x) .plain rfl
  refine wp_region_noPanic ?_
  go_region_law (fail)
  all_goals
    refine NoPanic.normal ?_
    obtain ⟨r1, r2, r3⟩ := fast_set (p := p) _ rfl hTc hT2 e1.out e2.out hc hLt h4.out hil
    rw [hW3] at r1 r2 r3
    generalize hw6 : World.drew _ = w6
    have hw7 : (W3.setCells g (i * 13) (encP p)).drew = w6 := hw6
    rw [hw7] at r1 r2 r3
    replace r1 := Lib.hid r1
    replace r2 := Lib.hid r2
    replace r3 := Lib.hid r3
    clear hw6 hw7 v0 v1 v2 v3 v4 v5 v6 v7 v8 v9 v10 v11 v12 u0 u1 u2 u3 u4 u5 u6 u7 u8 u9 u10 u11 u12 c0' f0' c1 hW3 rsf fz
    go_wp2
    go_ret
    exact ⟨true, rfl, f2, L2, _, _, ⟨r1.out, r2.out, lePre_of hLL⟩, r3.out, fun h => (by cases h), fun _ => .inl ⟨i, hno.out, rfl, rfl⟩⟩
end Go.Proofs.YtkbohoolnpaleaaGreatDoor
namespace Go.Proofs.YtkbohoolnpaleaaGreatDoor
open Go.RowKit Go.Shelf Go.Lib Go.Sort Go.Proofs Go.Maps
set_option maxHeartbeats 2000000
set_option maxRecDepth 100000

theorem c_FAput {w : World} {f : Nat → Nat} {tb c fb : Nat} {L : List (List KK)} {ks : List KK} {ps : List PV} (hN : Norm f w) (hT : TreeO w f tb L) (hL : L.length < 100000) (h : FastO w f c fb L ks ps) (hks : ks.length ≤ 1000) (hc : 10 ≤ c) (k : KK) (hk : okK k) (p : PV) (h0 : 0 ≤ p.fl) (h15 : p.fl ≤ 15) :
    Calls Tryz.prog 194 #[.pointer (some ⟨fb, 0, none⟩), .pointer (some ⟨tb, 0, none⟩), keyV k.1 k.2, propV p] w fun e w' => ∃ b, e = .returned (.bool b) ∧ PutF w f tb c fb L ks ps (pk k) p b w' := by
  cases hi : idx ks (pk k) with
  | none => exact c_FAputN hN hT hL h hc k hk p hi h0 h15
  | some i => exact c_FAputS hN hT hL h hc k hk p i hi hks h0 h15
theorem c_FAkeys {w : World} {f : Nat → Nat} {tb c fb : Nat} {L : List (List KK)} {ks : List KK} {ps : List PV} (hN : Norm f w) (hT : TreeO w f tb L) (h : FastO w f c fb L ks ps) (hks : ks.length ≤ 1000) :
    Calls Tryz.prog 68 #[.pointer (some ⟨fb, 0, none⟩), .pointer (some ⟨tb, 0, none⟩)] w fun e w' => ∃ (v : Value) (l : List KK), e = .returned v ∧ RdK w' v l ∧ l.map pk = ks ∧ (∀ x ∈ l, okK x) ∧ Below w.heap.size w w' := by
  obtain ⟨s, lv, h1, h2, h3, h4⟩ := h
  have c0 : w.cell? ⟨fb, 0, none⟩ = some (.int .i64 (s : Int)) := by rw [cell_of_row _ _ 0 _ _ _ h1.1]; rfl
  have hK := Lib.hid (c_SKeys hN hT s ks h3 hks)
  clear h1 h2 h3 h4 hN hT hks
  go_enter Tryz.func68, Tryz.ntmps68
  go_wp2_with (go_at_call 91; refine hK.out.mono ?_; rintro e w1 ⟨v, l, rfl, h1, h2, h3, h4⟩; replace h1 := Lib.hid h1; replace h2 := Lib.hid h2; replace h3 := Lib.hid h3; replace h4 := Lib.hid h4)
  go_ret
  exact ⟨v, l, rfl, h1.out, h2.out, h3.out, h4.out⟩
/-- an entry of a dictionary -/
structure EN where
  k : KK
  p : PV
  gone : Bool
def encN (e : EN) : List Value := [.string e.k.1, .int .i64 e.k.2] ++ encP e.p ++ [.bool e.gone]
def flatN (l : List EN) : List Value := l.flatMap encN
theorem flatN_len (l : List EN) : (flatN l).length = l.length * 16 := fm_len (k := 16) (fun _ => rfl) l
theorem flatN_get {l : List EN} {i : Nat} {e : EN} (h : l[i]? = some e) {j : Nat} {v : Value} (hj : (encN e)[j]? = some v) : (flatN l)[i * 16 + j]? = some v := fm_get (enc := encN) (k := 16) (fun _ => rfl) h hj
theorem encN_one (e : EN) : ∀ u ∈ encN e, u.oneCell' = true := by simp [encN, encP, Value.oneCell']
/-- where a key stands, among those that are not gone -/
def lidx : List EN → KK → Option Nat
  | [], _ => none
  | e :: l, x => if e.gone = false ∧ pk e.k = x then some 0 else (lidx l x).map (· + 1)
/-- what a dictionary tells -/
def live (l : List EN) : List (KK × PV) := l.filterMap fun e => if e.gone then none else some (pk e.k, e.p)
def gk (l : List (KK × PV)) : List KK := l.map Prod.fst
theorem live_cons (e : EN) (l : List EN) : live (e :: l) = (if e.gone then [] else [(pk e.k, e.p)]) ++ live l := by
  unfold live
  cases h : e.gone <;> simp [h]
theorem live_app (a b : List EN) : live (a ++ b) = live a ++ live b := by simp [live]
theorem lidx_none {l : List EN} {x : KK} : lidx l x = none ↔ idx (gk (live l)) x = none := by
  induction l with
  | nil => simp [lidx, live, gk, idx]
  | cons e l ih =>
    rw [live_cons]
    cases h : e.gone
    · by_cases hx : pk e.k = x
      · simp [lidx, h, hx, gk, idx]
      · simpa [lidx, h, hx, gk, idx] using ih
    · simpa [lidx, h] using ih
theorem lidx_some {l : List EN} {x : KK} : ∀ {i : Nat}, lidx l x = some i → ∃ (e : EN) (j : Nat), l[i]? = some e ∧ e.gone = false ∧ pk e.k = x ∧ idx (gk (live l)) x = some j ∧ (live l)[j]? = some (x, e.p) ∧
    (∀ p, live (l.set i { e with p := p }) = (live l).set j (x, p)) ∧ live (l.set i { e with gone := true }) = (live l).eraseIdx j := by
  induction l with
  | nil => intro i h; simp [lidx] at h
  | cons a l ih =>
    intro i h
    by_cases hx : a.gone = false ∧ pk a.k = x
    · simp [lidx, hx] at h
      subst h
      refine ⟨a, 0, rfl, hx.1, hx.2, ?_, ?_, fun p => ?_, ?_⟩
      · rw [live_cons]; simp [hx.1, hx.2, gk, idx]
      · rw [live_cons]; simp [hx.1, hx.2]
      · rw [List.set_cons_zero, live_cons, live_cons]; simp [hx.1, hx.2]
      · rw [List.set_cons_zero, live_cons, live_cons]; simp [hx.1]
    · simp only [lidx, hx, if_false] at h
      cases hl : lidx l x with
      | none => rw [hl] at h; cases h
      | some m =>
        rw [hl] at h
        injection h with h
        subst h
        obtain ⟨e, j, h1, h2, h3, h4, h5, h6, h7⟩ := ih hl
        cases hg : a.gone
        · have hx' : ¬ pk a.k = x := fun e => hx ⟨hg, e⟩
          refine ⟨e, j + 1, by simpa using h1, h2, h3, ?_, ?_, fun p => ?_, ?_⟩
          · rw [live_cons]; simp [hg, gk, idx, hx']; exact h4
          · rw [live_cons]; simp [hg, h5]
          · rw [List.set_cons_succ, live_cons, live_cons, h6]; simp [hg]
          · rw [List.set_cons_succ, live_cons, live_cons, h7]; simp [hg]
        · refine ⟨e, j, by simpa using h1, h2, h3, ?_, ?_, fun p => ?_, ?_⟩
          · rw [live_cons]; simpa [hg] using h4
          · rw [live_cons]; simpa [hg] using h5
          · rw [List.set_cons_succ, live_cons, live_cons, h6]; simp [hg]
          · rw [List.set_cons_succ, live_cons, live_cons, h7]; simp [hg]
theorem lidx_put {l : List EN} {y : KK} : ∀ {i : Nat} {e : EN} (p : PV), l[i]? = some e → lidx (l.set i { e with p := p }) y = lidx l y := by
  induction l with
  | nil => intro i e p h; simp at h
  | cons a l ih =>
    intro i e p h
    cases i with
    | zero => simp at h; subst h; simp [lidx]
    | succ i => rw [List.set_cons_succ]; simp only [lidx]; rw [ih p (by simpa using h)]
theorem lidx_drop {l : List EN} {y : KK} : ∀ {i : Nat} {e : EN}, l[i]? = some e → e.gone = false → (gk (live l)).Nodup → lidx (l.set i { e with gone := true }) y = if pk e.k = y then none else lidx l y := by
  induction l with
  | nil => intro i e h; simp at h
  | cons a l ih =>
    intro i e h hg hn
    rw [live_cons] at hn
    cases i with
    | zero =>
      simp at h; subst h
      rw [List.set_cons_zero]
      by_cases hy : pk a.k = y
      · simp only [lidx, hg, hy]
        simp only [hg, gk] at hn
        simp at hn
        have : lidx l y = none := lidx_none.2 (idx_none.2 fun hm => by
          obtain ⟨z, hz, e⟩ := List.mem_map.1 hm
          obtain ⟨z1, z2⟩ := z
          exact hn.1 z2 (by rw [hy]; dsimp at e; rw [← e]; exact hz))
        simp [this]
      · simp [lidx, hg, hy]
    | succ i =>
      rw [List.set_cons_succ]
      have hi : l[i]? = some e := by simpa using h
      have hn' : (gk (live l)).Nodup := by
        unfold gk at *
        rw [List.map_append, List.nodup_append] at hn
        exact hn.2.1
      simp only [lidx]
      rw [ih hi hg hn']
      by_cases ha : a.gone = false ∧ pk a.k = y
      · have hne : ¬ pk e.k = y := fun e1 => by
          have hm : (pk e.k, e.p) ∈ live l := by
            unfold live
            exact List.mem_filterMap.2 ⟨e, List.mem_of_getElem? hi, by simp [hg]⟩
          simp only [ha.1, gk] at hn
          simp at hn
          exact hn.1 e.p (by rw [ha.2, ← e1]; exact hm)
        simp [ha, hne]
      · by_cases hy : pk e.k = y <;> simp [ha, hy]
theorem lidx_snoc {l : List EN} {e : EN} {y : KK} (hg : e.gone = false) : lidx (l ++ [e]) y = match lidx l y with | some i => some i | none => if pk e.k = y then some l.length else none := by
  induction l with
  | nil => simp [lidx, hg]
  | cons a l ih =>
    by_cases ha : a.gone = false ∧ pk a.k = y
    · simp [lidx, ha]
    · simp only [List.cons_append, lidx, ha, if_false, ih]
      cases lidx l y with
      | some i => simp
      | none => by_cases e2 : pk e.k = y <;> simp [e2]
theorem lidx_lt {l : List EN} {x : KK} {i : Nat} (h : lidx l x = some i) : i < l.length := by
  obtain ⟨e, j, h1, _⟩ := lidx_some h
  exact (List.getElem?_eq_some_iff.1 h1).1
/-- a dictionary -/
def SlowO (w : World) (f : Nat → Nat) (c db b : Nat) (es : List EN) : Prop :=
  ∃ (mb n : Nat) (g : Lit → Option Int) (lv : Value), (w.heap[db]? = some (.cells #[.map (some mb), lv] 145 (0, 0)) ∧ f db = c) ∧ RowO w f c 166 16 lv es.length (flatN es) ∧ MapO w f c 43 mb n g ∧ (n ≤ b ∧ es.length ≤ b) ∧
    (∀ e ∈ es, okK e.k) ∧ (gk (live es)).Nodup ∧ ∀ x, okK x → g (klK x) = (lidx es x).map Int.ofNat
theorem SlowO.turn {C : Nat → Prop} {f f' : Nat → Nat} {w w' : World} {c db b : Nat} {es : List EN} (h : SlowO w f c db b es) (ht : Turn C f f' w w') (hc : ¬ C c) : SlowO w' f' c db b es := by
  obtain ⟨mb, n, g, lv, h1, h2, h3, h4⟩ := h
  exact ⟨mb, n, g, lv, blk_turn h1 ht hc, h2.turn ht hc, h3.turn ht hc, h4⟩
theorem SlowO.mono {w : World} {f : Nat → Nat} {c db b b' : Nat} {es : List EN} (h : SlowO w f c db b es) (hb : b ≤ b') : SlowO w f c db b' es := by
  obtain ⟨mb, n, g, lv, h1, h2, h3, h4, h5⟩ := h
  exact ⟨mb, n, g, lv, h1, h2, h3, ⟨Nat.le_trans h4.1 hb, Nat.le_trans h4.2 hb⟩, h5⟩
end Go.Proofs.YtkbohoolnpaleaaGreatDoor
namespace Go.Proofs.YtkbohoolnpaleaaGreatDoor
open Go.RowKit Go.Shelf Go.Lib Go.Sort Go.Proofs Go.Maps
set_option maxHeartbeats 2000000
set_option maxRecDepth 100000

/-- the properties of an entry, in a row -/
theorem rangeN {w : World} {g n cap B : Nat} {es : List EN} (h : w.ownsRow B 166 16 (.slice (some ⟨g, 0, none⟩) n cap) n (flatN es)) {i : Nat} {e : EN} (hi : es[i]? = some e) : w.rangeAt g (i * 16 + 2) (encP e.p) := fun j v hv => by
  have hj : (encN e)[2 + j]? = some v := by
    have hl : j < (encP e.p).length := (List.getElem?_eq_some_iff.1 hv).1
    unfold encN
    rw [List.append_assoc, List.getElem?_append_right (by simp), List.getElem?_append_left (by simpa using hl)]
    simpa using hv
  have := h.cells (g := g) rfl _ _ (flatN_get hi hj)
  rwa [Addr.add_lit, Nat.zero_add, ← Nat.add_assoc] at this
theorem c_SWown {w : World} {f : Nat → Nat} {c db b : Nat} {es : List EN} (h : SlowO w f c db b es) (tv cv : Value) (k : KK) (hk : okK k) :
    Calls Tryz.prog 206 #[.pointer (some ⟨db, 0, none⟩), tv, cv, keyV k.1 k.2] w fun e w' => Below w.heap.size w w' ∧
      ((∃ (i : Nat) (p : PV), idx (gk (live es)) (pk k) = some i ∧ (live es)[i]? = some (pk k, p) ∧ e = .returned (.tuple #[propV p, .bool true])) ∨ (idx (gk (live es)) (pk k) = none ∧ e = .returned (.tuple #[propV zeroPV, .bool false]))) := by
  obtain ⟨mb, n, g, lv, h1, h2, h3, h4, h5, h6, h7⟩ := h
  obtain ⟨z, hz, hlk⟩ := look_K h3 (pk k) (pk_ok hk)
  rw [h7 _ (pk_ok hk)] at hz hlk
  have hP := Lib.hid (c_Hplain k hk.1)
  have lm := h3.lt
  unfold keyV at *
  obtain ⟨k0, kn⟩ := k
  dsimp only at *
  generalize pk (k0, kn) = K at *
  obtain ⟨W2, hW2⟩ : ∃ W2, (w.alloc (.cells #[.string k0, .int .i64 kn] 43)).alloc (.cells (encP zeroPV).toArray 39) = W2 := ⟨_, rfl⟩
  have hb2 : Below w.heap.size w W2 := by rw [← hW2]; exact ((Below.refl _ w).alloc (Nat.le_refl _) _).alloc (by simp) _
  have hs2 : W2.heap.size = w.heap.size + 2 := by rw [← hW2]; simp
  have d0 : W2.heap[w.heap.size]? = some (.cells #[.string k0, .int .i64 kn] 43 (0, 0)) := by rw [← hW2, Below.heap_alloc _ _ _ (by simp)]; exact heap_alloc_new w _
  have z0 : W2.heap[w.heap.size + 1]? = some (.cells (encP zeroPV).toArray 39 (0, 0)) := by rw [← hW2]; exact heap_alloc2_new w _ _
  have kc0 : W2.cell? ⟨w.heap.size, 0, none⟩ = some (.string k0) := by rw [cell_of_row _ _ 0 _ _ _ d0]; rfl
  have kc1 : W2.cell? ⟨w.heap.size, 1, none⟩ = some (.int .i64 kn) := by rw [cell_of_row _ _ 1 _ _ _ d0]; rfl
  have lf := heapH_lt h1.1
  have c0 : W2.cell? ⟨db, 0, none⟩ = some (.map (some mb)) := by rw [hb2.cell (p := ⟨db, 0, none⟩) lf, cell_of_row _ _ 0 _ _ _ h1.1]; rfl
  rw [← hb2.block mb lm] at hlk
  have t1 : w.heap.size < W2.heap.size := by omega
  have t2 : db < W2.heap.size := by omega
  have t3 : mb < W2.heap.size := by omega
  replace hs2 := Lib.hid hs2
  replace h1 := Lib.hid h1
  replace h4 := Lib.hid h4
  replace h2 := Lib.hid h2
  replace z0 := Lib.hid z0
  simp only [encP, zeroPV, zeroVV] at hW2
  clear d0 h3 h5 h6 h7 hk h4
  cases hli : lidx es K with
  | none =>
    rw [hli] at hlk
    dsimp only [Option.map, Option.isSome] at hlk
    go_enter Tryz.func206, Tryz.ntmps206
    go_wp2_with fail
    go_region_held3 (fun y => (∀ a : Addr, a.block < W2.heap.size → y.cell? a = W2.cell? a) ∧ (∀ b : Nat, b < W2.heap.size → y.heap[b]? = W2.heap[b]?) ∧ Below W2.heap.size W2 y) (first | assumption | exact onto_drew W2 | exact onto_below (by assumption) (by assumption)) (first | (go_at_call 92; refine (hP.out _).mono ?_; rintro e y' ⟨rfl, hb⟩))
    have hO := onto_below (onto_drew W2) hb
    have z1 : y'.heap[w.heap.size + 1]? = some (.cells (encP zeroPV).toArray 39 (0, 0)) := (hO.2.1 _ (by have := hs2.out; omega)).trans z0.out
    have hbw := hb2.trans (hO.2.2.mono hb2.size)
    replace hbw := Lib.hid hbw
    have hth := there_of (n := 13) (o := 0) z1 (by simp [encP])
    replace z1 := Lib.hid z1
    clear hO hb kc0 kc1 c0 t1 t2 t3 hlk
    have hi13 : (Tryz.prog.info? 39).map (·.size) = some (encP zeroPV).toArray.size := infoProp
    have ho13 := all_oneCell_toArray (encP_one zeroPV)
    go_wp2_with (first | (refine wpList_store_mid (by rfl) 39 _ _ (by rfl) (w.heap.size + 1) 0 (encP zeroPV).toArray (by rfl) (by rfl) hth hi13 ho13 ?_))
    have hz' := heap_setCells_all (t := 39) (vs := encP zeroPV) z1.out rfl
    refine bodyPost_ret (results_cell_tmp_row rfl _ _ (w.heap.size + 1) 39 (encP zeroPV).toArray (0, 0) _ rfl rfl hz' infoProp) rfl ?_
    exact ⟨below_setC hbw.out (by omega) _ _, .inr ⟨lidx_none.1 hli, rfl⟩⟩
  | some i =>
    rw [hli] at hlk hz
    dsimp only [Option.map, Option.isSome] at hlk
    obtain rfl := hz _ rfl
    have hil := lidx_lt hli
    obtain ⟨en, j, e1, e2, e3, e4, e5, _⟩ := lidx_some hli
    go_enter Tryz.func206, Tryz.ntmps206
    go_wp2_with fail
    go_region_held3 (fun y => (∀ a : Addr, a.block < W2.heap.size → y.cell? a = W2.cell? a) ∧ (∀ b : Nat, b < W2.heap.size → y.heap[b]? = W2.heap[b]?) ∧ Below W2.heap.size W2 y) (first | assumption | exact onto_drew W2 | exact onto_below (by assumption) (by assumption)) (first | (go_at_call 92; refine (hP.out _).mono ?_; rintro e y' ⟨rfl, hb⟩))
    have hO := onto_below (onto_drew W2) hb
    have z1 : y'.heap[w.heap.size + 1]? = some (.cells (encP zeroPV).toArray 39 (0, 0)) := (hO.2.1 _ (by have := hs2.out; omega)).trans z0.out
    have hbw := hb2.trans (hO.2.2.mono hb2.size)
    replace hbw := Lib.hid hbw
    have hth := there_of (n := 13) (o := 0) z1 (by simp [encP])
    obtain ⟨g', cap, rfl, g1, g2⟩ := h2.out.1.form (by omega)
    have hg := (h2.out.1.lt g' rfl).2
    have c1 : y'.cell? ⟨db, 1, none⟩ = some (.slice (some ⟨g', 0, none⟩) es.length cap) := by
      rw [World.cell?_of_block (w := w) (a := ⟨db, 1, none⟩) (hbw.out.block db lf), cell_of_row _ _ 1 _ _ _ h1.out.1]; rfl
    have hrg := range_at (rangeN h2.out.1 e1) (hbw.out.block g' hg)
    generalize en.p = p at *
    have hi13 : (Tryz.prog.info? 39).map (·.size) = some (encP p).length := infoProp
    have hj13 : (Tryz.prog.info? 39).map (·.size) = some (encP p).toArray.size := infoProp
    have ho13 := all_oneCell_toArray (encP_one p)
    have p3 : (0 : Int) ≤ (i : Int) := by omega
    have p4 : (i : Int) < (es.length : Int) := by omega
    replace z1 := Lib.hid z1
    replace hli := Lib.hid hli
    replace e4 := Lib.hid e4
    replace e5 := Lib.hid e5
    clear hO hb kc0 kc1 c0 t1 t2 t3 hlk e1 e2 e3 hz
    go_wp2_with (first | (refine wpList_load_mid (by rfl) 39 _ (by rfl) g' (i * 16 + 2) (by rfl) (encP p) _ hrg Tryz.underlying39 rfl hi13 ?_) | (refine wpList_store_mid (by rfl) 39 _ _ (by rfl) (w.heap.size + 1) 0 (encP p).toArray (by rfl) (by rfl) hth hj13 ho13 ?_))
    have hz' := heap_setCells_all (t := 39) (vs := encP p) z1.out rfl
    refine bodyPost_ret (results_cell_tmp_row rfl _ _ (w.heap.size + 1) 39 (encP p).toArray (0, 0) _ rfl rfl hz' infoProp) rfl ?_
    exact ⟨below_setC hbw.out (by omega) _ _, .inl ⟨j, p, e4.out, e5.out, rfl⟩⟩
end Go.Proofs.YtkbohoolnpaleaaGreatDoor
namespace Go.Proofs.YtkbohoolnpaleaaGreatDoor
open Go.RowKit Go.Shelf Go.Lib Go.Sort Go.Proofs Go.Maps
set_option maxHeartbeats 2000000
set_option maxRecDepth 100000

/-- a dictionary has taken a property -/
def PutD (w : World) (f : Nat → Nat) (c db : Nat) (b : Nat) (l : List (KK × PV)) (w' : World) : Prop := ∃ (f' : Nat → Nat) (es' : List EN), Turn (fun x => x = c) f f' w w' ∧ SlowO w' f' c db (b + 1) es' ∧ live es' = l
/-- a property's cells in the midst of an entry -/
theorem range15 {W : World} {g o : Nat} {p : PV} (h : W.rangeAt g (o + 2) (encP p)) : W.cell? ⟨g, o + 2, none⟩ = some (.int .i64 p.v.k) ∧ W.cell? ⟨g, o + 3, none⟩ = some (.float .f64 p.v.x) ∧ W.cell? ⟨g, o + 4, none⟩ = some (.string p.v.s) ∧ W.cell? ⟨g, o + 5, none⟩ = some (.int .i64 p.v.r) ∧ W.cell? ⟨g, o + 6, none⟩ = some (.int .i64 p.g.k) ∧ W.cell? ⟨g, o + 7, none⟩ = some (.float .f64 p.g.x) ∧ W.cell? ⟨g, o + 8, none⟩ = some (.string p.g.s) ∧ W.cell? ⟨g, o + 9, none⟩ = some (.int .i64 p.g.r) ∧ W.cell? ⟨g, o + 10, none⟩ = some (.int .i64 p.t.k) ∧ W.cell? ⟨g, o + 11, none⟩ = some (.float .f64 p.t.x) ∧ W.cell? ⟨g, o + 12, none⟩ = some (.string p.t.s) ∧ W.cell? ⟨g, o + 13, none⟩ = some (.int .i64 p.t.r) ∧ W.cell? ⟨g, o + 14, none⟩ = some (.int .i64 p.fl) := ⟨h 0 _ rfl, h 1 _ rfl, h 2 _ rfl, h 3 _ rfl, h 4 _ rfl, h 5 _ rfl, h 6 _ rfl, h 7 _ rfl, h 8 _ rfl, h 9 _ rfl, h 10 _ rfl, h 11 _ rfl, h 12 _ rfl⟩
/-- a property is laid -/
def putL (l : List (KK × PV)) (x : KK) (p : PV) : List (KK × PV) := match idx (gk l) x with | some i => l.set i (x, p) | none => l ++ [(x, p)]
theorem gk_set {l : List (KK × PV)} {x : KK} {i : Nat} (h : idx (gk l) x = some i) (p : PV) : gk (l.set i (x, p)) = gk l := by
  unfold gk at *
  rw [List.map_set]
  apply List.ext_getElem?
  intro j
  rw [List.getElem?_set]
  split
  · rename_i e; subst e
    rw [idx_some h]
    simp
    simpa using idx_lt h
  · rfl
theorem gk_put_nodup {l : List (KK × PV)} (h : (gk l).Nodup) (x : KK) (p : PV) : (gk (putL l x p)).Nodup := by
  unfold putL
  cases hi : idx (gk l) x with
  | some i => dsimp only; rw [gk_set hi]; exact h
  | none =>
    dsimp only
    unfold gk at *
    rw [List.map_append, List.nodup_append]
    exact ⟨h, by simp, fun a ha b hb e => idx_none.1 hi (by simp at hb; rw [← hb, ← e]; exact ha)⟩
theorem setL_mid {α : Type} {enc : α → List Value} {k : Nat} (h : ∀ x, (enc x).length = k) {l : List α} {a x x' : List Value} {e e' : α} {i : Nat} (hi : l[i]? = some e) (ha : ∃ z, enc e = a ++ (x ++ z) ∧ enc e' = a ++ (x' ++ z)) (hx : x.length = x'.length) :
    setL (l.flatMap enc) (i * k + a.length) x' = (l.set i e').flatMap enc := by
  obtain ⟨z, h1, h2⟩ := ha
  induction l generalizing i with
  | nil => simp at hi
  | cons b l ih =>
    cases i with
    | zero =>
      simp at hi; subst hi
      rw [List.set_cons_zero, List.flatMap_cons, List.flatMap_cons, h1, h2, Nat.zero_mul, Nat.zero_add, List.append_assoc, List.append_assoc, show a.length = a.length + 0 by rfl, setL_app a _ 0 x', setL_front _ _ _ hx, List.append_assoc, List.append_assoc]
    | succ i =>
      rw [List.set_cons_succ, List.flatMap_cons, List.flatMap_cons, show (i + 1) * k + a.length = (enc b).length + (i * k + a.length) by rw [h, Nat.add_mul]; omega, setL_app, ih (by simpa using hi)]
theorem flatN_put {es : List EN} {i : Nat} {e : EN} (hi : es[i]? = some e) (p : PV) : setL (flatN es) (i * 16 + 2) (encP p) = flatN (es.set i { e with p := p }) :=
  setL_mid (enc := encN) (k := 16) (fun _ => rfl) (a := [.string e.k.1, .int .i64 e.k.2]) (x := encP e.p) hi ⟨[.bool e.gone], rfl, rfl⟩ rfl
theorem mem_set_k {es : List EN} {i : Nat} {e e' : EN} (hi : es[i]? = some e) (hk : e'.k = e.k) (h : ∀ e ∈ es, okK e.k) : ∀ e ∈ es.set i e', okK e.k := fun x hx => by
  rcases List.mem_or_eq_of_mem_set hx with hx | hx
  · exact h x hx
  · rw [hx, hk]; exact h e (List.mem_of_getElem? hi)
theorem slow_set {w y : World} {f f2 : Nat → Nat} {c db b g cap mb n i : Nat} {gm : Lit → Option Int} {es : List EN} {e : EN} {p : PV} (vs : List Value) (hv : encP p = vs)
    (hTw : Turn (fun x => x = c) f f2 w y) (h1 : y.heap[db]? = some (.cells #[.map (some mb), .slice (some ⟨g, 0, none⟩) es.length cap] 145 (0, 0)) ∧ f2 db = c) (h2 : RowO y f2 c 166 16 (.slice (some ⟨g, 0, none⟩) es.length cap) es.length (flatN es))
    (h3 : MapO y f2 c 43 mb n gm) (h4 : n ≤ b ∧ es.length ≤ b) (h5 : ∀ e ∈ es, okK e.k) (h6 : (gk (live es)).Nodup) (h7 : ∀ x, okK x → gm (klK x) = (lidx es x).map Int.ofNat) (hi : es[i]? = some e) (hl : live (es.set i { e with p := p }) = putL (live es) (pk e.k) p) :
    Turn (fun x => x = c) f f2 w (y.setCells g (i * 16 + 2) vs).drew ∧ SlowO (y.setCells g (i * 16 + 2) vs).drew f2 c db b (es.set i { e with p := p }) := by
  have ng : db ≠ g := fun e => row_not h2.1 h1.1 (by decide) (congrArg some e.symm)
  obtain ⟨cur, hcur⟩ := row_type h2.1 (r := g) rfl
  have nm : mb ≠ g := fun e => by
    subst e
    obtain ⟨D, ⟨es', cl, hm, _⟩, _⟩ := h3.1
    rw [hcur] at hm
    cases hm
  have t2 := (Turn.setC (b := g) vs (i * 16 + 2) hTw (h2.2 g rfl)).drew
  have hlen : (es.set i { e with p := p }).length = es.length := by simp
  refine ⟨t2, mb, n, gm, .slice (some ⟨g, 0, none⟩) es.length cap, ⟨?_, h1.2⟩, ⟨?_, h2.2⟩, ⟨h3.1.at ?_, h3.2⟩, by rw [hlen]; exact h4, mem_set_k (e' := { e with p := p }) hi rfl h5, ?_, fun x hx => by rw [lidx_put p hi]; exact h7 x hx⟩
  · show (y.setCells g (i * 16 + 2) vs).heap[db]? = _
    rw [heap_setCells_ne _ _ _ ng]; exact h1.1
  · rw [hlen, ← flatN_put hi p, hv]
    exact own_at (row_setL vs (i * 16 + 2) _ _ h2.1) fun r _ => rfl
  · show (y.setCells g (i * 16 + 2) vs).heap[mb]? = _
    exact heap_setCells_ne _ _ _ nm
  · rw [hl]; exact gk_put_nodup h6 _ _
end Go.Proofs.YtkbohoolnpaleaaGreatDoor
namespace Go.Proofs.YtkbohoolnpaleaaGreatDoor
open Go.RowKit Go.Shelf Go.Lib Go.Sort Go.Proofs Go.Maps
set_option maxHeartbeats 2000000
set_option maxRecDepth 100000

theorem c_SWputS {w : World} {f : Nat → Nat} {c db b : Nat} {es : List EN} (hN : Norm f w) (h : SlowO w f c db b es) (tv : Value) (k : KK) (hk : okK k) (p : PV) (i : Nat) (hli : lidx es (pk k) = some i) :
    Calls Tryz.prog 69 #[.pointer (some ⟨db, 0, none⟩), tv, keyV k.1 k.2, propV p] w fun e w' => e = .returned (.bool true) ∧ PutD w f c db b (putL (live es) (pk k) p) w' := by
  obtain ⟨mb, n, g, lv, h1, h2, h3, h4, h5, h6, h7⟩ := h
  obtain ⟨z, hz, hlk⟩ := look_K h3 (pk k) (pk_ok hk)
  rw [h7 _ (pk_ok hk)] at hz hlk
  have hP := Lib.hid (c_Hplain k hk.1)
  have lm := h3.lt
  unfold keyV propV at *
  obtain ⟨k0, kn⟩ := k
  dsimp only at *
  generalize pk (k0, kn) = K at *
  obtain ⟨W2, hW2⟩ : ∃ W2, (w.alloc (.cells #[.string k0, .int .i64 kn] 43)).alloc (.cells (encP p).toArray 39) = W2 := ⟨_, rfl⟩
  have hb2 : Below w.heap.size w W2 := by rw [← hW2]; exact ((Below.refl _ w).alloc (Nat.le_refl _) _).alloc (by simp) _
  have hs2 : W2.heap.size = w.heap.size + 2 := by rw [← hW2]; simp
  have d0 : W2.heap[w.heap.size]? = some (.cells #[.string k0, .int .i64 kn] 43 (0, 0)) := by rw [← hW2, Below.heap_alloc _ _ _ (by simp)]; exact heap_alloc_new w _
  have z0 : W2.heap[w.heap.size + 1]? = some (.cells (encP p).toArray 39 (0, 0)) := by rw [← hW2]; exact heap_alloc2_new w _ _
  have kc0 : W2.cell? ⟨w.heap.size, 0, none⟩ = some (.string k0) := by rw [cell_of_row _ _ 0 _ _ _ d0]; rfl
  have kc1 : W2.cell? ⟨w.heap.size, 1, none⟩ = some (.int .i64 kn) := by rw [cell_of_row _ _ 1 _ _ _ d0]; rfl
  have lf := heapH_lt h1.1
  have c0 : W2.cell? ⟨db, 0, none⟩ = some (.map (some mb)) := by rw [hb2.cell (p := ⟨db, 0, none⟩) lf, cell_of_row _ _ 0 _ _ _ h1.1]; rfl
  rw [← hb2.block mb lm] at hlk
  have t1 : w.heap.size < W2.heap.size := by omega
  have t2 : db < W2.heap.size := by omega
  have t3 : mb < W2.heap.size := by omega
  rw [hli] at hlk hz
  dsimp only [Option.map, Option.isSome] at hlk
  obtain rfl := hz _ rfl
  have hil := lidx_lt hli
  obtain ⟨en, j, e1, e2, e3, e4, e5, e6, e7⟩ := lidx_some hli
  have hpl : live (es.set i { en with p := p }) = putL (live es) (pk en.k) p := by unfold putL; rw [e3, e4]; exact e6 p
  obtain ⟨g', cap, rfl, g1, g2⟩ := h2.1.form (by omega)
  have hg := (h2.1.lt g' rfl).2
  have ng : db ≠ g' := fun e => row_not h2.1 h1.1 (by decide) (congrArg some e.symm)
  obtain ⟨cur, hcur⟩ := row_type h2.1 (r := g') rfl
  have p3 : (0 : Int) ≤ (i : Int) := by omega
  have p4 : (i : Int) < (es.length : Int) := by omega
  replace hs2 := Lib.hid hs2
  replace h1 := Lib.hid h1
  replace h4 := Lib.hid h4
  replace h2 := Lib.hid h2
  replace h3 := Lib.hid h3
  replace h5 := Lib.hid h5
  replace h6 := Lib.hid h6
  replace h7 := Lib.hid h7
  replace z0 := Lib.hid z0
  replace hN := Lib.hid hN
  replace hpl := Lib.hid hpl
  replace e1 := Lib.hid e1
  replace e3 := Lib.hid e3
  replace hcur := Lib.hid hcur
  clear d0 hk e2 e4 e5 e6 e7 hz hli
  go_enter Tryz.func69, Tryz.ntmps69
  go_wp2_with fail
  go_region_held3 (fun y => (∀ a : Addr, a.block < W2.heap.size → y.cell? a = W2.cell? a) ∧ (∀ b : Nat, b < W2.heap.size → y.heap[b]? = W2.heap[b]?) ∧ Below W2.heap.size W2 y) (first | assumption | exact onto_drew W2 | exact onto_below (by assumption) (by assumption)) (first | (go_at_call 92; refine (hP.out _).mono ?_; rintro e y' ⟨rfl, hb⟩))
  have hO := onto_below (onto_drew W2) hb
  have z1 : y'.heap[w.heap.size + 1]? = some (.cells (encP p).toArray 39 (0, 0)) := (hO.2.1 _ (by have := hs2.out; omega)).trans z0.out
  have hbw := hb2.trans (hO.2.2.mono hb2.size)
  have c1 : y'.cell? ⟨db, 1, none⟩ = some (.slice (some ⟨g', 0, none⟩) es.length cap) := by
    rw [World.cell?_of_block (w := w) (a := ⟨db, 1, none⟩) (hbw.block db lf), cell_of_row _ _ 1 _ _ _ h1.out.1]; rfl
  obtain ⟨v0, v1, v2, v3, v4, v5, v6, v7, v8, v9, v10, v11, v12⟩ := cells13 z1
  obtain ⟨u0, u1, u2, u3, u4, u5, u6, u7, u8, u9, u10, u11, u12⟩ := range15 (p := en.p) (range_at (rangeN h2.out.1 e1.out) (hbw.block g' hg))
  have fz : ∀ o, y'.frozen? ⟨g', o, none⟩ = false := fun o => by
    have : y'.heap[g']? = some (.cells cur 166 (0, 0)) := (hbw.block g' hg).trans hcur.out
    simp [World.frozen?, this]
  have hT1 : Turn (fun x => x = c) f f w y' := Turn.of_below _ hN.out hbw
  have hT0 : Turn (fun _ => False) f f w y' := Turn.of_below _ hN.out hbw
  obtain ⟨r1, r2⟩ := slow_set (e := en) _ rfl hT1 (blk_turn h1.out hT0 id) (h2.out.turn hT0 id) (h3.out.turn hT0 id) h4.out h5.out h6.out h7.out e1.out hpl.out
  replace hbw := Lib.hid hbw
  replace z1 := Lib.hid z1
  replace r1 := Lib.hid r1
  replace r2 := Lib.hid r2
  clear hO hb kc0 kc1 c0 t1 t2 t3 hlk hT1 hT0
  have rsf := fun (w : World) (a : Addr) (x : Nat) => run_store Tryz.prog w a (.float .f64 x) .plain rfl
  go_wp2_with fail
  refine wp_region_noPanic ?_
  go_region_law (fail)
  all_goals
    refine NoPanic.normal ?_
    generalize hw6 : World.drew _ = w6
    have hw7 : (y'.setCells g' (i * 16 + 2) (encP p)).drew = w6 := hw6
    rw [hw7] at r1 r2
    clear hw6 hw7 v0 v1 v2 v3 v4 v5 v6 v7 v8 v9 v10 v11 v12 u0 u1 u2 u3 u4 u5 u6 u7 u8 u9 u10 u11 u12 c1 rsf fz
    go_wp2
    go_ret
    exact ⟨rfl, f, _, r1.out, r2.out.mono (Nat.le_succ _), by rw [← e3.out]; exact hpl.out⟩
end Go.Proofs.YtkbohoolnpaleaaGreatDoor
namespace Go.Proofs.YtkbohoolnpaleaaGreatDoor
open Go.RowKit Go.Shelf Go.Lib Go.Sort Go.Proofs Go.Maps
set_option maxHeartbeats 2000000
set_option maxRecDepth 100000

theorem slow_push {w y w5 : World} {f f2 : Nat → Nat} {c db b gg cap mb n : Nat} {gm : Lit → Option Int} {lv : Value} {es : List EN} {e : EN} {K : KK} {o : Obj} (hK : pk e.k = K) (hg0 : e.gone = false) (hok : okK e.k)
    (hTw : Turn (fun x => x = c) f f2 w y) (h1 : y.heap[db]? = some (.cells #[.map (some mb), lv] 145 (0, 0)) ∧ f2 db = c) (h2 : RowO y f2 c 166 16 lv es.length (flatN es))
    (h3 : ∃ g', MapG y 43 mb (n + 1) g' ∧ g' (klK K) = some (es.length : Int) ∧ ∀ l, l ≠ klK K → g' l = gm l) (h3' : f2 mb = c) (h4 : n ≤ b ∧ es.length ≤ b) (h5 : ∀ e ∈ es, okK e.k) (h6 : (gk (live es)).Nodup) (h7 : ∀ x, okK x → gm (klK x) = (lidx es x).map Int.ofNat) (hno : lidx es K = none)
    (hg : (y.alloc o).grownBy w5 lv.ownBlock) (hat : lv.ownBlock = some gg ∨ gg = y.heap.size + 1)
    (hown : w5.ownsRow 0 166 16 (.slice (some ⟨gg, 0, none⟩) (es.length + 1) cap) (es.length + 1) (flatN es ++ encN e)) :
    ∃ f', Turn (fun x => x = c) f f' w (w5.setCell ⟨db, 1, none⟩ (.slice (some ⟨gg, 0, none⟩) (es.length + 1) cap)) ∧ SlowO (w5.setCell ⟨db, 1, none⟩ (.slice (some ⟨gg, 0, none⟩) (es.length + 1) cap)) f' c db (b + 1) (es ++ [e]) ∧ live (es ++ [e]) = putL (live es) K e.p := by
  have lf := heapH_lt h1.1
  have nf := row_not h2.1 h1.1 (by decide)
  obtain ⟨g', hm, hk1, hk2⟩ := h3
  have lm := hm.lt
  have nm : lv.ownBlock ≠ some mb := fun e => by
    obtain ⟨cur, hc⟩ := row_type h2.1 e
    obtain ⟨D, ⟨es', cl, hm, _⟩, _⟩ := hm
    rw [hc] at hm
    cases hm
  have ndm : db ≠ mb := fun e => by
    obtain ⟨D, ⟨es', cl, hm, _⟩, _⟩ := hm
    rw [← e, h1.1] at hm
    cases hm
  have t2 := (Turn.refl (fun x => x = c) hTw.norm).alloc o
  have t3 := t2.grown (fun _ => c) hg (fun r hr => h2.2 r hr)
  have sz : (y.alloc o).heap.size = y.heap.size + 1 := by simp
  have t4 := t3.set db 1 (.slice (some ⟨gg, 0, none⟩) (es.length + 1) cap) (by rw [give_old (by rw [sz]; omega)]; exact h1.2)
  have e5 : w5.heap[db]? = some (.cells #[.map (some mb), lv] 145 (0, 0)) := by
    rw [hg.block db (by rw [sz]; omega) (fun e => nf e.symm), Below.heap_alloc _ _ _ lf]; exact h1.1
  have ng : gg ≠ db := by
    rcases hat with h | h
    · intro e; subst e; exact nf h
    · omega
  have lg := (hown.lt gg rfl).2
  have hlive : live (es ++ [e]) = putL (live es) K e.p := by
    unfold putL
    rw [lidx_none.1 hno, live_app, ← hK]
    simp [live, hg0]
  refine ⟨_, hTw.trans t4, ⟨mb, n + 1, g', .slice (some ⟨gg, 0, none⟩) (es.length + 1) cap, ⟨?_, ?_⟩, ⟨?_, ?_⟩, ⟨hm.at ?_, ?_⟩, ⟨by omega, by simp; omega⟩, ?_, ?_, ?_⟩, hlive⟩
  · rw [heap_setCell_same w5 db 1 _ _ _ e5]; rfl
  · rw [give_old (by rw [sz]; omega)]; exact h1.2
  · have e1 : (es ++ [e]).length = es.length + 1 := by simp
    have e2 : flatN (es ++ [e]) = flatN es ++ encN e := by simp [flatN]
    rw [e1, e2]
    exact own_at hown fun r hr => by
      injection hr with hr; subst hr
      exact Below.heap_setCell _ _ _ _ ng
  · intro r hr
    injection hr with hr
    change gg = r at hr
    subst hr
    rcases hat with h | h
    · rw [give_old (by rw [sz]; have := (h2.1.lt gg h).2; omega)]; exact h2.2 gg h
    · rw [give_new (by rw [sz]; omega) lg]
  · rw [Below.heap_setCell _ _ _ _ ndm.symm, hg.block mb (by rw [sz]; omega) (fun e => nm e.symm), Below.heap_alloc _ _ _ lm]
  · rw [give_old (by rw [sz]; omega)]; exact h3'
  · intro x hx
    rcases List.mem_append.1 hx with h | h
    · exact h5 x h
    · simp at h; subst h; exact hok
  · rw [hlive]; exact gk_put_nodup h6 _ _
  · intro x hx
    rw [lidx_snoc hg0, hK]
    by_cases e1 : K = x
    · subst e1; rw [hk1, hno]; simp
    · rw [hk2 _ (fun h => e1 (klK_inj (by rw [← hK]; exact pk_ok hok) hx h.symm)), h7 x hx]
      cases lidx es x <;> simp [e1]
theorem infoEntry : (Tryz.prog.info? 166).map (fun i => (i.zero, i.size, i.bytes)) = some (some (.agg (encN ⟨(⟨#[]⟩, 0), zeroPV, false⟩).toArray), 16, 160) := by kernel_rfl
end Go.Proofs.YtkbohoolnpaleaaGreatDoor
namespace Go.Proofs.YtkbohoolnpaleaaGreatDoor
open Go.RowKit Go.Shelf Go.Lib Go.Sort Go.Proofs Go.Maps
set_option maxHeartbeats 2000000
set_option maxRecDepth 100000

theorem c_SWputN {w : World} {f : Nat → Nat} {c db b : Nat} {es : List EN} (hN : Norm f w) (h : SlowO w f c db b es) (hbb : b ≤ 100000) (tv : Value) (k : KK) (hk : okK k) (p : PV) (hli : lidx es (pk k) = none) :
    Calls Tryz.prog 69 #[.pointer (some ⟨db, 0, none⟩), tv, keyV k.1 k.2, propV p] w fun e w' => e = .returned (.bool true) ∧ PutD w f c db b (putL (live es) (pk k) p) w' := by
  obtain ⟨mb, n, g, lv, h1, h2, h3, h4, h5, h6, h7⟩ := h
  have hel : es.length ≤ 100000 := by omega
  have hnl : n ≤ 100000 := by omega
  clear hbb
  obtain ⟨z, hz, hlk⟩ := look_K h3 (pk k) (pk_ok hk)
  rw [h7 _ (pk_ok hk)] at hz hlk
  have hP := Lib.hid (c_Hplain k hk.1)
  have lm := h3.lt
  obtain ⟨Um, hU⟩ := store_U lawKey Tryz.underlying75 (b := mb) (n := n) (g := g) (keyOf_K (pk k) (pk_ok hk)) (isKey_klK _) (v := (es.length : Int)) (WalkArith.wf_i64 (by omega)) (by unfold maxLen; omega)
  have hUr := fun y h => (hU y h).1
  have hUt := Lib.hid (fun y h => (hU y h).2)
  unfold keyV propV at *
  obtain ⟨k0, kn⟩ := k
  dsimp only at *
  generalize hK : pk (k0, kn) = K at *
  obtain ⟨W2, hW2⟩ : ∃ W2, (w.alloc (.cells #[.string k0, .int .i64 kn] 43)).alloc (.cells (encP p).toArray 39) = W2 := ⟨_, rfl⟩
  have hb2 : Below w.heap.size w W2 := by rw [← hW2]; exact ((Below.refl _ w).alloc (Nat.le_refl _) _).alloc (by simp) _
  have hs2 : W2.heap.size = w.heap.size + 2 := by rw [← hW2]; simp
  have d0 : W2.heap[w.heap.size]? = some (.cells #[.string k0, .int .i64 kn] 43 (0, 0)) := by rw [← hW2, Below.heap_alloc _ _ _ (by simp)]; exact heap_alloc_new w _
  have z0 : W2.heap[w.heap.size + 1]? = some (.cells (encP p).toArray 39 (0, 0)) := by rw [← hW2]; exact heap_alloc2_new w _ _
  have kc0 : W2.cell? ⟨w.heap.size, 0, none⟩ = some (.string k0) := by rw [cell_of_row _ _ 0 _ _ _ d0]; rfl
  have kc1 : W2.cell? ⟨w.heap.size, 1, none⟩ = some (.int .i64 kn) := by rw [cell_of_row _ _ 1 _ _ _ d0]; rfl
  have lf := heapH_lt h1.1
  have c0 : W2.cell? ⟨db, 0, none⟩ = some (.map (some mb)) := by rw [hb2.cell (p := ⟨db, 0, none⟩) lf, cell_of_row _ _ 0 _ _ _ h1.1]; rfl
  have hlk2 := hlk
  rw [← hb2.block mb lm] at hlk
  have t1 : w.heap.size < W2.heap.size := by omega
  have t2 : db < W2.heap.size := by omega
  have t3 : mb < W2.heap.size := by omega
  rw [hli] at hlk hz
  dsimp only [Option.map, Option.isSome] at hlk
  have ndm : db ≠ mb := fun e => by
    obtain ⟨D, ⟨es', cl, hm, _⟩, _⟩ := h3.1
    rw [← e, h1.1] at hm
    cases hm
  have hlf : ∃ q cp, lv = .slice q es.length cp := by
    rcases h2.1.2 with ⟨e, h⟩ | ⟨g, cap, cur, e, _⟩
    · rw [h]; exact ⟨_, _, e⟩
    · exact ⟨_, _, e⟩
  obtain ⟨q, cp, rfl⟩ := hlf
  replace hs2 := Lib.hid hs2
  replace h1 := Lib.hid h1
  replace h4 := Lib.hid h4
  replace h2 := Lib.hid h2
  replace h3 := Lib.hid h3
  replace h5 := Lib.hid h5
  replace h6 := Lib.hid h6
  replace h7 := Lib.hid h7
  replace z0 := Lib.hid z0
  replace d0 := Lib.hid d0
  replace hN := Lib.hid hN
  replace hli := Lib.hid hli
  replace hK := Lib.hid hK
  replace hUr := Lib.hid hUr
  replace hk := Lib.hid hk
  clear hz hU hlk2
  go_enter Tryz.func69, Tryz.ntmps69
  go_wp2_with fail
  go_region_held3 (fun y => (∀ a : Addr, a.block < W2.heap.size → y.cell? a = W2.cell? a) ∧ (∀ b : Nat, b < W2.heap.size → y.heap[b]? = W2.heap[b]?) ∧ Below W2.heap.size W2 y) (first | assumption | exact onto_drew W2 | exact onto_below (by assumption) (by assumption)) (first | (go_at_call 92; refine (hP.out _).mono ?_; rintro e y' ⟨rfl, hb⟩))
  have hO := onto_below (onto_drew W2) hb
  clear kc0 kc1 c0
  have z1 : y'.heap[w.heap.size + 1]? = some (.cells (encP p).toArray 39 (0, 0)) := (hO.2.1 _ (by have := hs2.out; omega)).trans z0.out
  have d1 : y'.heap[w.heap.size]? = some (.cells #[.string k0, .int .i64 kn] 43 (0, 0)) := (hO.2.1 _ t1).trans d0.out
  have hbw := hb2.trans (hO.2.2.mono hb2.size)
  have e1 : y'.heap[db]? = some (.cells #[.map (some mb), .slice q es.length cp] 145 (0, 0)) := (hbw.block db lf).trans h1.out.1
  have c0 : y'.cell? ⟨db, 0, none⟩ = some (.map (some mb)) := by rw [cell_of_row _ _ 0 _ _ _ e1]; rfl
  have c1 : y'.cell? ⟨db, 1, none⟩ = some (.slice q es.length cp) := by rw [cell_of_row _ _ 1 _ _ _ e1]; rfl
  have kc0 : y'.cell? ⟨w.heap.size, 0, none⟩ = some (.string k0) := by rw [cell_of_row _ _ 0 _ _ _ d1]; rfl
  have kc1 : y'.cell? ⟨w.heap.size, 1, none⟩ = some (.int .i64 kn) := by rw [cell_of_row _ _ 1 _ _ _ d1]; rfl
  have hm2 := butU_start (.inl (h3.out.1.at (hbw.block mb lm)) : MapU y' 43 mb n g (klK K) (es.length : Int))
  have g1 : w.heap.size < y'.heap.size := heapH_lt d1
  have g2 : db < y'.heap.size := heapH_lt e1
  have g3 : w.heap.size + 1 < y'.heap.size := heapH_lt z1
  have n1 : w.heap.size ≠ mb := by omega
  have n3 : w.heap.size + 1 ≠ mb := by omega
  have hbw' := Lib.hid hbw
  replace z1 := Lib.hid z1
  replace d1 := Lib.hid d1
  replace e1 := Lib.hid e1
  have hUr2 := hUr.out
  clear hO hb hbw t1 t2 t3 hlk
  go_wp2_with fail
  go_region_held3 (fun y => ((∀ a : Addr, a.block < y'.heap.size → a.block ≠ mb → y.cell? a = y'.cell? a) ∧ y'.grownBy y (some mb)) ∧ MapU y 43 mb n g (klK K) (es.length : Int) ∧ mb < y'.heap.size) (first | assumption | exact hm2 | exact butU_below (by assumption) (by assumption) | exact butU_turn (by assumption) (hUt.out _ (And.left (And.right (by assumption))))) (first | (go_at_call 92; refine (hP.out _).mono ?_; rintro e y2 ⟨rfl, hb⟩))
  have hbU := butU_below hm2 hb
  have hbT := butU_turn hbU (hUt.out _ hbU.2.1)
  have hfin := (hUt.out y2 hbU.2.1).1
  have hg5 := hbT.1.2
  generalize Um y2 = y5 at *
  have k1 : y5.heap[db]? = some (.cells #[.map (some mb), .slice q es.length cp] 145 (0, 0)) := (hg5.block db g2 (fun e => ndm (Option.some.inj e))).trans e1.out
  have k2 : y5.heap[w.heap.size]? = some (.cells #[.string k0, .int .i64 kn] 43 (0, 0)) := (hg5.block _ g1 (fun e => n1 (Option.some.inj e))).trans d1.out
  have k3 : y5.heap[w.heap.size + 1]? = some (.cells (encP p).toArray 39 (0, 0)) := (hg5.block _ g3 (fun e => n3 (Option.some.inj e))).trans z1.out
  have T1 : Turn (fun x => x = c) f (give f y' y5 (fun _ => 0)) w y5 := (Turn.of_below _ hN.out hbw'.out).grown _ hg5 (fun r hr => by obtain rfl := Option.some.inj hr; exact h3.out.2)
  have nq : (Value.slice q es.length cp).ownBlock ≠ some mb := fun e => by
    obtain ⟨cur, hc⟩ := row_type h2.out.1 e
    obtain ⟨D, ⟨es', cl, hm, _⟩, _⟩ := h3.out.1
    rw [hc] at hm
    cases hm
  have hrow : y5.ownsRow 0 166 16 (.slice q es.length cp) es.length (flatN es) := own_at h2.out.1 (fun r hr => (hg5.block r (Nat.lt_of_lt_of_le (h2.out.1.lt r hr).2 hbw'.out.size) (fun e => nq (hr.trans e))).trans (hbw'.out.block r (h2.out.1.lt r hr).2))
  have hro2 : RowO y5 (give f y' y5 (fun _ => 0)) c 166 16 (.slice q es.length cp) es.length (flatN es) := ⟨hrow, fun r hr => (give_old (Nat.lt_of_lt_of_le (h2.out.1.lt r hr).2 hbw'.out.size)).trans (h2.out.2 r hr)⟩
  have o1 : give f y' y5 (fun _ => 0) db = c := (give_old g2).trans h1.out.2
  have o2 : give f y' y5 (fun _ => 0) mb = c := (give_old (Nat.lt_of_lt_of_le lm hbw'.out.size)).trans h3.out.2
  have nf := row_not hrow k1 (by decide)
  have lf5 := heapH_lt k1
  clear hbU hbT hb hUr hUt hUr2 hm2 kc0 kc1 c0 c1 hg5 g1 g2 g3
  have c1 : y5.cell? ⟨db, 1, none⟩ = some (.slice q es.length cp) := by rw [cell_of_row _ _ 1 _ _ _ k1]; rfl
  have f1 : y5.frozen? ⟨db, 1, none⟩ = false := by simp [World.frozen?, k1]
  have kc0 : y5.cell? ⟨w.heap.size, 0, none⟩ = some (.string k0) := by rw [cell_of_row _ _ 0 _ _ _ k2]; rfl
  have kc1 : y5.cell? ⟨w.heap.size, 1, none⟩ = some (.int .i64 kn) := by rw [cell_of_row _ _ 1 _ _ _ k2]; rfl
  obtain ⟨v0, v1, v2, v3, v4, v5, v6, v7, v8, v9, v10, v11, v12⟩ := cells13 k3
  obtain ⟨i0, hi0, hz0, hz1, hz2⟩ := info_parts infoEntry
  have hm1 : es.length + 1 ≤ maxLen ∧ (es.length + 1) * 160 ≤ 140737488355328 := by unfold maxLen; omega
  have l1 : w.heap.size < y5.heap.size := heapH_lt k2
  have l2 : w.heap.size + 1 < y5.heap.size := heapH_lt k3
  replace hm1 := Lib.hid hm1
  replace hrow := Lib.hid hrow
  replace hro2 := Lib.hid hro2
  replace o1 := Lib.hid o1
  replace o2 := Lib.hid o2
  replace nf := Lib.hid nf
  replace nq := Lib.hid nq
  replace k1 := Lib.hid k1
  replace k2 := Lib.hid k2
  replace k3 := Lib.hid k3
  replace T1 := Lib.hid T1
  replace hfin := Lib.hid hfin
  go_wp2_with fail
  refine wp_region_noPanic ?_
  go_region_law (first | (refine step_append_lies _ rfl _ _ _ rfl 0 166 i0 _ 16 160 Tryz.underlying143 hi0 hz0 hz1 hz2 rfl (by omega) (.slice q es.length cp) es.length (flatN es) rfl ((hrow.out.alloc _).drew) ⟨y5.heap.size, 0, none⟩ 1 1 (encN ⟨(k0, kn), p, false⟩) rfl rfl (World.news_of_block (cs := (encN ⟨(k0, kn), p, false⟩).toArray) (t := 166) (fr := (0, 0)) (by exact heap_alloc_new y5 _)) (encN_one _) (by omega) hm1.out.1 hm1.out.2 (by simp) (y5.heap.size + 1) (by simp) ?_; intro gg cap w5 hown5 hg5 hat5 hlt5; obtain ⟨hc5, hf5⟩ := tb_after c1 f1 lf5 nf.out hg5))
  all_goals
    refine NoPanic.normal ?_
    obtain ⟨f', r1, r2, r3⟩ := slow_push (e := ⟨(k0, kn), p, false⟩) hK.out rfl hk.out T1.out ⟨k1.out, o1.out⟩ hro2.out hfin.out o2.out h4.out h5.out h6.out h7.out hli.out (grown_undrew hg5) hat5 hown5
    generalize w5.setCell ⟨db, 1, none⟩ (.slice (some ⟨gg, 0, none⟩) (es.length + 1) cap) = w6 at *
    replace r1 := Lib.hid r1
    replace r2 := Lib.hid r2
    replace r3 := Lib.hid r3
    clear v0 v1 v2 v3 v4 v5 v6 v7 v8 v9 v10 v11 v12 hc5 hf5 hg5 hown5 c1 f1 kc0 kc1
    go_wp2
    go_ret
    exact ⟨rfl, f', _, r1.out, r2.out, r3.out⟩
theorem c_SWput {w : World} {f : Nat → Nat} {c db b : Nat} {es : List EN} (hN : Norm f w) (h : SlowO w f c db b es) (hbb : b ≤ 100000) (tv : Value) (k : KK) (hk : okK k) (p : PV) :
    Calls Tryz.prog 69 #[.pointer (some ⟨db, 0, none⟩), tv, keyV k.1 k.2, propV p] w fun e w' => e = .returned (.bool true) ∧ PutD w f c db b (putL (live es) (pk k) p) w' := by
  cases hi : lidx es (pk k) with
  | none => exact c_SWputN hN h hbb tv k hk p hi
  | some i => exact c_SWputS hN h tv k hk p i hi
end Go.Proofs.YtkbohoolnpaleaaGreatDoor
namespace Go.Proofs.YtkbohoolnpaleaaGreatDoor
open Go.RowKit Go.Shelf Go.Lib Go.Sort Go.Proofs Go.Maps
set_option maxHeartbeats 2000000
set_option maxRecDepth 100000

/-- the keys of those that are not gone -/
def lkeys (l : List EN) : List KK := l.filterMap fun e => if e.gone then none else some e.k
theorem lkeys_snoc (l : List EN) (e : EN) : lkeys (l ++ [e]) = if e.gone then lkeys l else lkeys l ++ [e.k] := by
  unfold lkeys
  cases h : e.gone <;> simp [h]
theorem lkeys_pk (l : List EN) : (lkeys l).map pk = gk (live l) := by
  induction l with
  | nil => rfl
  | cons e l ih =>
    rw [live_cons]
    unfold lkeys gk at *
    cases h : e.gone
    · simpa [h] using ih
    · simpa [h] using ih
theorem lkeys_ok {l : List EN} (h : ∀ e ∈ l, okK e.k) : ∀ x ∈ lkeys l, okK x := fun x hx => by
  obtain ⟨e, he, hm⟩ := List.mem_filterMap.1 hx
  cases hg : e.gone
  · simp [hg] at hm; subst hm; exact h e he
  · simp [hg] at hm
theorem take_get {α : Type} {l : List α} {i : Nat} {x : α} (h : l[i]? = some x) : l.take (i + 1) = l.take i ++ [x] := by rw [List.take_add_one, h]; rfl
theorem lkeys_len (l : List EN) : (lkeys l).length ≤ l.length := List.length_filterMap_le _ _
theorem infoEntryS : (Tryz.prog.info? 166).map (·.size) = some 16 := by kernel_rfl
/-- an entry of nothing -/
def zeroN : Array Value := #[.string ⟨#[]⟩, .int .i64 0, .int .i64 0, .float .f64 0, .string ⟨#[]⟩, .int .i64 0, .int .i64 0, .float .f64 0, .string ⟨#[]⟩, .int .i64 0, .int .i64 0, .float .f64 0, .string ⟨#[]⟩, .int .i64 0, .int .i64 0, .bool false]
theorem zeroN_there (w : World) : (w.alloc (.cells zeroN 166)).there w.heap.size 0 16 := there_of (heap_alloc_new w _) (Nat.le_refl 16)
/-- an entry, whole, in a row -/
theorem rangeE {w : World} {g n cap B : Nat} {es : List EN} (h : w.ownsRow B 166 16 (.slice (some ⟨g, 0, none⟩) n cap) n (flatN es)) {i : Nat} {e : EN} (hi : es[i]? = some e) : w.rangeAt g (i * 16) (encN e) := fun j v hv => by
  have := h.cells (g := g) rfl _ _ (flatN_get hi hv)
  rwa [Addr.add_lit, Nat.zero_add] at this
/-- a block of zeros that has been stored to, whole -/
theorem fresh_set {w : World} {o : Array Value} {t : TypeId} {vs : List Value} (hl : o.size = vs.length) : Below w.heap.size w ((w.alloc (.cells o t)).setCells w.heap.size 0 vs) ∧ ((w.alloc (.cells o t)).setCells w.heap.size 0 vs).heap[w.heap.size]? = some (.cells vs.toArray t (0, 0)) ∧ ((w.alloc (.cells o t)).setCells w.heap.size 0 vs).heap.size = w.heap.size + 1 :=
  ⟨below_setC ((Below.refl _ w).alloc (Nat.le_refl _) _) (Nat.le_refl _) vs 0, heap_setCells_all (heap_alloc_new w _) hl, by rw [(size_setCellsH _ _ _ _).1]; simp⟩
theorem fresh_cells {w : World} (e : EN) : Below w.heap.size w ((w.alloc (.cells zeroN 166)).setCells w.heap.size 0 (encN e)) ∧ ((w.alloc (.cells zeroN 166)).setCells w.heap.size 0 (encN e)).cell? ⟨w.heap.size, 0, none⟩ = some (.string e.k.1) ∧ ((w.alloc (.cells zeroN 166)).setCells w.heap.size 0 (encN e)).cell? ⟨w.heap.size, 1, none⟩ = some (.int .i64 e.k.2) ∧ ((w.alloc (.cells zeroN 166)).setCells w.heap.size 0 (encN e)).cell? ⟨w.heap.size, 15, none⟩ = some (.bool e.gone) := by
  obtain ⟨h1, h2, _⟩ := fresh_set (w := w) (o := zeroN) (t := 166) (vs := encN e) rfl
  generalize (w.alloc (.cells zeroN 166)).setCells w.heap.size 0 (encN e) = W at *
  refine ⟨h1, ?_, ?_, ?_⟩
  · rw [cell_of_row _ _ 0 _ _ _ h2]; rfl
  · rw [cell_of_row _ _ 1 _ _ _ h2]; rfl
  · rw [cell_of_row _ _ 15 _ _ _ h2]; rfl
theorem c_SWkeys {w : World} {f : Nat → Nat} {c db b : Nat} {es : List EN} (h : SlowO w f c db b es) (hbb : b ≤ 100000) (tv : Value) :
    Calls Tryz.prog 205 #[.pointer (some ⟨db, 0, none⟩), tv] w fun e w' => ∃ (v : Value) (l : List KK), e = .returned v ∧ RdK w' v l ∧ l.map pk = gk (live es) ∧ (∀ x ∈ l, okK x) ∧ Below w.heap.size w w' := by
  obtain ⟨mb, n, g, lv, h1, h2, h3, h4, h5, h6, h7⟩ := h
  have hel : es.length ≤ 100000 := by omega
  have c1 : w.cell? ⟨db, 1, none⟩ = some lv := by rw [cell_of_row _ _ 1 _ _ _ h1.1]; rfl
  have hlf : ∃ q cp, lv = .slice q es.length cp := by
    rcases h2.1.2 with ⟨e, h⟩ | ⟨g, cap, cur, e, _⟩
    · rw [h]; exact ⟨_, _, e⟩
    · exact ⟨_, _, e⟩
  obtain ⟨q, cp, rfl⟩ := hlf
  obtain ⟨i0, hi0, hz0, hz1, hz2⟩ := info_parts infoKey
  replace h2 := Lib.hid h2
  replace h5 := Lib.hid h5
  clear h1 h3 h4 h6 h7
  go_enter Tryz.func205, Tryz.ntmps205
  go_wp2
  go_loopw [5, 13] (fun v vi wr => ∃ i : Nat, i ≤ es.length ∧ vi = .int .i64 (i : Int) ∧ wr.ownsRow w.heap.size 43 2 v (lkeys (es.take i)).length (flatK (lkeys (es.take i))) ∧ Below w.heap.size w wr) (fun _ vi _ => es.length - (intOf vi).toNat)
  case atStart => exact ⟨0, by omega, rfl, ⟨rfl, .inl ⟨rfl, rfl⟩⟩, Below.refl _ _⟩
  case round =>
    obtain ⟨i, hi, rfl, hown, hbel⟩ := hrel
    rcases Nat.lt_or_ge i es.length with hlt | hge
    · obtain ⟨g', cap, heq, g1, g2⟩ := h2.out.1.form (by omega)
      injection heq with e1 e2 e3
      subst e1
      subst e3
      clear e2
      obtain ⟨en, hen⟩ : ∃ en, es[i]? = some en := ⟨_, List.getElem?_eq_getElem hlt⟩
      have hrg := range_at (rangeE h2.out.1 hen) (hbel.block g' g2)
      have hi16 : (Tryz.prog.info? 166).map (·.size) = some (encN en).length := infoEntryS
      have hj16 : (Tryz.prog.info? 166).map (·.size) = some (encN en).toArray.size := infoEntryS
      have ho16 := all_oneCell_toArray (encN_one en)
      have q1 : (0 : Int) ≤ (i : Int) := by omega
      have q2 : (i : Int) < (es.length : Int) := by omega
      have hfs := fresh_cells (w := wr) en
      have hth : (wr.alloc (.cells zeroN 166)).there wr.heap.size 0 (encN en).toArray.size := zeroN_there wr
      have htk := lkeys_snoc (es.take i) en
      rw [← take_get hen] at htk
      have hlk := lkeys_len (es.take i)
      have hlt2 : (es.take i).length ≤ i := List.length_take_le _ _
      have hsz := hbel.size
      obtain ⟨⟨k0, kn⟩, p, gn⟩ := en
      dsimp only at *
      generalize encN ⟨(k0, kn), p, gn⟩ = E at *
      replace hfs := Lib.hid hfs
      replace htk := Lib.hid htk
      replace hlk := Lib.hid hlk
      replace hlt2 := Lib.hid hlt2
      replace hown := Lib.hid hown
      replace hbel := Lib.hid hbel
      clear hen
      have tokA : True := trivial
      have tokB : True := trivial
      cases gn with
      | true =>
        have hown2 := Lib.hid (htk.out)
        go_wp2_with (first | (clear tokA; refine wpList_load_mid rfl 166 (.tmp 15) rfl g' (i * 16) rfl E _ hrg Tryz.underlying166 rfl hi16 ?_) | (clear tokB; refine wpList_store_mid rfl 166 (.tmp 7) (.tmp 16) rfl wr.heap.size 0 E.toArray rfl rfl hth hj16 ho16 ?_; obtain ⟨hb4, d0, d1, d2⟩ := hfs.out; generalize hW4 : World.setCells _ _ _ _ = W4; rw [show (wr.alloc (.cells zeroN 166)).setCells wr.heap.size 0 E = W4 from hW4] at hb4 d0 d1 d2; clear hW4 hth hrg; replace hb4 := Lib.hid hb4))
        go_roundw
        case rel =>
          refine ⟨i + 1, by omega, by go_num, ?_, hbel.out.trans (hb4.out.mono hsz)⟩
          rw [htk.out]
          exact own_at hown.out fun r hr => hb4.out.block r (hown.out.lt r hr).2
        case measure => simp [intOf]; omega
      | false =>
        go_wp2_with (first | (clear tokA; refine wpList_load_mid rfl 166 (.tmp 15) rfl g' (i * 16) rfl E _ hrg Tryz.underlying166 rfl hi16 ?_) | (clear tokB; refine wpList_store_mid rfl 166 (.tmp 7) (.tmp 16) rfl wr.heap.size 0 E.toArray rfl rfl hth hj16 ho16 ?_; obtain ⟨hb4, d0, d1, d2⟩ := hfs.out; generalize hW4 : World.setCells _ _ _ _ = W4; rw [show (wr.alloc (.cells zeroN 166)).setCells wr.heap.size 0 E = W4 from hW4] at hb4 d0 d1 d2; clear hW4 hth hrg; have hown4 := own_at hown.out fun r hr => hb4.block r (hown.out.lt r hr).2; have hs4 := Nat.le_trans hsz hb4.size; replace hb4 := Lib.hid hb4) | (at_builtin; refine wpList_append_lies _ (by rfl) _ _ _ (by rfl) w.heap.size 43 i0 _ 2 24 Tryz.underlying132 hi0 hz0 hz1 hz2 rfl (by omega) u5 (lkeys (es.take i)).length (flatK (lkeys (es.take i))) (by rfl) (hown4.alloc _) ⟨_, 0, none⟩ 1 1 [.string k0, .int .i64 kn] (by rfl) (by rfl) (World.news_of_block (cs := #[.string k0, .int .i64 kn]) (t := 43) (fr := (0, 0)) (by exact heap_alloc_new _ _)) (by simp [Value.oneCell']) (by omega) (by have := hlk.out; have := hlt2.out; have := hel; unfold maxLen; omega) (by have := hlk.out; have := hlt2.out; have := hel; omega) (by simp; omega) _ rfl ?_; intro gg cap w5 hown5 hgrow hat hlt5; have hbel5 := Lib.hid (((hbel.out.trans (hb4.out.mono hsz)).alloc hs4 _).grown hgrow (by simp; omega) (own_base hown.out)); clear hgrow hat hlt5))
        go_roundw
        case rel =>
          refine ⟨i + 1, by omega, by go_num, ?_, hbel5.out⟩
          rw [htk.out]
          simpa [flatK_app, flatK, encK] using hown5
        case measure => simp [intOf]; omega
    · obtain rfl : i = es.length := by omega
      rw [List.take_length] at hown
      replace hown := Lib.hid hown
      replace hbel := Lib.hid hbel
      go_wp2
      go_ret
      exact ⟨_, lkeys es, rfl, own_rdk hown.out, lkeys_pk es, lkeys_ok h5.out, hbel.out⟩
end Go.Proofs.YtkbohoolnpaleaaGreatDoor

/-
  Contracts: What a heap tells of a key. What a heap tells of a key: the walks. The keys of an object, in order. Fast; Force of an object that is a dictionary already. Force: what holds at each round; the object behind it. Force of a fast object: the walk. The fields of a property that count. Put: the heap behind it.
-/
import Derived.Test.YtkbohoolnpaleaaGreatDoorW12
namespace Go.Proofs.YtkbohoolnpaleaaGreatDoor
open Go.RowKit Go.Shelf Go.Lib Go.Sort Go.Proofs Go.Maps
set_option maxHeartbeats 2000000
set_option maxRecDepth 100000

/-- what a list tells of a key -/
def getL (l : List (KK × PV)) (x : KK) : Option PV := (idx (gk l) x).bind fun i => l[i]?.map Prod.snd
def tellV (x : Option PV) : Value := .tuple #[propV (x.getD zeroPV), .bool x.isSome]
theorem gk_zip {ks : List KK} {ps : List PV} (h : ks.length = ps.length) : gk (ks.zip ps) = ks := by
  unfold gk
  rw [List.map_fst_zip (by omega)]
theorem zip_get {ks : List KK} {ps : List PV} {i : Nat} {k : KK} {p : PV} (hk : ks[i]? = some k) (hp : ps[i]? = some p) : (ks.zip ps)[i]? = some (k, p) := by
  rw [List.getElem?_zip_eq_some]; exact ⟨hk, hp⟩
theorem getL_some {l : List (KK × PV)} {x : KK} {i : Nat} {p : PV} (h : idx (gk l) x = some i) (hp : l[i]? = some (x, p)) : getL l x = some p := by unfold getL; rw [h]; simp [hp]
theorem getL_none {l : List (KK × PV)} {x : KK} (h : idx (gk l) x = none) : getL l x = none := by unfold getL; rw [h]; rfl
/-- the contract of own, at an object's mode -/
theorem mode_own {w : World} {f : Nat → Nat} {tb c B : Nat} {L : List (List KK)} {mv : Value} {fast : Bool} {l : List (KK × PV)} (hN : Norm f w) (hT : TreeO w f tb L) (h : ModeO w f c L B mv fast l) (k : KK) (hk : okK k) :
    ∃ (T : TypeId) (b fn : Nat), mv = .iface T (ptrV b) ∧ (∀ y, (nilAhead 395 T (ptrV b) "lintel/heap.own").run Tryz.prog y = .ok (some false) y) ∧ (∀ y, (method 395 T (ptrV b) "lintel/heap.own").run Tryz.prog y = .ok (fn, ptrV b) y) ∧ (∀ args y, (callFunc fn args).run Tryz.prog y = .ok (.enter fn args) y) ∧
      Calls Tryz.prog fn #[ptrV b, ptrV tb, .pointer none, keyV k.1 k.2] w fun e w' => Below w.heap.size w w' ∧ e = .returned (tellV (getL l (pk k))) := by
  rcases h with ⟨_, fb, ks, ps, rfl, h1, h2, rfl⟩ | ⟨_, db, es, rfl, h1, rfl⟩
  · have hlen : ks.length = ps.length := by obtain ⟨_, _, _, _, _, h4⟩ := h1; exact h4
    refine ⟨_, _, 193, rfl, fun y => by kernel_rfl, fun y => by kernel_rfl, Tryz.call193, ?_⟩
    refine (c_FAown hN hT h1 k hk).mono ?_
    rintro e w' ⟨hb, ⟨i, p, q1, q2, rfl⟩ | ⟨q1, rfl⟩⟩
    · refine ⟨hb, ?_⟩
      rw [getL_some (by rw [gk_zip hlen]; exact q1) (zip_get (idx_some q1) q2)]; rfl
    · refine ⟨hb, ?_⟩
      rw [getL_none (by rw [gk_zip hlen]; exact q1)]; rfl
  · refine ⟨_, _, 206, rfl, fun y => by kernel_rfl, fun y => by kernel_rfl, Tryz.call206, ?_⟩
    refine (c_SWown h1 _ _ k hk).mono ?_
    rintro e w' ⟨hb, ⟨i, p, q1, q2, rfl⟩ | ⟨q1, rfl⟩⟩
    · exact ⟨hb, by rw [getL_some q1 q2]; rfl⟩
    · exact ⟨hb, by rw [getL_none q1]; rfl⟩
/-- a block of thirteen cells -/
def ZB (y : World) (b : Nat) : Prop := ∃ cs : Array Value, y.heap[b]? = some (.cells cs 39 (0, 0)) ∧ cs.size = 13
theorem ZB.store {y : World} {b : Nat} (h : ZB y b) (p : PV) : (storeCells ⟨b, 0, none⟩ (encP p)).run Tryz.prog y = .ok () (y.setCells b 0 (encP p)) := by
  obtain ⟨cs, h1, h2⟩ := h
  have hth := there_of (n := 13) (o := 0) h1 (by omega)
  have := run_storeCells_cells (P := Tryz.prog) b 0 (encP p) 0 y (fun j hj => by simpa using (hth j hj).1) (fun j hj => by simpa using (hth j hj).2) (encP_one p)
  simpa using this
theorem ZB.below {y y' : World} {b : Nat} (h : ZB y b) (hb : Below y.heap.size y y') : ZB y' b := by obtain ⟨cs, h1, h2⟩ := h; exact ⟨cs, (hb.block b (heapH_lt h1)).trans h1, h2⟩
/-- S of a region that fills a result's block -/
theorem zbS_drew {W : World} {zb : Nat} (h : ZB W zb) : ((∀ a : Addr, a.block < W.heap.size → a.block ≠ zb → W.drew.cell? a = W.cell? a) ∧ W.grownBy W.drew (some zb)) ∧ ZB W.drew zb := ⟨but_drew W zb, h⟩
theorem zbS_below {W y y' : World} {zb : Nat} (h : ((∀ a : Addr, a.block < W.heap.size → a.block ≠ zb → y.cell? a = W.cell? a) ∧ W.grownBy y (some zb)) ∧ ZB y zb) (hb : Below y.heap.size y y') :
    ((∀ a : Addr, a.block < W.heap.size → a.block ≠ zb → y'.cell? a = W.cell? a) ∧ W.grownBy y' (some zb)) ∧ ZB y' zb := ⟨but_below h.1 hb, h.2.below hb⟩
theorem zbS_set {W y : World} {zb : Nat} (h : ((∀ a : Addr, a.block < W.heap.size → a.block ≠ zb → y.cell? a = W.cell? a) ∧ W.grownBy y (some zb)) ∧ ZB y zb) (vs : List Value) :
    ((∀ a : Addr, a.block < W.heap.size → a.block ≠ zb → (y.setCells zb 0 vs).cell? a = W.cell? a) ∧ W.grownBy (y.setCells zb 0 vs) (some zb)) ∧ ZB (y.setCells zb 0 vs) zb := by
  obtain ⟨h1, cs, h4, h5⟩ := h
  obtain ⟨s1, s2, s3, s4⟩ := size_setCellsH zb vs 0 y
  refine ⟨⟨fun a ha hne => ?_, ⟨s2.trans h1.2.os, s3.trans h1.2.tape, s4.trans h1.2.output, by rw [s1]; exact h1.2.size, fun r hr hne => ?_⟩⟩, ⟨_, heap_setCells vs 0 y cs h4, by simp [setL_len, h5]⟩⟩
  · rw [World.cell?_of_block (heap_setCells_ne vs 0 y hne)]; exact h1.1 a ha hne
  · rw [heap_setCells_ne vs 0 y (fun e => hne (by rw [e]))]; exact h1.2.block r hr hne
end Go.Proofs.YtkbohoolnpaleaaGreatDoor
namespace Go.Proofs.YtkbohoolnpaleaaGreatDoor
open Go.RowKit Go.Shelf Go.Lib Go.Sort Go.Proofs Go.Maps
set_option maxHeartbeats 2000000
set_option maxRecDepth 100000

theorem c_HBy1 {w : World} {f : Nat → Nat} {hb B u : Nat} {lim : Int} {H : List OB} (hN : Norm f w) (h : HeapO w f hb lim u B H) (o : Nat) (a : OB) (h0 : 0 < o) (ho : H[o - 1]? = some a) (k : KK) (hk : okK k) :
    Calls Tryz.prog 24 #[ptrV hb, .pointer none, .int .i64 (o : Int), keyV k.1 k.2] w fun e w' => Below w.heap.size w w' ∧ e = .returned (tellV (getL a.l (pk k))) := by
  obtain ⟨tb, L, rv, obs, hX⟩ := h
  obtain ⟨rb, c, ob, many, mv, n, ⟨c4, p1, p2, q0⟩, r1, r2, r3, r4, r5⟩ := HeapX.obj hX h0 ho
  unfold keyV
  obtain ⟨k0, kn⟩ := k
  dsimp only
  obtain ⟨W2, hW2⟩ : ∃ W2, (w.alloc (.cells #[.string k0, .int .i64 kn] 43)).alloc (.cells (encP zeroPV).toArray 39) = W2 := ⟨_, rfl⟩
  have hb2 : Below w.heap.size w W2 := by rw [← hW2]; exact ((Below.refl _ w).alloc (Nat.le_refl _) _).alloc (by simp) _
  have hs2 : W2.heap.size = w.heap.size + 2 := by rw [← hW2]; simp
  have d0 : W2.heap[w.heap.size]? = some (.cells #[.string k0, .int .i64 kn] 43 (0, 0)) := by rw [← hW2, Below.heap_alloc _ _ _ (by simp)]; exact heap_alloc_new w _
  have z0 : W2.heap[w.heap.size + 1]? = some (.cells (encP zeroPV).toArray 39 (0, 0)) := by rw [← hW2]; exact heap_alloc2_new w _ _
  have kc0 : W2.cell? ⟨w.heap.size, 0, none⟩ = some (.string k0) := by rw [cell_of_row _ _ 0 _ _ _ d0]; rfl
  have kc1 : W2.cell? ⟨w.heap.size, 1, none⟩ = some (.int .i64 kn) := by rw [cell_of_row _ _ 1 _ _ _ d0]; rfl
  have hN2 : Norm f W2.drew := fun r hr => hN r (Nat.le_trans hb2.size hr)
  have hX2 := (HeapX.heap hX).below hN hb2
  have hH := c_HHas hX2 (o : Int)
  rw [hasH_of h0 ho] at hH
  have c3 : w.cell? ⟨hb, 3, none⟩ = some (ptrV tb) := by rw [cell_of_row _ _ 3 _ _ _ hX.1.1]; rfl
  have q4 : w.cell? ⟨ob, 4, none⟩ = some mv := by rw [cell_of_row _ _ 4 _ _ _ r2.1]; rfl
  have hT0 : Turn (fun _ => False) f f w W2.drew := Turn.of_below _ hN hb2.drew
  obtain ⟨T, mb, fn, rfl, m1, m2, mc, m3⟩ := mode_own hN2 (hX.2.1.1.turn hT0 id id id id) (r3.keep hT0 id (fun _ _ h => h) (Nat.le_refl _)) (k0, kn) hk
  have e4 := hb2.cell (p := ⟨hb, 4, none⟩) r4.1
  have e3 := hb2.cell (p := ⟨hb, 3, none⟩) r4.1
  have e0 := hb2.cell (p := ⟨rb, o, none⟩) r4.2.1
  have e5 := hb2.cell (p := ⟨ob, 4, none⟩) r4.2.2
  rw [← e4] at c4
  rw [← e3] at c3
  rw [← e0] at q0
  rw [← e5] at q4
  have t1 : w.heap.size < W2.heap.size := by omega
  have t2 : hb < W2.heap.size := by omega
  have t3 : rb < W2.heap.size := by omega
  have t4 : ob < W2.heap.size := by omega
  have u1 : w.heap.size ≠ w.heap.size + 1 := by omega
  have u2 : hb ≠ w.heap.size + 1 := by omega
  have u3 : rb ≠ w.heap.size + 1 := by omega
  have u4 : ob ≠ w.heap.size + 1 := by omega
  have hzb := zbS_drew (W := W2) (zb := w.heap.size + 1) ⟨_, z0, rfl⟩
  unfold ptrV keyV at *
  unfold tellV at m3 ⊢
  generalize hP : (getL a.l (pk (k0, kn))).getD zeroPV = P at *
  generalize hB : (getL a.l (pk (k0, kn))).isSome = bo at *
  unfold propV at m3 ⊢
  replace hH := Lib.hid hH
  replace m3 := Lib.hid m3
  replace hb2 := Lib.hid hb2
  replace hs2 := Lib.hid hs2
  replace z0 := Lib.hid z0
  simp only [encP, zeroPV, zeroVV] at hW2
  clear hX hX2 hT0 hN2 r1 r2 r3 r4 r5 ho hN e0 e3 e4 e5 hP hB d0
  have hst := fun (y : World) (hy : ZB y (w.heap.size + 1)) => hy.store P
  go_enter Tryz.func24, Tryz.ntmps24
  go_wp2_with (first | (go_at_call 20; refine hH.out.mono ?_; rintro e w1 ⟨rfl, e1⟩; cases e1))
  go_region_held3 (fun y => ((∀ a : Addr, a.block < W2.heap.size → a.block ≠ w.heap.size + 1 → y.cell? a = W2.cell? a) ∧ W2.grownBy y (some (w.heap.size + 1))) ∧ ZB y (w.heap.size + 1)) (first | with_reducible assumption | with_reducible exact hzb | with_reducible exact zbS_below (by assumption) (by assumption) | with_reducible exact zbS_set (by assumption) (encP P)) (first | (refine m3.out.mono ?_; rintro e y2 ⟨hb5, rfl⟩))
  all_goals
    have z2 : y2.heap[w.heap.size + 1]? = some (.cells (encP zeroPV).toArray 39 (0, 0)) := (hb5.block _ (by show _ < W2.heap.size; have := hs2.out; omega)).trans z0.out
    have hz := heap_setCells_all (t := 39) (vs := encP P) z2 rfl
    have hbel := below_setC (hb2.out.drew.trans (hb5.mono (show w.heap.size ≤ W2.drew.heap.size from hb2.out.size))) (b := w.heap.size + 1) (by omega) (encP P) 0
    generalize y2.setCells (w.heap.size + 1) 0 (encP P) = w6 at *
    replace hz := Lib.hid hz
    replace hbel := Lib.hid hbel
    clear hzb hst hb5 z2 m1 m2 mc
    go_wp2_with fail
    refine bodyPost_ret (results_cell_tmp_row rfl _ _ (w.heap.size + 1) 39 (encP P).toArray (0, 0) _ rfl rfl hz.out infoProp) rfl ?_
    exact ⟨hbel.out, rfl⟩
theorem c_HBy0 {w : World} {f : Nat → Nat} {hb B u : Nat} {lim : Int} {H : List OB} (hN : Norm f w) (h : HeapO w f hb lim u B H) (cv : Value) (o : Int) (ho : hasH H o = false) (k : KK) :
    Calls Tryz.prog 24 #[ptrV hb, cv, .int .i64 o, keyV k.1 k.2] w fun e w' => Below w.heap.size w w' ∧ e = .returned (tellV none) := by
  unfold keyV tellV
  obtain ⟨k0, kn⟩ := k
  dsimp only [Option.getD, Option.isSome]
  obtain ⟨W2, hW2⟩ : ∃ W2, (w.alloc (.cells #[.string k0, .int .i64 kn] 43)).alloc (.cells (encP zeroPV).toArray 39) = W2 := ⟨_, rfl⟩
  have hb2 : Below w.heap.size w W2 := by rw [← hW2]; exact ((Below.refl _ w).alloc (Nat.le_refl _) _).alloc (by simp) _
  have z0 : W2.heap[w.heap.size + 1]? = some (.cells (encP zeroPV).toArray 39 (0, 0)) := by rw [← hW2]; exact heap_alloc2_new w _ _
  have hH := c_HHas (h.below hN hb2) o
  rw [ho] at hH
  have hth := there_of (n := 13) (o := 0) z0 (by simp [encP])
  have hi13 : (Tryz.prog.info? 39).map (·.size) = some (encP zeroPV).toArray.size := infoProp
  have ho13 := all_oneCell_toArray (encP_one zeroPV)
  unfold ptrV at *
  replace hH := Lib.hid hH
  replace hb2 := Lib.hid hb2
  replace z0 := Lib.hid z0
  simp only [encP, zeroPV, zeroVV] at hW2
  clear h ho hN
  go_enter Tryz.func24, Tryz.ntmps24
  go_wp2_with (first | (go_at_call 20; refine hH.out.mono ?_; rintro e w1 ⟨rfl, e1⟩; cases e1) | (refine wpList_store_mid (by rfl) 39 _ _ (by rfl) (w.heap.size + 1) 0 (encP zeroPV).toArray (by rfl) (by rfl) hth hi13 ho13 ?_))
  have hz' := heap_setCells_all (t := 39) (vs := encP zeroPV) z0.out rfl
  refine bodyPost_ret (results_cell_tmp_row rfl _ _ (w.heap.size + 1) 39 (encP zeroPV).toArray (0, 0) _ rfl rfl hz' infoProp) rfl ?_
  exact ⟨below_setC hb2.out (by omega) _ _, rfl⟩
/-- the object of a number -/
def objH (H : List OB) (o : Int) : Option OB := if hasH H o then H[o.toNat - 1]? else none
theorem objH_cases (H : List OB) (o : Int) : (hasH H o = false ∧ objH H o = none) ∨ ∃ (n : Nat) (a : OB), o = (n : Int) ∧ 0 < n ∧ H[n - 1]? = some a ∧ objH H o = some a ∧ hasH H o = true := by
  unfold objH
  cases h : hasH H o with
  | false => exact .inl ⟨rfl, rfl⟩
  | true =>
    right
    unfold hasH at h
    simp at h
    obtain ⟨n, rfl⟩ := Int.eq_ofNat_of_zero_le (show 0 ≤ o by omega)
    have hn : n - 1 < H.length := by omega
    refine ⟨n, H[n - 1], rfl, by omega, List.getElem?_eq_getElem hn, ?_, rfl⟩
    simp [List.getElem?_eq_getElem hn]
/-- what a heap tells of a key -/
def ownH (H : List OB) (o : Int) (x : KK) : Option PV := (objH H o).bind fun a => getL a.l x
theorem c_HBy {w : World} {f : Nat → Nat} {hb B u : Nat} {lim : Int} {H : List OB} (hN : Norm f w) (h : HeapO w f hb lim u B H) (o : Int) (k : KK) (hk : okK k) :
    Calls Tryz.prog 24 #[ptrV hb, .pointer none, .int .i64 o, keyV k.1 k.2] w fun e w' => Below w.heap.size w w' ∧ e = .returned (tellV (ownH H o (pk k))) := by
  rcases objH_cases H o with ⟨h1, h2⟩ | ⟨n, a, rfl, h1, h2, h3, h4⟩
  · have : ownH H o (pk k) = none := by unfold ownH; rw [h2]; rfl
    rw [this]
    exact c_HBy0 hN h _ o h1 k
  · have : ownH H (n : Int) (pk k) = getL a.l (pk k) := by unfold ownH; rw [h3]; rfl
    rw [this]
    exact c_HBy1 hN h n a h1 h2 k hk
theorem c_HOwn {w : World} {f : Nat → Nat} {hb B u : Nat} {lim : Int} {H : List OB} (hN : Norm f w) (h : HeapO w f hb lim u B H) (o : Int) (k : KK) (hk : okK k) :
    Calls Tryz.prog 9 #[ptrV hb, .int .i64 o, keyV k.1 k.2] w fun e w' => Below w.heap.size w w' ∧ e = .returned (tellV (ownH H o (pk k))) := by
  have hBy := fun (y : World) (hy : Below w.heap.size w y) => c_HBy (w := y) (fun r hr => hN r (Nat.le_trans hy.size hr)) (h.below hN hy) o k hk
  unfold keyV tellV at *
  generalize (ownH H o (pk k)).getD zeroPV = P at *
  generalize (ownH H o (pk k)).isSome = bo at *
  obtain ⟨k0, kn⟩ := k
  dsimp only at *
  obtain ⟨W2, hW2⟩ : ∃ W2, (w.alloc (.cells #[.string k0, .int .i64 kn] 43)).alloc (.cells (encP zeroPV).toArray 39) = W2 := ⟨_, rfl⟩
  have hb2 : Below w.heap.size w W2 := by rw [← hW2]; exact ((Below.refl _ w).alloc (Nat.le_refl _) _).alloc (by simp) _
  have z0 : W2.heap[w.heap.size + 1]? = some (.cells (encP zeroPV).toArray 39 (0, 0)) := by rw [← hW2]; exact heap_alloc2_new w _ _
  have d0 : W2.heap[w.heap.size]? = some (.cells #[.string k0, .int .i64 kn] 43 (0, 0)) := by rw [← hW2, Below.heap_alloc _ _ _ (by simp)]; exact heap_alloc_new w _
  have kc0 : W2.cell? ⟨w.heap.size, 0, none⟩ = some (.string k0) := by rw [cell_of_row _ _ 0 _ _ _ d0]; rfl
  have kc1 : W2.cell? ⟨w.heap.size, 1, none⟩ = some (.int .i64 kn) := by rw [cell_of_row _ _ 1 _ _ _ d0]; rfl
  have hi13 : (Tryz.prog.info? 39).map (·.size) = some (encP P).toArray.size := infoProp
  have ho13 := all_oneCell_toArray (encP_one P)
  have hBy := Lib.hid (hBy W2 hb2)
  have hst := fun (y : World) (hy : ZB y (w.heap.size + 1)) => hy.store P
  unfold ptrV propV at *
  replace hb2 := Lib.hid hb2
  replace z0 := Lib.hid z0
  replace d0 := Lib.hid d0
  simp only [encP, zeroPV, zeroVV] at hW2
  clear h hN
  rename_i hByo
  clear hByo
  go_enter Tryz.func9, Tryz.ntmps9
  go_wp2_with (first | (go_at_call 24; refine hBy.out.mono ?_; rintro e y2 ⟨hb5, rfl⟩; have hz2 : ZB y2 (w.heap.size + 1) := ZB.below ⟨_, z0.out, rfl⟩ hb5; clear kc0 kc1; replace hb5 := Lib.hid hb5))
  have z2 : y2.heap[w.heap.size + 1]? = some (.cells (encP zeroPV).toArray 39 (0, 0)) := (hb5.out.block _ (heapH_lt z0.out)).trans z0.out
  have hz := heap_setCells_all (t := 39) (vs := encP P) z2 rfl
  refine bodyPost_ret (results_cell_tmp_row rfl _ _ (w.heap.size + 1) 39 (encP P).toArray (0, 0) _ rfl rfl hz infoProp) rfl ?_
  exact ⟨below_setC (hb2.out.trans (hb5.out.mono hb2.out.size)) (by omega) _ _, rfl⟩
end Go.Proofs.YtkbohoolnpaleaaGreatDoor
namespace Go.Proofs.YtkbohoolnpaleaaGreatDoor
open Go.RowKit Go.Shelf Go.Lib Go.Sort Go.Proofs Go.Maps
set_option maxHeartbeats 2000000
set_option maxRecDepth 100000

/-- a list that has just these keys, in order -/
def KeysOf (ks Z : List KK) : Prop := ∃ l, l.map pk = ks ∧ Srt Z ∧ Eqv Z l ∧ ∀ x ∈ Z, okK x
theorem KeysOf.alike {ks Z Z' : List KK} (h : KeysOf ks Z) (h' : KeysOf ks Z') : Z.map pk = Z'.map pk := by
  obtain ⟨l, h1, h2, h3, _⟩ := h
  obtain ⟨l', h1', h2', h3', _⟩ := h'
  exact ord_eq h2 h3 h2' h3' (h1.trans h1'.symm)
theorem eqv_mem {a b : List KK} (h : Eqv a b) {x : KK} (hx : x ∈ a) : x ∈ b := by
  have h1 : x ∈ cls (rk x) a := by unfold cls; rw [List.mem_filter]; exact ⟨hx, by simp⟩
  rw [h (rk x)] at h1
  unfold cls at h1
  exact (List.mem_filter.1 h1).1
theorem mode_keys {w : World} {f : Nat → Nat} {tb c B : Nat} {L : List (List KK)} {mv : Value} {fast : Bool} {l : List (KK × PV)} (hN : Norm f w) (hT : TreeO w f tb L) (h : ModeO w f c L B mv fast l) (hB : B ≤ 100000) :
    ∃ (T : TypeId) (b fn : Nat), mv = .iface T (ptrV b) ∧ (∀ y, (nilAhead 395 T (ptrV b) "lintel/heap.keys").run Tryz.prog y = .ok (some false) y) ∧ (∀ y, (method 395 T (ptrV b) "lintel/heap.keys").run Tryz.prog y = .ok (fn, ptrV b) y) ∧ (∀ args y, (callFunc fn args).run Tryz.prog y = .ok (.enter fn args) y) ∧
      Calls Tryz.prog fn #[ptrV b, ptrV tb] w fun e w' => ∃ (v : Value) (ks : List KK), e = .returned v ∧ RdK w' v ks ∧ ks.map pk = gk l ∧ (∀ x ∈ ks, okK x) ∧ Below w.heap.size w w' := by
  rcases h with ⟨_, fb, ks, ps, rfl, h1, h2, rfl⟩ | ⟨_, db, es, rfl, h1, rfl⟩
  · have hlen : ks.length = ps.length := by obtain ⟨_, _, _, _, _, h4⟩ := h1; exact h4
    refine ⟨_, _, 68, rfl, fun y => by kernel_rfl, fun y => by kernel_rfl, Tryz.call68, ?_⟩
    rw [gk_zip hlen]
    exact c_FAkeys hN hT h1 (by omega)
  · exact ⟨_, _, 205, rfl, fun y => by kernel_rfl, fun y => by kernel_rfl, Tryz.call205, c_SWkeys h1 hB _⟩
theorem mode_len {w : World} {f : Nat → Nat} {c B : Nat} {L : List (List KK)} {mv : Value} {fast : Bool} {l : List (KK × PV)} (h : ModeO w f c L B mv fast l) (hB : 128 ≤ B) : l.length ≤ B := by
  rcases h with ⟨_, fb, ks, ps, rfl, h1, h2, rfl⟩ | ⟨_, db, es, rfl, h1, rfl⟩
  · rw [List.length_zip]; omega
  · obtain ⟨mb, n, g, lv, _, _, _, h4, _⟩ := h1
    have : (live es).length ≤ es.length := List.length_filterMap_le _ _
    omega
theorem c_HKeys0 {w : World} {f : Nat → Nat} {hb B u : Nat} {lim : Int} {H : List OB} (h : HeapO w f hb lim u B H) (o : Int) (ho : hasH H o = false) :
    Calls Tryz.prog 63 #[ptrV hb, .int .i64 o] w fun e w' => e = .returned (.slice none 0 0) ∧ w' = w := by
  have hH := c_HHas h o
  rw [ho] at hH
  replace hH := Lib.hid hH
  clear h ho
  go_enter Tryz.func63, Tryz.ntmps63
  go_wp2_with (go_at_call 20; refine hH.out.mono ?_; rintro e w1 ⟨rfl, rfl⟩)
  go_ret
  exact ⟨rfl, rfl⟩
theorem c_HKeys1 {w : World} {f : Nat → Nat} {hb B u : Nat} {lim : Int} {H : List OB} (hN : Norm f w) (h : HeapO w f hb lim u B H) (hB1 : 128 ≤ B) (hB : B ≤ 100000) (o : Nat) (a : OB) (h0 : 0 < o) (ho : H[o - 1]? = some a) :
    Calls Tryz.prog 63 #[ptrV hb, .int .i64 (o : Int)] w fun e w' => ∃ v Z, e = .returned v ∧ RdK w' v Z ∧ KeysOf (gk a.l) Z ∧ Below w.heap.size w w' := by
  have hH := c_HHas h (o : Int)
  rw [hasH_of h0 ho] at hH
  obtain ⟨tb, L, rv, obs, hX⟩ := h
  obtain ⟨rb, c, ob, many, mv, n, ⟨c4, p1, p2, q0⟩, r1, r2, r3, r4, r5⟩ := HeapX.obj hX h0 ho
  have hll := mode_len r3 hB1
  have c3 : w.cell? ⟨hb, 3, none⟩ = some (ptrV tb) := by rw [cell_of_row _ _ 3 _ _ _ hX.1.1]; rfl
  have q4 : w.cell? ⟨ob, 4, none⟩ = some mv := by rw [cell_of_row _ _ 4 _ _ _ r2.1]; rfl
  have hT0 : Turn (fun _ => False) f f w w.drew := Turn.of_below _ hN (Below.refl _ w).drew
  obtain ⟨T, mb, fn, rfl, m1, m2, mc, m3⟩ := mode_keys (w := w.drew) hN (hX.2.1.1.turn hT0 id id id id) (r3.keep hT0 id (fun _ _ h => h) (Nat.le_refl _)) hB
  obtain ⟨t1, t2, t3⟩ := r4
  have hkO : ∀ (y : World) (v : Value) (ks : List KK), RdK y v ks → ks.map pk = gk a.l → (∀ x ∈ ks, okK x) → Calls Tryz.prog 83 #[v] y fun e w' => ∃ v' Z, e = .returned v' ∧ RdK w' v' Z ∧ KeysOf (gk a.l) Z ∧ Below y.heap.size y w' := by
    intro y v ks k1 k2 k3
    have hl : ks.length = a.l.length := by rw [← List.length_map (f := pk), k2]; simp [gk]
    refine (c_Order v ks (by omega) (fun x hx => (k3 x hx).1) y k1).mono ?_
    rintro e w' ⟨v', Z, rfl, z1, z2, z3, z4⟩
    exact ⟨v', Z, rfl, z1, ⟨ks, k2, z2, z3, fun x hx => k3 x (eqv_mem z3 hx)⟩, z4⟩
  replace hkO := Lib.hid hkO
  unfold ptrV at *
  replace hH := Lib.hid hH
  replace m3 := Lib.hid m3
  replace hll := Lib.hid hll
  clear hX r1 r2 r3 r5 ho hN hT0
  go_enter Tryz.func63, Tryz.ntmps63
  go_wp2_with (first | (go_at_call 20; refine hH.out.mono ?_; rintro e w1 ⟨rfl, e1⟩; cases e1))
  go_region_held3 (fun y => (∀ a : Addr, a.block < w.heap.size → y.cell? a = w.cell? a) ∧ (∀ b : Nat, b < w.heap.size → y.heap[b]? = w.heap[b]?) ∧ Below w.heap.size w y) (first | with_reducible assumption | with_reducible exact onto_drew w | with_reducible exact onto_below (by assumption) (by assumption)) (first | (go_at_call 83; with_reducible refine (hkO.out _ _ _ hk1 hk2 hk3).mono ?_; rintro e y3 ⟨v', Z, rfl, hZ1, hZ2, hbZ⟩) | (refine m3.out.mono ?_; rintro e y2 ⟨v, ks, rfl, hk1, hk2, hk3, hbk⟩))
  all_goals
    have hbel := ((Below.refl w.heap.size w).drew.trans (hbk.mono (Nat.le_refl _))).trans (hbZ.mono hbk.size)
    replace hZ1 := Lib.hid hZ1
    replace hZ2 := Lib.hid hZ2
    replace hbel := Lib.hid hbel
    clear hk1 hk2 hk3 hbk hbZ
    go_wp2
    go_ret
    exact ⟨v', Z, rfl, hZ1.out, hZ2.out, hbel.out⟩
end Go.Proofs.YtkbohoolnpaleaaGreatDoor
namespace Go.Proofs.YtkbohoolnpaleaaGreatDoor
open Go.RowKit Go.Shelf Go.Lib Go.Sort Go.Proofs Go.Maps
set_option maxHeartbeats 2000000
set_option maxRecDepth 100000

theorem mode_iface {w : World} {f : Nat → Nat} {c B : Nat} {L : List (List KK)} {mv : Value} {fast : Bool} {l : List (KK × PV)} (h : ModeO w f c L B mv fast l) : ∃ (T : TypeId) (b : Nat), mv = .iface T (ptrV b) ∧ T = (if fast then 108 else 142) := by
  rcases h with ⟨rfl, fb, ks, ps, rfl, _⟩ | ⟨rfl, db, es, rfl, _⟩
  · exact ⟨_, _, rfl, rfl⟩
  · exact ⟨_, _, rfl, rfl⟩
theorem ta_ff (a : Addr) (w : World) : (Instr.typeAssert (.iface 108 (.pointer (some a))) 92 108 true).run Tryz.prog w = .ok (.tuple #[.pointer (some a), .bool true]) w := by kernel_rfl
theorem ta_sf (a : Addr) (w : World) : (Instr.typeAssert (.iface 142 (.pointer (some a))) 92 108 true).run Tryz.prog w = .ok (.tuple #[.pointer none, .bool false]) w := by kernel_rfl
theorem ta_ss (a : Addr) (w : World) : (Instr.typeAssert (.iface 142 (.pointer (some a))) 92 142 true).run Tryz.prog w = .ok (.tuple #[.pointer (some a), .bool true]) w := by kernel_rfl
theorem c_HForce0 {w : World} {f : Nat → Nat} {hb B u : Nat} {lim : Int} {H : List OB} (h : HeapO w f hb lim u B H) (o : Int) (ho : hasH H o = false) :
    Calls Tryz.prog 47 #[ptrV hb, .int .i64 o] w fun e w' => e = .returned (.int .i64 151) ∧ w' = w := by
  have hH := c_HHas h o
  rw [ho] at hH
  replace hH := Lib.hid hH
  clear h ho
  go_enter Tryz.func47, Tryz.ntmps47
  go_wp2_with (go_at_call 20; refine hH.out.mono ?_; rintro e w1 ⟨rfl, rfl⟩)
  go_ret
  exact ⟨rfl, rfl⟩
theorem c_HForce1 {w : World} {f : Nat → Nat} {hb B u : Nat} {lim : Int} {H : List OB} (h : HeapO w f hb lim u B H) (o : Nat) (a : OB) (h0 : 0 < o) (ho : H[o - 1]? = some a) (hf : a.fast = false) :
    Calls Tryz.prog 47 #[ptrV hb, .int .i64 (o : Int)] w fun e w' => e = .returned (.int .i64 0) ∧ w' = w := by
  have hH := c_HHas h (o : Int)
  rw [hasH_of h0 ho] at hH
  obtain ⟨tb, L, rv, obs, hX⟩ := h
  obtain ⟨rb, c, ob, many, mv, n, ⟨c4, p1, p2, q0⟩, r1, r2, r3, r4, r5⟩ := HeapX.obj hX h0 ho
  obtain ⟨T, mb, rfl, hT⟩ := mode_iface r3
  have q4 : w.cell? ⟨ob, 4, none⟩ = some (.iface T (ptrV mb)) := by rw [cell_of_row _ _ 4 _ _ _ r2.1]; rfl
  unfold ptrV at *
  replace hH := Lib.hid hH
  clear hX r1 r2 r3 r4 r5 ho
  rw [hf] at hT
  obtain rfl : T = 142 := by simpa using hT
  clear hT
  have ta2 := ta_sf
  go_enter Tryz.func47, Tryz.ntmps47
  go_wp2_with (go_at_call 20; refine hH.out.mono ?_; rintro e w1 ⟨rfl, rfl⟩)
  go_ret
  exact ⟨rfl, rfl⟩
end Go.Proofs.YtkbohoolnpaleaaGreatDoor
namespace Go.Proofs.YtkbohoolnpaleaaGreatDoor
open Go.RowKit Go.Shelf Go.Lib Go.Sort Go.Proofs Go.Maps
set_option maxHeartbeats 2000000
set_option maxRecDepth 100000

/-- a number that no block's owner has -/
theorem fresh_owner {f : Nat → Nat} {w : World} (hN : Norm f w) : ∃ t, 10 ≤ t ∧ ∀ r, f r ≠ t := by
  have : ∀ n, ∃ m, ∀ r, r < n → f r < m := by
    intro n
    induction n with
    | zero => exact ⟨0, fun r h => absurd h (Nat.not_lt_zero _)⟩
    | succ n ih =>
      obtain ⟨m, hm⟩ := ih
      refine ⟨m + f n + 1, fun r hr => ?_⟩
      rcases Nat.lt_or_ge r n with h | h
      · have := hm r h; omega
      · obtain rfl : r = n := by omega
        omega
  obtain ⟨m, hm⟩ := this w.heap.size
  refine ⟨m + 10, by omega, fun r e => ?_⟩
  rcases Nat.lt_or_ge r w.heap.size with h | h
  · have := hm r h; omega
  · rw [hN r h] at e; omega
/-- the owner t becomes c -/
def relab (t c : Nat) (f : Nat → Nat) : Nat → Nat := fun r => if f r = t then c else f r
theorem relab_ne {t c : Nat} {f : Nat → Nat} {r : Nat} (h : f r ≠ t) : relab t c f r = f r := by simp [relab, h]
theorem relab_eq {t c : Nat} {f : Nat → Nat} {r : Nat} (h : f r = t) : relab t c f r = c := by simp [relab, h]
theorem relab_norm {t c : Nat} {f : Nat → Nat} {w : World} (h : Norm f w) (ht : 0 < t) : Norm (relab t c f) w := fun r hr => by rw [relab_ne (by rw [h r hr]; omega)]; exact h r hr
theorem Turn.relab {C : Nat → Prop} {t c : Nat} {f f' : Nat → Nat} {w w' : World} (h : Turn C f f' w w') (ht : 0 < t) (hf : ∀ r, f r ≠ t) : Turn C f (relab t c f') w w' :=
  ⟨h.os, h.tape, h.output, h.size, fun r hr => by rw [relab_ne (by rw [h.agree r hr]; exact hf r)]; exact h.agree r hr, relab_norm h.norm ht, h.block⟩
theorem RowO.relab {w : World} {f : Nat → Nat} {t c : Nat} {e : TypeId} {size : Nat} {v : Value} {n : Nat} {xs : List Value} (h : RowO w f t e size v n xs) : RowO w (relab t c f) c e size v n xs := ⟨h.1, fun r hr => relab_eq (h.2 r hr)⟩
theorem SlowO.relab {w : World} {f : Nat → Nat} {t c db b : Nat} {es : List EN} (h : SlowO w f t db b es) : SlowO w (relab t c f) c db b es := by
  obtain ⟨mb, n, g, lv, h1, h2, h3, h4⟩ := h
  exact ⟨mb, n, g, lv, ⟨h1.1, relab_eq h1.2⟩, h2.relab, ⟨h3.1, relab_eq h3.2⟩, h4⟩
/-- nothing that is owned has turned -/
theorem Turn.relabel {t c : Nat} {f f' : Nat → Nat} {w w' : World} (h : Turn (fun x => x = t) f f' w w') (ht : 0 < t) (hf : ∀ r, f r ≠ t) : Turn (fun _ => False) f (Go.Proofs.YtkbohoolnpaleaaGreatDoor.relab t c f') w w' :=
  ⟨h.os, h.tape, h.output, h.size, fun r hr => by rw [relab_ne (by rw [h.agree r hr]; exact hf r)]; exact h.agree r hr, relab_norm h.norm ht, fun r hr _ => h.block r hr (hf r)⟩
/-- the first i properties stand in the dictionary -/
def ForceI (w0 : World) (f0 : Nat → Nat) (t db : Nat) (l : List (KK × PV)) (i : Nat) (wr : World) : Prop :=
  ∃ (fr : Nat → Nat) (es : List EN), Turn (fun x => x = t) f0 fr w0 wr ∧ SlowO wr fr t db i es ∧ live es = l.take i
theorem putL_take {l : List (KK × PV)} (hn : (gk l).Nodup) {i : Nat} {x : KK} {p : PV} (hi : l[i]? = some (x, p)) : putL (l.take i) x p = l.take (i + 1) := by
  have hnot : idx (gk (l.take i)) x = none := by
    rw [idx_none]
    intro hm
    have e3 : gk l = gk (l.take i) ++ gk (l.drop i) := by unfold gk; rw [← List.map_append, List.take_append_drop]
    rw [e3, List.nodup_append] at hn
    have hd : x ∈ gk (l.drop i) := by
      have h0 : (l.drop i)[0]? = some (x, p) := by simpa using hi
      exact List.mem_map.2 ⟨(x, p), List.mem_of_getElem? h0, rfl⟩
    exact hn.2.2 _ hm _ hd rfl
  unfold putL
  rw [hnot, take_get hi]
theorem slow_new {w : World} {f : Nat → Nat} {t db mb : Nat} (h1 : w.heap[db]? = some (.cells #[.map (some mb), .slice none 0 0] 145 (0, 0))) (h2 : w.heap[mb]? = some (.map #[] 0)) (f1 : f db = t) (f2 : f mb = t) : SlowO w f t db 0 [] := by
  refine ⟨mb, 0, fun _ => none, .slice none 0 0, ⟨h1, f1⟩, ⟨⟨rfl, .inl ⟨rfl, rfl⟩⟩, fun r hr => by cases hr⟩, ⟨?_, f2⟩, ⟨Nat.le_refl _, Nat.le_refl _⟩, by simp, List.nodup_nil, fun x _ => rfl⟩
  obtain ⟨D, ⟨es, cl, h3, h4⟩, h5⟩ := MapG.made w 43 0
  rw [heap_alloc_new w (.map #[] 0)] at h3
  injection h3 with h3
  injection h3 with h3 h6
  subst h3
  subst h6
  exact ⟨D, ⟨#[], 0, h2, h4⟩, h5⟩
/-- a heap after one object has turned, its places named -/
def HeapTX (w : World) (f : Nat → Nat) (hb : Nat) (lim : Int) (u B : Nat) (H' : List OB) (tb : Nat) (rv : Value) (obs : List Nat) (w' : World) : Prop := ∃ f' L', Turn (fun c => c ≠ 9 ∧ c ≠ 0) f f' w w' ∧ HeapX w' f' hb lim u B H' tb L' rv obs ∧ Grows w f hb w' f'
theorem HeapTX.t {w w' : World} {f : Nat → Nat} {hb u B tb : Nat} {lim : Int} {H' : List OB} {rv : Value} {obs : List Nat} (h : HeapTX w f hb lim u B H' tb rv obs w') : HeapT w f hb lim u B H' w' := by
  obtain ⟨f', L', h1, h2, h3⟩ := h
  exact ⟨f', h1, h2.heap, h3⟩
theorem HeapTX.make {w w' : World} {f f' : Nat → Nat} {hb u u' B B' tb : Nat} {lim : Int} {H H' : List OB} {L L' : List (List KK)} {rv : Value} {obs : List Nat} (h : HeapX w f hb lim u B H tb L rv obs) (ht : Turn (fun c => c ≠ 9 ∧ c ≠ 0) f f' w w') (h' : HeapX w' f' hb lim u' B' H' tb L' rv obs) (hL : ∀ (i : Nat) ks, L[i]? = some ks → L'[i]? = some ks) : HeapTX w f hb lim u' B' H' tb rv obs w' :=
  ⟨f', L', ht, h', HeapX.grows ht.norm h h' hL⟩
/-- the heap, when the object's mode has been set -/
theorem force_done {w w6 : World} {f f6 : Nat → Nat} {hb B u tb db m : Nat} {lim : Int} {H : List OB} {L : List (List KK)} {rv : Value} {obs : List Nat} (h : HeapX w f hb lim u B H tb L rv obs) (hB1 : 128 ≤ B) {o : Nat} {a : OB} (ha : H[o - 1]? = some a) {ob : Nat} (ho : obs[o - 1]? = some ob) {many : Int} {mv : Value}
    (hob : w.heap[ob]? = some (.cells #[.int .i64 a.cls, .int .i64 a.pro, .bool a.shut, .int .i64 many, mv] 94 (0, 0)) ∧ f ob = 11 + 2 * (o - 1)) (ht : Turn (fun _ => False) f f6 w w6) (hm : m ≤ 128) {es : List EN} (hS : SlowO w6 f6 (10 + 2 * (o - 1)) db m es) (hl : live es = a.l) :
    HeapTX w f hb lim u B (H.set (o - 1) { a with fast := false }) tb rv obs (w6.setCell ⟨ob, 4, none⟩ (.iface 142 (ptrV db))) := by
  have q1 := blk_turn hob ht id
  have t1 : Turn (fun x => x = 11 + 2 * (o - 1)) f6 f6 w6 (w6.setCell ⟨ob, 4, none⟩ (.iface 142 (ptrV db))) := (Turn.refl _ ht.norm).set ob 4 _ q1.2
  have t2 : Turn (fun x => x = 11 + 2 * (o - 1)) f f6 w (w6.setCell ⟨ob, 4, none⟩ (.iface 142 (ptrV db))) := (ht.mono (fun _ h => h.elim)).trans t1
  obtain ⟨h1, h2, h3, h4, h5⟩ := id h
  have nhb : ob ≠ hb := fun e => by have := hob.2; rw [e, h1.2] at this; omega
  refine HeapTX.make h (t2.mono (fun x hx => by omega)) (h.upd ha ho t2 (fun x hx => by unfold CO; omega) ?_ (h2.1.turn t2 (by omega) (by omega) (by omega) (by omega)) (fun _ _ h => h) h2.2 (Nat.le_refl _) ?_) (fun _ _ h => h)
  · rw [Below.heap_setCell _ _ _ _ (fun e => nhb e.symm)]
    exact (blk_turn h1 ht id).1
  · refine ⟨many, .iface 142 (ptrV db), ⟨?_, by rw [q1.2]; omega⟩, .inr ⟨rfl, db, es, rfl, ?_, hl.symm⟩⟩
    · rw [heap_setCell_same w6 ob 4 _ _ _ q1.1]; rfl
    · exact (hS.turn t1 (by omega)).mono (by omega)
end Go.Proofs.YtkbohoolnpaleaaGreatDoor
namespace Go.Proofs.YtkbohoolnpaleaaGreatDoor
open Go.RowKit Go.Shelf Go.Lib Go.Sort Go.Proofs Go.Maps
set_option maxHeartbeats 2000000
set_option maxRecDepth 100000

theorem putS_drew (W : World) (f : Nat → Nat) (t : Nat) : ∀ a : Addr, a.block < W.heap.size → f a.block ≠ t → W.drew.cell? a = W.cell? a := fun _ _ _ => rfl
theorem putS_turn {W y : World} {f : Nat → Nat} {t db b : Nat} {l : List (KK × PV)} (h : PutD W.drew f t db b l y) : ∀ a : Addr, a.block < W.heap.size → f a.block ≠ t → y.cell? a = W.cell? a := fun a ha hne => by
  obtain ⟨f', es', h1, _⟩ := h
  exact World.cell?_of_block (w := W.drew) (h1.block a.block ha hne)
theorem key_not {w : World} {b o db mb : Nat} {s : ByteArray} (h : w.cell? ⟨b, o, none⟩ = some (.string s)) (h1 : w.heap[db]? = some (.cells #[.map (some mb), .slice none 0 0] 145 (0, 0))) (h2 : w.heap[mb]? = some (.map #[] 0)) : b ≠ db ∧ b ≠ mb := by
  constructor
  · rintro rfl
    rw [cell_of_row _ _ o _ _ _ h1] at h
    rcases o with _ | _ | o
    · simp at h
    · simp at h
    · simp at h
  · rintro rfl
    unfold World.cell? at h
    rw [h2] at h
    simp at h
theorem c_HForce2X {w : World} {f : Nat → Nat} {hb B u tb : Nat} {lim : Int} {H : List OB} {L : List (List KK)} {rv : Value} {obs : List Nat} (hN : Norm f w) (hX : HeapX w f hb lim u B H tb L rv obs) (hB1 : 128 ≤ B) (o : Nat) (a : OB) (h0 : 0 < o) (ho : H[o - 1]? = some a) (hf : a.fast = true) :
    Calls Tryz.prog 47 #[ptrV hb, .int .i64 (o : Int)] w fun e w' => e = .returned (.int .i64 0) ∧ HeapTX w f hb lim u B (H.set (o - 1) { a with fast := false }) tb rv obs w' := by
  have hH := c_HHas hX.heap (o : Int)
  rw [hasH_of h0 ho] at hH
  obtain ⟨rb, c, ob, many, mv, n, ⟨c4, p1, p2, q0⟩, r1, r2, r3, r4, r5⟩ := HeapX.obj hX h0 ho
  obtain ⟨fb, ks, ps, rfl, k1, k2, k3⟩ : ∃ fb ks ps, mv = .iface 108 (ptrV fb) ∧ FastO w f (10 + 2 * (o - 1)) fb L ks ps ∧ ks.length ≤ 128 ∧ a.l = ks.zip ps := by
    rcases r3 with ⟨_, h⟩ | ⟨h, _⟩
    · exact h
    · rw [hf] at h; cases h
  obtain ⟨t, ht10, hft⟩ := fresh_owner hN
  have q4 : w.cell? ⟨ob, 4, none⟩ = some (.iface 108 (ptrV fb)) := by rw [cell_of_row _ _ 4 _ _ _ r2.1]; rfl
  have c3 : w.cell? ⟨hb, 3, none⟩ = some (ptrV tb) := by rw [cell_of_row _ _ 3 _ _ _ hX.1.1]; rfl
  obtain ⟨W2, hW2⟩ : ∃ W2, (w.alloc (.map #[] 0)).alloc (.cells #[.map (some w.heap.size), .slice none 0 0] 145) = W2 := ⟨_, rfl⟩
  have hb2 : Below w.heap.size w W2 := by rw [← hW2]; exact ((Below.refl _ w).alloc (Nat.le_refl _) _).alloc (by simp) _
  have hs2 : W2.heap.size = w.heap.size + 2 := by rw [← hW2]; simp
  have d0 : W2.heap[w.heap.size]? = some (.map #[] 0) := by rw [← hW2, Below.heap_alloc _ _ _ (by simp)]; exact heap_alloc_new w _
  have d1 : W2.heap[w.heap.size + 1]? = some (.cells #[.map (some w.heap.size), .slice none 0 0] 145 (0, 0)) := by rw [← hW2]; exact heap_alloc2_new w _ _
  have hT2 : Turn (fun _ => False) f f w W2 := Turn.of_below _ hN hb2
  have hK := c_FAkeys hT2.norm (hX.2.1.1.turn hT2 id id id id) (k1.turn hT2 id (fun _ _ h => h)) (by omega)
  have hnd := shape_nodup hX.2.1.1 (s := k1.choose) (by obtain ⟨lv, _, _, h3, _⟩ := k1.choose_spec; exact h3)
  have e3 := hb2.cell (p := ⟨hb, 3, none⟩) r4.1
  rw [← e3] at c3
  have hmm := @run_makeMap Tryz.prog
  have ta1 := ta_ff
  have hlen : ks.length = ps.length := by obtain ⟨_, _, _, _, _, h4⟩ := k1; exact h4
  unfold ptrV at *
  replace hH := Lib.hid hH
  replace hK := Lib.hid hK
  replace hX := Lib.hid hX
  replace k1 := Lib.hid k1
  replace k3 := Lib.hid k3
  replace r2 := Lib.hid r2
  replace hs2 := Lib.hid hs2
  replace d0 := Lib.hid d0
  replace d1 := Lib.hid d1
  replace hnd := Lib.hid hnd
  replace hlen := Lib.hid hlen
  replace hft := Lib.hid hft
  replace hN := Lib.hid hN
  replace hb2 := Lib.hid hb2
  replace r1 := Lib.hid r1
  replace ho := Lib.hid ho
  clear r3 r5 e3 hT2 hf
  go_enter Tryz.func47, Tryz.ntmps47
  go_wp2_with (first | (go_at_call 20; refine hH.out.mono ?_; rintro e w1 ⟨rfl, e1⟩; cases e1) | (go_at_call 68; refine hK.out.mono ?_; rintro e w3 ⟨v, l, rfl, hl1, hl2, hl3, hbl⟩; obtain ⟨pk1, pc, rfl, _, _, hcell⟩ := hl1.form; replace hl2 := Lib.hid hl2; replace hl3 := Lib.hid hl3; replace hbl := Lib.hid hbl; replace hcell := Lib.hid hcell; clear hl1))
  have g0 : w3.heap[w.heap.size]? = some (.map #[] 0) := (hbl.out.block _ (heapH_lt d0.out)).trans d0.out
  have g1 : w3.heap[w.heap.size + 1]? = some (.cells #[.map (some w.heap.size), .slice none 0 0] 145 (0, 0)) := (hbl.out.block _ (heapH_lt d1.out)).trans d1.out
  have hbw : Below w.heap.size w w3 := hb2.out.trans (hbl.out.mono hb2.out.size)
  have T0 : Turn (fun _ => False) f (give f w w3 (fun r => if r = w.heap.size ∨ r = w.heap.size + 1 then t else 0)) w w3 := (Turn.refl _ hN.out).give _ hbw.os hbw.tape hbw.output hbw.size (fun r hr _ => hbw.block r hr)
  have f1 : give f w w3 (fun r => if r = w.heap.size ∨ r = w.heap.size + 1 then t else 0) (w.heap.size + 1) = t := by rw [give_new (by omega) (heapH_lt g1)]; simp
  have f2 : give f w w3 (fun r => if r = w.heap.size ∨ r = w.heap.size + 1 then t else 0) w.heap.size = t := by rw [give_new (by omega) (heapH_lt g0)]; simp
  have f3 : ∀ r, r ≠ w.heap.size → r ≠ w.heap.size + 1 → give f w w3 (fun r => if r = w.heap.size ∨ r = w.heap.size + 1 then t else 0) r ≠ t := fun r h1 h2 => by
    unfold give
    split
    · exact hft.out r
    · split
      · simp [h1, h2]; omega
      · omega
  generalize give f w w3 (fun r => if r = w.heap.size ∨ r = w.heap.size + 1 then t else 0) = fz at *
  have hst : ForceI w3 fz t (w.heap.size + 1) (ks.zip ps) 0 w3 := ⟨fz, [], Turn.refl _ T0.norm, slow_new g1 g0 f1 f2, by simp [live]⟩
  replace hst := Lib.hid hst
  replace g0 := Lib.hid g0
  replace g1 := Lib.hid g1
  replace T0 := Lib.hid T0
  replace f1 := Lib.hid f1
  replace f2 := Lib.hid f2
  replace f3 := Lib.hid f3
  replace hbw := Lib.hid hbw
  have hl128 : l.length ≤ 128 := by have := congrArg List.length hl2.out; simp at this; omega
  clear hmm ta1 c3 c4 q0 q4 hW2 p1 p2
  go_loopw [41] (fun vi wr => ∃ i : Nat, i ≤ l.length ∧ vi = .int .i64 (i : Int) ∧ ForceI w3 fz t (w.heap.size + 1) (ks.zip ps) i wr) (fun vi _ => l.length - (intOf vi).toNat)
  case atStart => exact ⟨0, by omega, rfl, hst.out⟩
  case round =>
    obtain ⟨i, hi, rfl, fr, es, s1, s2, s3⟩ := hrel
    rcases Nat.lt_or_ge i l.length with hlt | hge
    · obtain ⟨kx, hkx⟩ : ∃ kx, l[i]? = some kx := ⟨_, List.getElem?_eq_getElem hlt⟩
      obtain ⟨b, oo, rfl, hbs, hcc⟩ := hcell.out i kx hkx
      obtain ⟨u1, u2⟩ := hcc w3 (Below.refl _ w3)
      obtain ⟨nb1, nb2⟩ := key_not u1 g1.out g0.out
      have hks : ks[i]? = some (pk kx) := by rw [← hl2.out]; simp [hkx]
      have hok := hl3.out kx (List.mem_of_getElem? hkx)
      have hkl : ks.length = l.length := by rw [← hl2.out]; simp
      obtain ⟨s, lv, j1, j2, j3, j4⟩ := k1.out
      obtain ⟨p, hp⟩ : ∃ p, ps[i]? = some p := ⟨_, List.getElem?_eq_getElem (by omega)⟩
      obtain ⟨g, cap, rfl, y1, y2⟩ := j2.1.form (by omega)
      have hg := (j2.1.lt g rfl).2
      have lfb := heapH_lt j1.1
      have kb : ∀ r, r < w3.heap.size → r ≠ w.heap.size → r ≠ w.heap.size + 1 → wr.heap[r]? = w3.heap[r]? := fun r h1 h2 h3 => s1.block r h1 (f3.out r h2 h3)
      have x1 : wr.heap[fb]? = some (.cells #[.int .i64 (s : Int), .slice (some ⟨g, 0, none⟩) ps.length cap] 111 (0, 0)) := ((kb fb (Nat.lt_of_lt_of_le lfb hbw.out.size) (by omega) (by omega)).trans (hbw.out.block fb lfb)).trans j1.1
      have x2 : wr.cell? ⟨fb, 1, none⟩ = some (.slice (some ⟨g, 0, none⟩) ps.length cap) := by rw [cell_of_row _ _ 1 _ _ _ x1]; rfl
      rw [← World.cell?_of_block (w := w3) (w' := wr) (a := ⟨b, oo + i * 2, none⟩) (kb b hbs nb2 nb1)] at u1
      rw [← World.cell?_of_block (w := w3) (w' := wr) (a := ⟨b, oo + i * 2 + 1, none⟩) (kb b hbs nb2 nb1)] at u2
      obtain ⟨v0, v1, v2, v3, v4, v5, v6, v7, v8, v9, v10, v11, v12⟩ := range13 (p := p) (range_at (range_of j2.1 hp) ((kb g (Nat.lt_of_lt_of_le hg hbw.out.size) (by omega) (by omega)).trans (hbw.out.block g hg)))
      have q1 : (0 : Int) ≤ (i : Int) := by omega
      have q2 : (i : Int) < (l.length : Int) := by omega
      have q3 : (i : Int) < (ps.length : Int) := by omega
      obtain ⟨W4, hW4⟩ : ∃ W4, wr.alloc (.cells #[.string kx.1, .int .i64 kx.2] 43) = W4 := ⟨_, rfl⟩
      have hb4 : Below wr.heap.size wr W4 := by rw [← hW4]; exact (Below.refl _ wr).alloc (Nat.le_refl _) _
      have d4 : W4.heap[wr.heap.size]? = some (.cells #[.string kx.1, .int .i64 kx.2] 43 (0, 0)) := by rw [← hW4]; exact heap_alloc_new wr _
      have s4 : Turn (fun x => x = t) fz fr w3 W4.drew := s1.trans (Turn.of_below _ s1.norm hb4.drew)
      have hP := c_SWput s4.norm (s2.turn (Turn.of_below (fun _ => False) s1.norm hb4.drew) id) (by omega) (.pointer none) kx hok p
      have hfin : ∀ y, PutD W4.drew fr t (w.heap.size + 1) i (putL (live es) (pk kx) p) y → ForceI w3 fz t (w.heap.size + 1) (ks.zip ps) (i + 1) y := by
        rintro y ⟨f', es', a1, a2, a3⟩
        refine ⟨f', es', s4.trans a1, a2, ?_⟩
        rw [a3, s3]
        exact putL_take (by rw [gk_zip hlen.out]; exact hnd.out) (zip_get hks hp)
      rw [s3] at hP
      have e1 : W4.cell? ⟨wr.heap.size, 0, none⟩ = some (.string kx.1) := by rw [cell_of_row _ _ 0 _ _ _ d4]; rfl
      have e2 : W4.cell? ⟨wr.heap.size, 1, none⟩ = some (.int .i64 kx.2) := by rw [cell_of_row _ _ 1 _ _ _ d4]; rfl
      rw [s3] at hfin
      have lw : wr.heap.size < W4.heap.size := heapH_lt d4
      have lf4 : fb < W4.heap.size := Nat.lt_trans (heapH_lt x1) lw
      have lg4 : g < W4.heap.size := Nat.lt_trans (Nat.lt_of_lt_of_le (Nat.lt_of_lt_of_le hg hbw.out.size) s1.size) lw
      have nf1 : fr fb ≠ t := by rw [s1.agree fb (Nat.lt_of_lt_of_le lfb hbw.out.size)]; exact f3.out fb (by omega) (by omega)
      have nf2 : fr g ≠ t := by rw [s1.agree g (Nat.lt_of_lt_of_le hg hbw.out.size)]; exact f3.out g (by omega) (by omega)
      have nf3 : fr wr.heap.size ≠ t := by rw [s1.norm _ (Nat.le_refl _)]; omega
      have hcl : ∀ (j : Nat) u, wr.cell? ⟨g, j, none⟩ = some u → W4.cell? ⟨g, j, none⟩ = some u := fun j u h => by rw [hb4.cell (p := ⟨g, j, none⟩) (Nat.lt_of_lt_of_le (Nat.lt_of_lt_of_le hg hbw.out.size) s1.size)]; exact h
      replace x2 : W4.cell? ⟨fb, 1, none⟩ = some (.slice (some ⟨g, 0, none⟩) ps.length cap) := by rw [hb4.cell (p := ⟨fb, 1, none⟩) (heapH_lt x1)]; exact x2
      replace v0 := hcl _ _ v0
      replace v1 := hcl _ _ v1
      replace v2 := hcl _ _ v2
      replace v3 := hcl _ _ v3
      replace v4 := hcl _ _ v4
      replace v5 := hcl _ _ v5
      replace v6 := hcl _ _ v6
      replace v7 := hcl _ _ v7
      replace v8 := hcl _ _ v8
      replace v9 := hcl _ _ v9
      replace v10 := hcl _ _ v10
      replace v11 := hcl _ _ v11
      replace v12 := hcl _ _ v12
      have hps := putS_drew W4 fr t
      obtain ⟨kx0, kxn⟩ := kx
      unfold keyV propV at hP
      dsimp only at *
      generalize putL (List.take i (ks.zip ps)) (pk (kx0, kxn)) p = LL at *
      replace hP := Lib.hid hP
      replace hfin := Lib.hid hfin
      replace hkx := Lib.hid hkx
      replace hks := Lib.hid hks
      replace hp := Lib.hid hp
      replace j1 := Lib.hid j1
      replace j2 := Lib.hid j2
      replace j3 := Lib.hid j3
      replace j4 := Lib.hid j4
      replace hkl := Lib.hid hkl
      replace s1 := Lib.hid s1
      replace s3 := Lib.hid s3
      replace s4 := Lib.hid s4
      replace d4 := Lib.hid d4
      replace x1 := Lib.hid x1
      replace kb := Lib.hid kb
      replace hcl := Lib.hid hcl
      replace hb4 := Lib.hid hb4
      clear hcc nb1 nb2 y1 y2 s2
      go_wp2_with fail
      go_region_held3 (fun y => ∀ a : Addr, a.block < W4.heap.size → fr a.block ≠ t → y.cell? a = W4.cell? a) (first | with_reducible assumption | with_reducible exact hps | exact putS_turn (by assumption)) (first | (go_at_call 69; refine hP.out.mono ?_; rintro e y5 ⟨rfl, hPD⟩))
      have hfn := hfin.out _ hPD
      clear v0 v1 v2 v3 v4 v5 v6 v7 v8 v9 v10 v11 v12 u1 u2 e1 e2 x2 hps hPD
      replace hfn := Lib.hid hfn
      go_wp2
      go_roundw
      case rel => exact ⟨i + 1, by omega, by go_num, hfn.out⟩
      case measure => simp [intOf]; omega
    · obtain rfl : i = l.length := by omega
      have hkl : ks.length = l.length := by rw [← hl2.out]; simp
      rw [List.take_of_length_le (by rw [List.length_zip]; omega), ← k3.out] at s3
      have t6 : Turn (fun x => x = t) f fr w wr := (T0.out.mono (fun _ h => h.elim)).trans s1
      have t7 := t6.relabel (c := 10 + 2 * (o - 1)) (by omega) hft.out
      have hfin := force_done hX.out hB1 ho.out r1.out r2.out t7 hl128 s2.relab s3
      have x1 := (blk_turn r2.out t7 id).1
      have q4 : wr.cell? ⟨ob, 4, none⟩ = some (.iface 108 (.pointer (some ⟨fb, 0, none⟩))) := by rw [cell_of_row _ _ 4 _ _ _ x1]; rfl
      have z4 : wr.frozen? ⟨ob, 4, none⟩ = false := by simp [World.frozen?, x1]
      unfold ptrV at hfin
      replace hfin := Lib.hid hfin
      replace s1 := Lib.hid s1
      replace s2 := Lib.hid s2
      replace s3 := Lib.hid s3
      replace t6 := Lib.hid t6
      replace t7 := Lib.hid t7
      replace x1 := Lib.hid x1
      replace hkl := Lib.hid hkl
      go_wp2
      go_ret
      exact ⟨rfl, hfin.out⟩
theorem c_HForce2 {w : World} {f : Nat → Nat} {hb B u : Nat} {lim : Int} {H : List OB} (hN : Norm f w) (h : HeapO w f hb lim u B H) (hB1 : 128 ≤ B) (o : Nat) (a : OB) (h0 : 0 < o) (ho : H[o - 1]? = some a) (hf : a.fast = true) :
    Calls Tryz.prog 47 #[ptrV hb, .int .i64 (o : Int)] w fun e w' => e = .returned (.int .i64 0) ∧ HeapT w f hb lim u B (H.set (o - 1) { a with fast := false }) w' := by
  obtain ⟨tb, L, rv, obs, hX⟩ := h
  refine (c_HForce2X hN hX hB1 o a h0 ho hf).mono ?_
  rintro e w' ⟨rfl, h⟩
  exact ⟨rfl, h.t⟩
end Go.Proofs.YtkbohoolnpaleaaGreatDoor
namespace Go.Proofs.YtkbohoolnpaleaaGreatDoor
open Go.RowKit Go.Shelf Go.Lib Go.Sort Go.Proofs Go.Maps
set_option maxHeartbeats 2000000
set_option maxRecDepth 100000

def keptP (p : PV) : PV := if 8 ≤ p.fl then { p with v := zeroVV } else { p with g := zeroVV, t := zeroVV }
theorem keptP_fl (p : PV) : (keptP p).fl = p.fl := by unfold keptP; split <;> rfl
theorem and8 (n : Int) (h0 : 0 ≤ n) (h15 : n ≤ 15) : bits BinOp.and IntKind.i64 n 8 = if 8 ≤ n then 8 else 0 := by
  have h : ∀ m : Fin 16, bits BinOp.and IntKind.i64 ((m : Nat) : Int) 8 = if (8 : Int) ≤ ((m : Nat) : Int) then 8 else 0 := by decide
  have := h ⟨n.toNat, by omega⟩
  have e : ((n.toNat : Nat) : Int) = n := by omega
  simpa [e] using this
theorem c_Hkept (p : PV) (h0 : 0 ≤ p.fl) (h15 : p.fl ≤ 15) (w : World) :
    Calls Tryz.prog 46 #[propV p] w fun e w' => e = .returned (propV (keptP p)) ∧ Below w.heap.size w w' := by
  have ha := and8 p.fl h0 h15
  have rsf := fun (w : World) (a : Addr) (x : Nat) => run_store Tryz.prog w a (.float .f64 x) .plain rfl
  have hb := two_belowH w
  by_cases h8 : 8 ≤ p.fl
  · rw [if_pos h8] at ha
    have hk : keptP p = { p with v := zeroVV } := by unfold keptP; rw [if_pos h8]
    rw [hk]
    obtain ⟨⟨a1, a2, a3, a4⟩, ⟨b1, b2, b3, b4⟩, ⟨d1, d2, d3, d4⟩, fl⟩ := p
    have hne : (bits BinOp.and IntKind.i64 fl 8 != 0) = true := by rw [ha]; rfl
    unfold propV encP zeroVV
    dsimp only at *
    replace hb := Lib.hid hb
    clear hk h8 h0 h15 ha
    go_enter Tryz.func46, Tryz.ntmps46
    go_wp2
    refine bodyPost_ret (results_cell_row rfl _ _ (w.heap.size + 1) 39 _ (0, 0) _ rfl (heap_alloc2_new w _ _) Tryz.underlying39 rfl infoProp) rfl ?_
    exact ⟨rfl, hb.out _ _⟩
  · rw [if_neg h8] at ha
    have hk : keptP p = { p with g := zeroVV, t := zeroVV } := by unfold keptP; rw [if_neg h8]
    rw [hk]
    obtain ⟨⟨a1, a2, a3, a4⟩, ⟨b1, b2, b3, b4⟩, ⟨d1, d2, d3, d4⟩, fl⟩ := p
    have hne : (bits BinOp.and IntKind.i64 fl 8 != 0) = false := by rw [ha]; rfl
    unfold propV encP zeroVV
    dsimp only at *
    replace hb := Lib.hid hb
    clear hk h8 h0 h15 ha
    go_enter Tryz.func46, Tryz.ntmps46
    go_wp2
    refine bodyPost_ret (results_cell_row rfl _ _ (w.heap.size + 1) 39 _ (0, 0) _ rfl (heap_alloc2_new w _ _) Tryz.underlying39 rfl infoProp) rfl ?_
    exact ⟨rfl, hb.out _ _⟩
theorem zip_set {ks : List KK} {ps : List PV} {k : KK} {p : PV} : ∀ {i : Nat}, ks[i]? = some k → i < ps.length → ks.zip (ps.set i p) = (ks.zip ps).set i (k, p) := by
  induction ks generalizing ps with
  | nil => intro i h; simp at h
  | cons a ks ih =>
    intro i h hi
    cases ps with
    | nil => simp at hi
    | cons b ps =>
      cases i with
      | zero => simp at h; subst h; rfl
      | succ i =>
        rw [List.set_cons_succ, List.zip_cons_cons, List.zip_cons_cons, List.set_cons_succ, ih (by simpa using h) (by simpa using hi)]
/-- put, at an object's mode -/
def PutM (w : World) (f : Nat → Nat) (tb c : Nat) (L : List (List KK)) (B : Nat) (mv : Value) (fast : Bool) (l : List (KK × PV)) (w' : World) : Prop :=
  ∃ (f' : Nat → Nat) (L' : List (List KK)), Turn (CP c) f f' w w' ∧ (TreeO w' f' tb L' ∧ LePre L L') ∧ ModeO w' f' c L' (B + 1) mv fast l
/-- can this mode take it? -/
def canL (fast : Bool) (l : List (KK × PV)) (x : KK) : Bool := !fast || (idx (gk l) x).isSome || decide (l.length < 128)
theorem mode_put {w : World} {f : Nat → Nat} {tb c B : Nat} {L : List (List KK)} {mv : Value} {fast : Bool} {l : List (KK × PV)} (hN : Norm f w) (hT : TreeO w f tb L) (hL : L.length < 100000) (hc : 10 ≤ c) (h : ModeO w f c L B mv fast l) (hB : B ≤ 100000) (k : KK) (hk : okK k) (p : PV) (h0 : 0 ≤ p.fl) (h15 : p.fl ≤ 15) :
    ∃ (T : TypeId) (b fn : Nat), mv = .iface T (ptrV b) ∧ (∀ y, (nilAhead 395 T (ptrV b) "lintel/heap.put").run Tryz.prog y = .ok (some false) y) ∧ (∀ y, (method 395 T (ptrV b) "lintel/heap.put").run Tryz.prog y = .ok (fn, ptrV b) y) ∧ (∀ args y, (callFunc fn args).run Tryz.prog y = .ok (.enter fn args) y) ∧
      Calls Tryz.prog fn #[ptrV b, ptrV tb, keyV k.1 k.2, propV p] w fun e w' => e = .returned (.bool (canL fast l (pk k))) ∧ PutM w f tb c L B mv fast (if canL fast l (pk k) then putL l (pk k) p else l) w' := by
  rcases h with ⟨rfl, fb, ks, ps, rfl, h1, h2, rfl⟩ | ⟨rfl, db, es, rfl, h1, rfl⟩
  · have hlen : ks.length = ps.length := by obtain ⟨_, _, _, _, _, h4⟩ := h1; exact h4
    refine ⟨_, _, 194, rfl, fun y => by kernel_rfl, fun y => by kernel_rfl, Tryz.call194, ?_⟩
    refine (c_FAput hN hT hL h1 (by omega) hc k hk p h0 h15).mono ?_
    rintro e w' ⟨bq, rfl, f', L', ks', ps', ⟨q1, q2, q3⟩, q4, q5, q6⟩
    have hg := gk_zip hlen
    have hzl : (ks.zip ps).length = ks.length := by rw [List.length_zip]; omega
    cases bq with
    | false =>
      obtain ⟨rfl, rfl, hi, hbig⟩ := q5 rfl
      have hcan : canL true (ks'.zip ps') (pk k) = false := by unfold canL; rw [hg, hi]; simp; omega
      rw [hcan]
      exact ⟨rfl, f', L', q1, ⟨q2, q3⟩, .inl ⟨rfl, fb, ks', ps', rfl, q4, h2, rfl⟩⟩
    | true =>
      rcases q6 rfl with ⟨i, hi, rfl, rfl⟩ | ⟨hi, hsm, rfl, rfl⟩
      · have hcan : canL true (ks'.zip ps) (pk k) = true := by unfold canL; rw [hg, hi]; rfl
        rw [hcan]
        refine ⟨rfl, f', L', q1, ⟨q2, q3⟩, .inl ⟨rfl, fb, ks', ps.set i p, rfl, q4, h2, ?_⟩⟩
        rw [if_pos rfl]
        unfold putL
        rw [hg, hi]
        dsimp only
        exact (zip_set (idx_some hi) (by rw [← hlen]; exact idx_lt hi)).symm
      · have hcan : canL true (ks.zip ps) (pk k) = true := by unfold canL; rw [hg, hi]; simp; omega
        rw [hcan]
        refine ⟨rfl, f', L', q1, ⟨q2, q3⟩, .inl ⟨rfl, fb, ks ++ [pk k], ps ++ [p], rfl, q4, by simp; omega, ?_⟩⟩
        rw [if_pos rfl]
        unfold putL
        rw [hg, hi]
        dsimp only
        rw [List.zip_append hlen]
        rfl
  · refine ⟨_, _, 69, rfl, fun y => by kernel_rfl, fun y => by kernel_rfl, Tryz.call69, ?_⟩
    refine (c_SWput hN h1 hB _ k hk p).mono ?_
    rintro e w' ⟨rfl, f', es', q1, q2, q3⟩
    have hcan : canL false (live es) (pk k) = true := rfl
    rw [hcan, if_pos rfl]
    refine ⟨rfl, f', L, q1.mono (fun x hx => .inr hx), ⟨hT.turn q1 (by omega) (by omega) (by omega) (by omega), LePre.refl _⟩, .inr ⟨rfl, db, es', rfl, q2, q3.symm⟩⟩
end Go.Proofs.YtkbohoolnpaleaaGreatDoor
namespace Go.Proofs.YtkbohoolnpaleaaGreatDoor
open Go.RowKit Go.Shelf Go.Lib Go.Sort Go.Proofs Go.Maps
set_option maxHeartbeats 2000000
set_option maxRecDepth 100000

theorem Turn.setNew {C : Nat → Prop} {f f' : Nat → Nat} {w w' : World} (h : Turn C f f' w w') {b : Nat} (hb : w.heap.size ≤ b) (vs : List Value) (o : Nat) : Turn C f f' w (w'.setCells b o vs) := by
  obtain ⟨s1, s2, s3, s4⟩ := size_setCellsH b vs o w'
  exact ⟨s2.trans h.os, s3.trans h.tape, s4.trans h.output, by rw [s1]; exact h.size, h.agree, fun r hr => h.norm r (by rw [s1] at hr; exact hr), fun r hr hc => (heap_setCells_ne vs o w' (by omega)).trans (h.block r hr hc)⟩
theorem onto_setC {W y : World} (h : (∀ a : Addr, a.block < W.heap.size → y.cell? a = W.cell? a) ∧ (∀ b : Nat, b < W.heap.size → y.heap[b]? = W.heap[b]?) ∧ Below W.heap.size W y) {b : Nat} (hb : W.heap.size ≤ b) (vs : List Value) :
    (∀ a : Addr, a.block < W.heap.size → (y.setCells b 0 vs).cell? a = W.cell? a) ∧ (∀ r : Nat, r < W.heap.size → (y.setCells b 0 vs).heap[r]? = W.heap[r]?) ∧ Below W.heap.size W (y.setCells b 0 vs) := by
  obtain ⟨h1, h2, h3⟩ := h
  have hk : ∀ r : Nat, r < W.heap.size → (y.setCells b 0 vs).heap[r]? = W.heap[r]? := fun r hr => (heap_setCells_ne vs 0 y (by omega)).trans (h2 r hr)
  exact ⟨fun a ha => World.cell?_of_block (hk a.block ha), hk, below_setC h3 hb vs 0⟩
theorem zb_new (y : World) : ZB (y.alloc (.cells #[.int .i64 0, .float .f64 0, .string ⟨#[]⟩, .int .i64 0, .int .i64 0, .float .f64 0, .string ⟨#[]⟩, .int .i64 0, .int .i64 0, .float .f64 0, .string ⟨#[]⟩, .int .i64 0, .int .i64 0] 39)) y.heap.size := ⟨_, heap_alloc_new y _, rfl⟩
theorem zb_newD (y : World) : ZB (y.alloc (.cells #[.int .i64 0, .float .f64 0, .string ⟨#[]⟩, .int .i64 0, .int .i64 0, .float .f64 0, .string ⟨#[]⟩, .int .i64 0, .int .i64 0, .float .f64 0, .string ⟨#[]⟩, .int .i64 0, .int .i64 0] 39)).drew y.heap.size := zb_new y
theorem onto_alloc {W y : World} (h : (∀ a : Addr, a.block < W.heap.size → y.cell? a = W.cell? a) ∧ (∀ b : Nat, b < W.heap.size → y.heap[b]? = W.heap[b]?) ∧ Below W.heap.size W y) (o : Obj) :
    (∀ a : Addr, a.block < W.heap.size → (y.alloc o).cell? a = W.cell? a) ∧ (∀ b : Nat, b < W.heap.size → (y.alloc o).heap[b]? = W.heap[b]?) ∧ Below W.heap.size W (y.alloc o) := onto_below h ((Below.refl _ y).alloc (Nat.le_refl _) o)
theorem onto_fresh (W : World) (o : Obj) : (∀ a : Addr, a.block < W.heap.size → (W.alloc o).drew.cell? a = W.cell? a) ∧ (∀ b : Nat, b < W.heap.size → (W.alloc o).drew.heap[b]? = W.heap[b]?) ∧ Below W.heap.size W (W.alloc o).drew := onto_below (onto_drew W) (y' := (W.alloc o).drew) ((Below.refl _ W.drew).alloc (Nat.le_refl _) o)
theorem cpS_drew (W : World) (f : Nat → Nat) (c : Nat) : ∀ a : Addr, a.block < W.heap.size → ¬ CP c (f a.block) → W.drew.cell? a = W.cell? a := fun _ _ _ => rfl
theorem cpS_turn {W y : World} {f : Nat → Nat} {tb c B : Nat} {L : List (List KK)} {mv : Value} {fast : Bool} {l : List (KK × PV)} (h : PutM W.drew f tb c L B mv fast l y) : ∀ a : Addr, a.block < W.heap.size → ¬ CP c (f a.block) → y.cell? a = W.cell? a := fun a ha hne => by
  obtain ⟨f', L', h1, _⟩ := h
  exact World.cell?_of_block (w := W.drew) (h1.block a.block ha hne)
theorem put_doneY {w Y w' : World} {f : Nat → Nat} {hb u u' B tb i : Nat} {lim : Int} {H : List OB} {L : List (List KK)} {rv : Value} {obs : List Nat} {a : OB} {l' : List (KK × PV)} {ob : Nat} {many : Int} {mv : Value} (h : HeapX w f hb lim u B H tb L rv obs)
    (hi : H[i]? = some a) (ho : obs[i]? = some ob) (fo : f ob = 11 + 2 * i) (hT : Turn (fun x => x = 1 ∨ x = 11 + 2 * i) f f w Y) (h1 : Y.heap[hb]? = some (.cells #[.int .i64 1, .int .i64 lim, .int .i64 (u' : Int), ptrV tb, rv] 57 (0, 0)))
    (h2 : Y.heap[ob]? = some (.cells #[.int .i64 a.cls, .int .i64 a.pro, .bool a.shut, .int .i64 many, mv] 94 (0, 0))) (hP : PutM Y f tb (10 + 2 * i) L B mv a.fast l' w') :
    ∃ f' L', Turn (CP (10 + 2 * i)) f f' Y w' ∧ Turn (CO i) f f' w w' ∧ HeapX w' f' hb lim u' (B + 1) (H.set i { a with l := l' }) tb L' rv obs ∧ Grows w f hb w' f' := by
  obtain ⟨f', L', p1, ⟨p2, p3⟩, p4⟩ := hP
  have fh := h.1.2
  have lh := heapH_lt h.1.1
  have hlb := h.2.1.2
  have t1 : Turn (CO i) f f' w w' := (hT.mono (fun x hx => by unfold CO; omega)).trans (p1.mono (fun x hx => by
    rcases hx with h | h
    · exact .inr (.inl h)
    · exact .inr (.inr (.inl h))))
  have b1 := (p1.block hb (heapH_lt h1) (by rw [fh]; unfold CP C3; omega)).trans h1
  have b2 := (p1.block ob (heapH_lt h2) (by rw [fo]; unfold CP C3; omega)).trans h2
  have a2 := (p1.agree ob (heapH_lt h2)).trans fo
  have hU := h.upd hi ho t1 (fun _ h => h) b1 p2 p3.2 (by have := p3.1; omega) (Nat.le_succ B) (a' := { a with l := l' }) ⟨many, mv, ⟨b2, by rw [a2]; omega⟩, p4⟩
  exact ⟨f', L', p1, t1, hU, HeapX.grows t1.norm h hU p3.2⟩
theorem put_done {w Y w' : World} {f : Nat → Nat} {hb u u' B tb i : Nat} {lim : Int} {H : List OB} {L : List (List KK)} {rv : Value} {obs : List Nat} {a : OB} {l' : List (KK × PV)} {ob : Nat} {many : Int} {mv : Value} (h : HeapX w f hb lim u B H tb L rv obs)
    (hi : H[i]? = some a) (ho : obs[i]? = some ob) (fo : f ob = 11 + 2 * i) (hT : Turn (fun x => x = 1 ∨ x = 11 + 2 * i) f f w Y) (h1 : Y.heap[hb]? = some (.cells #[.int .i64 1, .int .i64 lim, .int .i64 (u' : Int), ptrV tb, rv] 57 (0, 0)))
    (h2 : Y.heap[ob]? = some (.cells #[.int .i64 a.cls, .int .i64 a.pro, .bool a.shut, .int .i64 many, mv] 94 (0, 0))) (hP : PutM Y f tb (10 + 2 * i) L B mv a.fast l' w') :
    HeapTX w f hb lim u' (B + 1) (H.set i { a with l := l' }) tb rv obs w' := by
  obtain ⟨f', L', _, t1, hX, hG⟩ := put_doneY h hi ho fo hT h1 h2 hP
  exact ⟨f', L', t1.mono CO_ne9, hX, hG⟩
/-- an object's boxes at Put -/
theorem getL_idx {l : List (KK × PV)} {x : KK} : (getL l x).isSome = (idx (gk l) x).isSome := by
  cases h : idx (gk l) x with
  | none => rw [getL_none h]; rfl
  | some i =>
    have hlt : i < l.length := by have := idx_lt h; simpa [gk] using this
    have h1 := idx_some h
    have h2 : (gk l)[i]? = some (l[i].1) := by simp [gk, hlt]
    rw [h1] at h2
    have h3 := Option.some.inj h2
    rw [getL_some h (p := l[i].2) (by rw [List.getElem?_eq_getElem hlt, h3])]
    rfl
end Go.Proofs.YtkbohoolnpaleaaGreatDoor

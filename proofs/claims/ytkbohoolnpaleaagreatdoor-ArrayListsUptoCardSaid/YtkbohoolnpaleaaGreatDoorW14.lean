/-
  Contracts: Put: the walks. Put: the walks. Put: the other ways. Drop: the walk.
-/
import Derived.Test.YtkbohoolnpaleaaGreatDoorW13
namespace Go.Proofs.YtkbohoolnpaleaaGreatDoor
open Go.RowKit Go.Shelf Go.Lib Go.Sort Go.Proofs Go.Maps
set_option maxHeartbeats 4000000
set_option maxRecDepth 100000

theorem c_HPutST {w : World} {f : Nat → Nat} {hb B u : Nat} {lim : Int} {H : List OB} (hN : Norm f w) (h : HeapO w f hb lim u B H) (hB1 : 128 ≤ B) (hB : B < 90000) (o : Nat) (a : OB) (h0 : 0 < o) (ho : H[o - 1]? = some a) (k : KK) (hk : okK k) (p : PV) (p0 : 0 ≤ p.fl) (p15 : p.fl ≤ 15) (hg : (getL a.l (pk k)).isSome = true) (hcan : canL a.fast a.l (pk k) = true) :
    Calls Tryz.prog 31 #[ptrV hb, .int .i64 (o : Int), keyV k.1 k.2, propV p] w fun e w' => e = .returned (.int .i64 0) ∧ HeapT w f hb lim (u) (B + 1) (H.set (o - 1) { a with l := putL a.l (pk k) (keptP p) }) w' := by
  obtain ⟨tb, L, rv, obs, hX0⟩ := h
  have hX : HeapX w f hb lim u B H tb L rv obs := hX0
  clear hX0
  obtain ⟨rb, c, ob, many, mv, n, ⟨c4, p1, p2, q0⟩, r1, r2, r3, r4, r5⟩ := HeapX.obj hX h0 ho
  obtain ⟨W2, hW2⟩ : ∃ W2, (w.alloc (.cells #[.string k.1, .int .i64 k.2] 43)).alloc (.cells (encP p).toArray 39) = W2 := ⟨_, rfl⟩
  have hb2 : Below w.heap.size w W2 := by rw [← hW2]; exact ((Below.refl _ w).alloc (Nat.le_refl _) _).alloc (by simp) _
  have hs2 : W2.heap.size = w.heap.size + 2 := by rw [← hW2]; simp
  have d0 : W2.heap[w.heap.size]? = some (.cells #[.string k.1, .int .i64 k.2] 43 (0, 0)) := by rw [← hW2, Below.heap_alloc _ _ _ (by simp)]; exact heap_alloc_new w _
  have z0 : W2.heap[w.heap.size + 1]? = some (.cells (encP p).toArray 39 (0, 0)) := by rw [← hW2]; exact heap_alloc2_new w _ _
  have kc0 : W2.cell? ⟨w.heap.size, 0, none⟩ = some (.string k.1) := by rw [cell_of_row _ _ 0 _ _ _ d0]; rfl
  have kc1 : W2.cell? ⟨w.heap.size, 1, none⟩ = some (.int .i64 k.2) := by rw [cell_of_row _ _ 1 _ _ _ d0]; rfl
  have zc : W2.cell? ⟨w.heap.size + 1, 12, none⟩ = some (.int .i64 p.fl) := by rw [cell_of_row _ _ 12 _ _ _ z0]; rfl
  have hN2 : Norm f W2.drew := fun r hr => hN r (Nat.le_trans hb2.size hr)
  have hH := c_HHas (hX.heap.below hN hb2) (o : Int)
  rw [hasH_of h0 ho] at hH
  have hT0 : Turn (fun _ => False) f f w W2.drew := Turn.of_below _ hN hb2.drew
  have hmo := fun (y : World) (hy : Below W2.heap.size W2 y) => mode_own (w := y) (Turn.of_below (fun _ => False) hN (hb2.trans (hy.mono hb2.size))).norm (hX.2.1.1.turn (Turn.of_below (fun _ => False) hN (hb2.trans (hy.mono hb2.size))) id id id id) (r3.keep (Turn.of_below (fun _ => False) hN (hb2.trans (hy.mono hb2.size))) id (fun _ _ h => h) (Nat.le_refl _)) k hk
  obtain ⟨T, mb, fn, rfl, m1, m2, mc, _⟩ := hmo W2.drew (Below.refl _ _).drew
  have m3 : ∀ y, Below W2.heap.size W2 y → Calls Tryz.prog fn #[ptrV mb, ptrV tb, .pointer none, keyV k.1 k.2] y fun e w' => Below y.heap.size y w' ∧ e = .returned (tellV (getL a.l (pk k))) := fun y hy => by
    obtain ⟨T', b', fn', e1, _, n2, _, n4⟩ := hmo y hy
    injection e1 with e1 e2
    injection e2 with e2
    have e3 := Option.some.inj e2
    injection e3 with e3 _
    subst e1
    subst e3
    have e5 := (m2 y).symm.trans (n2 y)
    injection e5 with e5 _
    injection e5 with e5 _
    subst e5
    exact n4
  clear hmo
  have hL : L.length < 100000 := by have := hX.2.1.2; omega
  have hput := fun (y : World) (C : Nat → Prop) (hT : Turn C f f w y) (hC : ∀ x, C x → x = 1 ∨ x = 11 + 2 * (o - 1)) => mode_put (w := y) (p := keptP p) hT.norm (hX.2.1.1.turn hT (fun h => by have := hC _ h; omega) (fun h => by have := hC _ h; omega) (fun h => by have := hC _ h; omega) (fun h => by have := hC _ h; omega)) hL (show 10 ≤ 10 + 2 * (o - 1) by omega) (r3.keep hT (fun h => by have := hC _ h; omega) (fun _ _ h => h) (Nat.le_refl _)) (by omega) k hk (by rw [keptP_fl]; exact p0) (by rw [keptP_fl]; exact p15)
  rw [hcan] at hput
  have hKe := c_Hkept p p0 p15
  have e4 := hb2.cell (p := ⟨hb, 4, none⟩) r4.1
  have e0 := hb2.cell (p := ⟨rb, o, none⟩) r4.2.1
  rw [← e4] at c4
  rw [← e0] at q0
  have bh : W2.heap[hb]? = _ := (hb2.block hb r4.1).trans hX.1.1
  have bo : W2.heap[ob]? = _ := (hb2.block ob r4.2.2).trans r2.1
  have c3 : W2.cell? ⟨hb, 3, none⟩ = some (ptrV tb) := by rw [cell_of_row _ _ 3 _ _ _ bh]; rfl
  have q4 : W2.cell? ⟨ob, 4, none⟩ = some (.iface T (ptrV mb)) := by rw [cell_of_row _ _ 4 _ _ _ bo]; rfl
  have t1 : w.heap.size < W2.heap.size := by omega
  have t2 : hb < W2.heap.size := by omega
  have t3 : rb < W2.heap.size := by omega
  have t4 : ob < W2.heap.size := by omega
  have nf1 : ¬ p.fl < 0 := by omega
  have nf2 : ¬ 15 < p.fl := by omega
  have hW20 : W2.heap.size ≤ W2.heap.size := Nat.le_refl _
  have hS6 : W2.heap.size = w.heap.size + 2 := hs2
  unfold ptrV keyV at *
  unfold tellV at m3
  rw [hg] at m3
  generalize hP : (getL a.l (pk k)).getD zeroPV = P at *
  unfold propV at *
  obtain ⟨k0, kn⟩ := k
  dsimp only at *
  generalize hK : pk (k0, kn) = K at *
  have P2ok : 0 ≤ (keptP p).fl ∧ (keptP p).fl ≤ 15 := by rw [keptP_fl]; exact ⟨p0, p15⟩
  replace P2ok := Lib.hid P2ok
  generalize keptP p = P2 at *
  have hst := fun (y : World) (b : Nat) (hy : ZB y b) => hy.store P
  have hst2 := fun (y : World) (b : Nat) (hy : ZB y b) => hy.store P2
  have hzb := zb_new
  have honto := onto_drew W2
  replace hH := Lib.hid hH
  replace m3 := Lib.hid m3
  replace hb2 := Lib.hid hb2
  replace hs2 := Lib.hid hs2
  replace hS6 := Lib.hid hS6
  replace z0 := Lib.hid z0
  replace d0 := Lib.hid d0
  replace bh := Lib.hid bh
  replace bo := Lib.hid bo
  replace hX := Lib.hid hX
  replace hput := Lib.hid hput
  replace hKe := Lib.hid hKe
  replace ho := Lib.hid ho
  replace hN := Lib.hid hN
  replace r1 := Lib.hid r1
  replace r2 := Lib.hid r2
  replace r5 := Lib.hid r5
  replace hg := Lib.hid hg
  replace hcan := Lib.hid hcan
  replace hK := Lib.hid hK
  replace hP := Lib.hid hP
  replace hk := Lib.hid hk
  replace hL := Lib.hid hL
  clear hT0 hN2 r3 e0 e4 hW20
  go_enter Tryz.func31, Tryz.ntmps31
  go_wp2_with (first | (go_at_call 20; refine hH.out.mono ?_; rintro e w1 ⟨rfl, e1⟩; cases e1))
  go_region_held3 (fun y => (∀ a : Addr, a.block < W2.heap.size → y.cell? a = W2.cell? a) ∧ (∀ b : Nat, b < W2.heap.size → y.heap[b]? = W2.heap[b]?) ∧ Below W2.heap.size W2 y) (first | with_reducible assumption | with_reducible exact honto | with_reducible exact onto_fresh W2 _ | with_reducible exact onto_below (by assumption) (by assumption) | with_reducible exact onto_alloc (by assumption) _ | exact onto_setC (by assumption) (by first | exact Nat.le_refl _ | assumption) _) (first | (refine (m3.out _ (And.right (And.right (by assumption)))).mono ?_; rintro e y2 ⟨hb5, rfl⟩; have hsz5 : W2.heap.size ≤ y2.heap.size := Nat.le_trans (by simp) hb5.size; try (have hzb2 : ZB y2 W2.heap.size := ZB.below (zb_newD W2) hb5)))
  all_goals
    rename_i hO6
    generalize World.setCells _ _ _ _ = y6 at *
    have bh6 := (hO6.2.1 hb t2).trans bh.out
    have bo6 := (hO6.2.1 ob t4).trans bo.out
    have d6 := (hO6.2.1 _ t1).trans d0.out
    have z6 := (hO6.2.1 _ (show w.heap.size + 1 < W2.heap.size by have := hS6.out; omega)).trans z0.out
    have hB6 := hb2.out.trans (hO6.2.2.mono hb2.out.size)
    have nhb : hb < w.heap.size := r4.1
    have nob : ob < w.heap.size := r4.2.2
    have nho : ob ≠ hb := r5.out.1
    clear hst hzb hO6 kc0 kc1 zc c4 q0 c3 q4 t1 t2 t3 t4 m1 m2 m3 hb5 hsz5
    try clear hzb2
    have T8 : Turn (fun x => x = 1 ∨ x = 11 + 2 * (o - 1)) f f w y6 := Turn.of_below _ hN.out hB6
    have bh8 := bh6
    have bo8 := bo6
    have d8 := d6
    have z8 := z6
    have hy6 := True.intro
    replace T8 := Lib.hid T8
    replace bh8 := Lib.hid bh8
    replace bo8 := Lib.hid bo8
    replace d8 := Lib.hid d8
    replace z8 := Lib.hid z8
    replace bh6 := Lib.hid bh6
    replace bo6 := Lib.hid bo6
    replace d6 := Lib.hid d6
    replace z6 := Lib.hid z6
    replace hB6 := Lib.hid hB6
    have hrg : y6.rangeAt (w.heap.size + 1) 0 (encP p) := fun j v hv => by rw [cell_of_row _ _ (0 + j) _ _ _ z8.out]; simpa using hv
    have hi13 : (Tryz.prog.info? 39).map (·.size) = some (encP p).length := infoProp
    have tokA : True := trivial
    go_wp2_with (first | (clear tokA; refine wpList_load_mid rfl 39 (.tmp 7) rfl (w.heap.size + 1) 0 rfl (encP p) _ hrg Tryz.underlying39 rfl hi13 ?_) | (go_at_call 46; refine (hKe.out _).mono ?_; rintro e y9 ⟨rfl, hb9⟩; have hz9 : ZB y9 (w.heap.size + 1) := ZB.below ⟨_, z8.out, rfl⟩ hb9; obtain ⟨y10, hy10⟩ : ∃ y10, y9.setCells (w.heap.size + 1) 0 (encP P2) = y10 := ⟨_, rfl⟩; replace hb9 := Lib.hid hb9))
    have T10 : Turn (fun x => x = 1 ∨ x = 11 + 2 * (o - 1)) f f w y10 := by rw [← hy10]; exact (T8.out.then hb9.out).setNew (Nat.le_succ _) _ _
    have k10 : ∀ r, r < y6.heap.size → r ≠ w.heap.size + 1 → y10.heap[r]? = y6.heap[r]? := fun r h1 h2 => by rw [← hy10, heap_setCells_ne _ _ _ h2]; exact hb9.out.block r h1
    have bh10 := (k10 hb (heapH_lt bh8.out) (by omega)).trans bh8.out
    have bo10 := (k10 ob (heapH_lt bo8.out) (by omega)).trans bo8.out
    have d10 := (k10 w.heap.size (heapH_lt d8.out) (by omega)).trans d8.out
    have z10 : y10.heap[w.heap.size + 1]? = some (.cells (encP P2).toArray 39 (0, 0)) := by
      rw [← hy10]
      exact heap_setCells_all ((hb9.out.block _ (heapH_lt z8.out)).trans z8.out) rfl
    obtain ⟨T', b', fn', ee, n1, n2, nc, n3⟩ := hput.out y10.drew _ T10.drew (fun x h => h)
    injection ee with ee1 ee2
    injection ee2 with ee2
    have ee3 := Option.some.inj ee2
    injection ee3 with ee3 _
    subst ee1
    subst ee3
    have q4 : y10.cell? ⟨ob, 4, none⟩ = some (.iface T (.pointer (some ⟨mb, 0, none⟩))) := by rw [cell_of_row _ _ 4 _ _ _ bo10]; rfl
    have c3 : y10.cell? ⟨hb, 3, none⟩ = some (.pointer (some ⟨tb, 0, none⟩)) := by rw [cell_of_row _ _ 3 _ _ _ bh10]; rfl
    have kc0 : y10.cell? ⟨w.heap.size, 0, none⟩ = some (.string k0) := by rw [cell_of_row _ _ 0 _ _ _ d10]; rfl
    have kc1 : y10.cell? ⟨w.heap.size, 1, none⟩ = some (.int .i64 kn) := by rw [cell_of_row _ _ 1 _ _ _ d10]; rfl
    obtain ⟨v0, v1, v2, v3, v4, v5, v6, v7, v8, v9, v10, v11, v12⟩ := cells13 z10
    have x1 : hb < y10.heap.size := heapH_lt bh10
    have x2 : ob < y10.heap.size := heapH_lt bo10
    have x3 : w.heap.size < y10.heap.size := heapH_lt d10
    have x4 : w.heap.size + 1 < y10.heap.size := heapH_lt z10
    have y1 : ¬ CP (10 + 2 * (o - 1)) (f hb) := by rw [hX.out.1.2]; unfold CP C3; omega
    have y2' : ¬ CP (10 + 2 * (o - 1)) (f ob) := by rw [r2.out.2]; unfold CP C3; omega
    have y3 : ¬ CP (10 + 2 * (o - 1)) (f w.heap.size) := by rw [hN.out _ (Nat.le_refl _)]; unfold CP C3; omega
    have y4 : ¬ CP (10 + 2 * (o - 1)) (f (w.heap.size + 1)) := by rw [hN.out _ (Nat.le_succ _)]; unfold CP C3; omega
    have hps := cpS_drew y10 f (10 + 2 * (o - 1))
    replace T10 := Lib.hid T10
    replace k10 := Lib.hid k10
    replace bh10 := Lib.hid bh10
    replace bo10 := Lib.hid bo10
    replace d10 := Lib.hid d10
    replace z10 := Lib.hid z10
    replace n3 := Lib.hid n3
    clear hy10 hz9 hrg hst2 hy6
    go_wp2_with fail
    go_region_held3 (fun y => ∀ a : Addr, a.block < y10.heap.size → ¬ CP (10 + 2 * (o - 1)) (f a.block) → y.cell? a = y10.cell? a) (first | with_reducible assumption | with_reducible exact hps | exact cpS_turn (by assumption)) (first | (refine n3.out.mono ?_; rintro e y11 ⟨rfl, hPM⟩))
    have hfin := put_done hX.out ho.out r1.out r2.out.2 T10.out.drew bh10.out bo10.out hPM
    replace hfin := Lib.hid hfin
    clear v0 v1 v2 v3 v4 v5 v6 v7 v8 v9 v10 v11 v12 q4 c3 kc0 kc1 hps hPM n1 n2 nc
    go_wp2
    go_ret
    exact ⟨rfl, hfin.out.t⟩
theorem c_HPutNT {w : World} {f : Nat → Nat} {hb B u : Nat} {lim : Int} {H : List OB} (hN : Norm f w) (h : HeapO w f hb lim u B H) (hB1 : 128 ≤ B) (hB : B < 90000) (o : Nat) (a : OB) (h0 : 0 < o) (ho : H[o - 1]? = some a) (k : KK) (hk : okK k) (p : PV) (p0 : 0 ≤ p.fl) (p15 : p.fl ≤ 15) (hg : (getL a.l (pk k)).isSome = false) (hcan : canL a.fast a.l (pk k) = true) (hlt : (u : Int) < lim) (hu : u ≤ 100000000) :
    Calls Tryz.prog 31 #[ptrV hb, .int .i64 (o : Int), keyV k.1 k.2, propV p] w fun e w' => e = .returned (.int .i64 0) ∧ HeapT w f hb lim (u + 1) (B + 1) (H.set (o - 1) { a with l := putL a.l (pk k) (keptP p) }) w' := by
  obtain ⟨tb, L, rv, obs, hX0⟩ := h
  have hX : HeapX w f hb lim u B H tb L rv obs := hX0
  clear hX0
  obtain ⟨rb, c, ob, many, mv, n, ⟨c4, p1, p2, q0⟩, r1, r2, r3, r4, r5⟩ := HeapX.obj hX h0 ho
  obtain ⟨W2, hW2⟩ : ∃ W2, (w.alloc (.cells #[.string k.1, .int .i64 k.2] 43)).alloc (.cells (encP p).toArray 39) = W2 := ⟨_, rfl⟩
  have hb2 : Below w.heap.size w W2 := by rw [← hW2]; exact ((Below.refl _ w).alloc (Nat.le_refl _) _).alloc (by simp) _
  have hs2 : W2.heap.size = w.heap.size + 2 := by rw [← hW2]; simp
  have d0 : W2.heap[w.heap.size]? = some (.cells #[.string k.1, .int .i64 k.2] 43 (0, 0)) := by rw [← hW2, Below.heap_alloc _ _ _ (by simp)]; exact heap_alloc_new w _
  have z0 : W2.heap[w.heap.size + 1]? = some (.cells (encP p).toArray 39 (0, 0)) := by rw [← hW2]; exact heap_alloc2_new w _ _
  have kc0 : W2.cell? ⟨w.heap.size, 0, none⟩ = some (.string k.1) := by rw [cell_of_row _ _ 0 _ _ _ d0]; rfl
  have kc1 : W2.cell? ⟨w.heap.size, 1, none⟩ = some (.int .i64 k.2) := by rw [cell_of_row _ _ 1 _ _ _ d0]; rfl
  have zc : W2.cell? ⟨w.heap.size + 1, 12, none⟩ = some (.int .i64 p.fl) := by rw [cell_of_row _ _ 12 _ _ _ z0]; rfl
  have hN2 : Norm f W2.drew := fun r hr => hN r (Nat.le_trans hb2.size hr)
  have hH := c_HHas (hX.heap.below hN hb2) (o : Int)
  rw [hasH_of h0 ho] at hH
  have hT0 : Turn (fun _ => False) f f w W2.drew := Turn.of_below _ hN hb2.drew
  have hmo := fun (y : World) (hy : Below W2.heap.size W2 y) => mode_own (w := y) (Turn.of_below (fun _ => False) hN (hb2.trans (hy.mono hb2.size))).norm (hX.2.1.1.turn (Turn.of_below (fun _ => False) hN (hb2.trans (hy.mono hb2.size))) id id id id) (r3.keep (Turn.of_below (fun _ => False) hN (hb2.trans (hy.mono hb2.size))) id (fun _ _ h => h) (Nat.le_refl _)) k hk
  obtain ⟨T, mb, fn, rfl, m1, m2, mc, _⟩ := hmo W2.drew (Below.refl _ _).drew
  have m3 : ∀ y, Below W2.heap.size W2 y → Calls Tryz.prog fn #[ptrV mb, ptrV tb, .pointer none, keyV k.1 k.2] y fun e w' => Below y.heap.size y w' ∧ e = .returned (tellV (getL a.l (pk k))) := fun y hy => by
    obtain ⟨T', b', fn', e1, _, n2, _, n4⟩ := hmo y hy
    injection e1 with e1 e2
    injection e2 with e2
    have e3 := Option.some.inj e2
    injection e3 with e3 _
    subst e1
    subst e3
    have e5 := (m2 y).symm.trans (n2 y)
    injection e5 with e5 _
    injection e5 with e5 _
    subst e5
    exact n4
  clear hmo
  have hL : L.length < 100000 := by have := hX.2.1.2; omega
  have hput := fun (y : World) (C : Nat → Prop) (hT : Turn C f f w y) (hC : ∀ x, C x → x = 1 ∨ x = 11 + 2 * (o - 1)) => mode_put (w := y) (p := keptP p) hT.norm (hX.2.1.1.turn hT (fun h => by have := hC _ h; omega) (fun h => by have := hC _ h; omega) (fun h => by have := hC _ h; omega) (fun h => by have := hC _ h; omega)) hL (show 10 ≤ 10 + 2 * (o - 1) by omega) (r3.keep hT (fun h => by have := hC _ h; omega) (fun _ _ h => h) (Nat.le_refl _)) (by omega) k hk (by rw [keptP_fl]; exact p0) (by rw [keptP_fl]; exact p15)
  rw [hcan] at hput
  have hKe := c_Hkept p p0 p15
  have e4 := hb2.cell (p := ⟨hb, 4, none⟩) r4.1
  have e0 := hb2.cell (p := ⟨rb, o, none⟩) r4.2.1
  rw [← e4] at c4
  rw [← e0] at q0
  have bh : W2.heap[hb]? = _ := (hb2.block hb r4.1).trans hX.1.1
  have bo : W2.heap[ob]? = _ := (hb2.block ob r4.2.2).trans r2.1
  have c3 : W2.cell? ⟨hb, 3, none⟩ = some (ptrV tb) := by rw [cell_of_row _ _ 3 _ _ _ bh]; rfl
  have q4 : W2.cell? ⟨ob, 4, none⟩ = some (.iface T (ptrV mb)) := by rw [cell_of_row _ _ 4 _ _ _ bo]; rfl
  have t1 : w.heap.size < W2.heap.size := by omega
  have t2 : hb < W2.heap.size := by omega
  have t3 : rb < W2.heap.size := by omega
  have t4 : ob < W2.heap.size := by omega
  have nf1 : ¬ p.fl < 0 := by omega
  have nf2 : ¬ 15 < p.fl := by omega
  have hW20 : W2.heap.size ≤ W2.heap.size := Nat.le_refl _
  have hS6 : W2.heap.size = w.heap.size + 2 := hs2
  unfold ptrV keyV at *
  unfold tellV at m3
  rw [hg] at m3
  generalize hP : (getL a.l (pk k)).getD zeroPV = P at *
  unfold propV at *
  obtain ⟨k0, kn⟩ := k
  dsimp only at *
  generalize hK : pk (k0, kn) = K at *
  have P2ok : 0 ≤ (keptP p).fl ∧ (keptP p).fl ≤ 15 := by rw [keptP_fl]; exact ⟨p0, p15⟩
  replace P2ok := Lib.hid P2ok
  generalize keptP p = P2 at *
  have hst := fun (y : World) (b : Nat) (hy : ZB y b) => hy.store P
  have hst2 := fun (y : World) (b : Nat) (hy : ZB y b) => hy.store P2
  have hzb := zb_new
  have honto := onto_drew W2
  replace hH := Lib.hid hH
  replace m3 := Lib.hid m3
  replace hb2 := Lib.hid hb2
  replace hs2 := Lib.hid hs2
  replace hS6 := Lib.hid hS6
  replace z0 := Lib.hid z0
  replace d0 := Lib.hid d0
  replace bh := Lib.hid bh
  replace bo := Lib.hid bo
  replace hX := Lib.hid hX
  replace hput := Lib.hid hput
  replace hKe := Lib.hid hKe
  replace ho := Lib.hid ho
  replace hN := Lib.hid hN
  replace r1 := Lib.hid r1
  replace r2 := Lib.hid r2
  replace r5 := Lib.hid r5
  replace hg := Lib.hid hg
  replace hcan := Lib.hid hcan
  replace hK := Lib.hid hK
  replace hP := Lib.hid hP
  replace hk := Lib.hid hk
  replace hL := Lib.hid hL
  clear hT0 hN2 r3 e0 e4 hW20
  go_enter Tryz.func31, Tryz.ntmps31
  go_wp2_with (first | (go_at_call 20; refine hH.out.mono ?_; rintro e w1 ⟨rfl, e1⟩; cases e1))
  go_region_held3 (fun y => (∀ a : Addr, a.block < W2.heap.size → y.cell? a = W2.cell? a) ∧ (∀ b : Nat, b < W2.heap.size → y.heap[b]? = W2.heap[b]?) ∧ Below W2.heap.size W2 y) (first | with_reducible assumption | with_reducible exact honto | with_reducible exact onto_fresh W2 _ | with_reducible exact onto_below (by assumption) (by assumption) | with_reducible exact onto_alloc (by assumption) _ | exact onto_setC (by assumption) (by first | exact Nat.le_refl _ | assumption) _) (first | (refine (m3.out _ (And.right (And.right (by assumption)))).mono ?_; rintro e y2 ⟨hb5, rfl⟩; have hsz5 : W2.heap.size ≤ y2.heap.size := Nat.le_trans (by simp) hb5.size; try (have hzb2 : ZB y2 W2.heap.size := ZB.below (zb_newD W2) hb5)))
  all_goals
    rename_i hO6
    generalize World.setCells _ _ _ _ = y6 at *
    have bh6 := (hO6.2.1 hb t2).trans bh.out
    have bo6 := (hO6.2.1 ob t4).trans bo.out
    have d6 := (hO6.2.1 _ t1).trans d0.out
    have z6 := (hO6.2.1 _ (show w.heap.size + 1 < W2.heap.size by have := hS6.out; omega)).trans z0.out
    have hB6 := hb2.out.trans (hO6.2.2.mono hb2.out.size)
    have nhb : hb < w.heap.size := r4.1
    have nob : ob < w.heap.size := r4.2.2
    have nho : ob ≠ hb := r5.out.1
    clear hst hzb hO6 kc0 kc1 zc c4 q0 c3 q4 t1 t2 t3 t4 m1 m2 m3 hb5 hsz5
    try clear hzb2
    have l6 : y6.cell? ⟨hb, 1, none⟩ = some (.int .i64 lim) := by rw [cell_of_row _ _ 1 _ _ _ bh6]; rfl
    have u6 : y6.cell? ⟨hb, 2, none⟩ = some (.int .i64 (u : Int)) := by rw [cell_of_row _ _ 2 _ _ _ bh6]; rfl
    have n6 : y6.cell? ⟨ob, 3, none⟩ = some (.int .i64 many) := by rw [cell_of_row _ _ 3 _ _ _ bo6]; rfl
    have fu6 : y6.frozen? ⟨hb, 2, none⟩ = false := by simp [World.frozen?, bh6]
    have fn6 : y6.frozen? ⟨ob, 3, none⟩ = false := by simp [World.frozen?, bo6]
    have th6 := heapH_lt bh6
    have hdl : decide (lim ≤ (u : Int)) = false := decide_eq_false (by omega)
    obtain ⟨m', hm'⟩ : ∃ m', IntKind.i64.wrap (many + 1) = m' := ⟨_, rfl⟩
    have p0u : (0 : Int) ≤ (u : Int) := by omega
    have p1u : (u : Int) ≤ 100000000 := by omega
    obtain ⟨y8, hy8⟩ : ∃ y8, ((y6.setCell ⟨hb, 2, none⟩ (.int .i64 ((u : Int) + 1))).setCell ⟨ob, 3, none⟩ (.int .i64 m')).drew = y8 := ⟨_, rfl⟩
    have T8 : Turn (fun x => x = 1 ∨ x = 11 + 2 * (o - 1)) f f w y8 := by
      rw [← hy8]
      exact (((Turn.of_below _ hN.out hB6).set hb 2 _ (.inl hX.out.1.2)).set ob 3 _ (.inr r2.out.2)).drew
    have bh8 : y8.heap[hb]? = some (.cells #[.int .i64 1, .int .i64 lim, .int .i64 ((u + 1 : Nat) : Int), .pointer (some ⟨tb, 0, none⟩), rv] 57 (0, 0)) := by
      rw [← hy8]
      show ((y6.setCell ⟨hb, 2, none⟩ _).setCell ⟨ob, 3, none⟩ _).heap[hb]? = _
      rw [Below.heap_setCell _ _ _ _ nho.symm, heap_setCell_same y6 hb 2 _ _ _ bh6]; rfl
    have bo8 : y8.heap[ob]? = some (.cells #[.int .i64 a.cls, .int .i64 a.pro, .bool a.shut, .int .i64 m', .iface T (.pointer (some ⟨mb, 0, none⟩))] 94 (0, 0)) := by
      rw [← hy8]
      show ((y6.setCell ⟨hb, 2, none⟩ _).setCell ⟨ob, 3, none⟩ _).heap[ob]? = _
      rw [heap_setCell_same (y6.setCell ⟨hb, 2, none⟩ _) ob 3 _ _ _ ((Below.heap_setCell _ _ _ _ nho).trans bo6)]; rfl
    have d8 : y8.heap[w.heap.size]? = some (.cells #[.string k0, .int .i64 kn] 43 (0, 0)) := by
      rw [← hy8]
      show ((y6.setCell ⟨hb, 2, none⟩ _).setCell ⟨ob, 3, none⟩ _).heap[w.heap.size]? = _
      rw [Below.heap_setCell _ _ _ _ (show w.heap.size ≠ ob by omega), Below.heap_setCell _ _ _ _ (show w.heap.size ≠ hb by omega)]; exact d6
    have z8 : y8.heap[w.heap.size + 1]? = some (.cells (encP p).toArray 39 (0, 0)) := by
      rw [← hy8]
      show ((y6.setCell ⟨hb, 2, none⟩ _).setCell ⟨ob, 3, none⟩ _).heap[w.heap.size + 1]? = _
      rw [Below.heap_setCell _ _ _ _ (show w.heap.size + 1 ≠ ob by omega), Below.heap_setCell _ _ _ _ (show w.heap.size + 1 ≠ hb by omega)]; exact z6
    replace T8 := Lib.hid T8
    replace bh8 := Lib.hid bh8
    replace bo8 := Lib.hid bo8
    replace d8 := Lib.hid d8
    replace z8 := Lib.hid z8
    replace bh6 := Lib.hid bh6
    replace bo6 := Lib.hid bo6
    replace d6 := Lib.hid d6
    replace z6 := Lib.hid z6
    replace hB6 := Lib.hid hB6
    have hrg : y8.rangeAt (w.heap.size + 1) 0 (encP p) := fun j v hv => by rw [cell_of_row _ _ (0 + j) _ _ _ z8.out]; simpa using hv
    have hi13 : (Tryz.prog.info? 39).map (·.size) = some (encP p).length := infoProp
    have tokA : True := trivial
    go_wp2_with fail
    go_region_held3 (fun y => (∀ a : Addr, a.block < y6.heap.size → y.cell? a = y6.cell? a) ∧ (∀ b : Nat, b < y6.heap.size → y.heap[b]? = y6.heap[b]?) ∧ Below y6.heap.size y6 y) (first | with_reducible assumption | with_reducible exact onto_drew y6) (fail)
    go_wp2_with (first | (clear tokA; refine wpList_load_mid rfl 39 (.tmp 7) rfl (w.heap.size + 1) 0 rfl (encP p) _ hrg Tryz.underlying39 rfl hi13 ?_) | (go_at_call 46; refine (hKe.out _).mono ?_; rintro e y9 ⟨rfl, hb9⟩; have hz9 : ZB y9 (w.heap.size + 1) := ZB.below ⟨_, z8.out, rfl⟩ hb9; obtain ⟨y10, hy10⟩ : ∃ y10, y9.setCells (w.heap.size + 1) 0 (encP P2) = y10 := ⟨_, rfl⟩; replace hb9 := Lib.hid hb9))
    have T10 : Turn (fun x => x = 1 ∨ x = 11 + 2 * (o - 1)) f f w y10 := by rw [← hy10]; exact (T8.out.then hb9.out).setNew (Nat.le_succ _) _ _
    have k10 : ∀ r, r < y8.heap.size → r ≠ w.heap.size + 1 → y10.heap[r]? = y8.heap[r]? := fun r h1 h2 => by rw [← hy10, heap_setCells_ne _ _ _ h2]; exact hb9.out.block r h1
    have bh10 := (k10 hb (heapH_lt bh8.out) (by omega)).trans bh8.out
    have bo10 := (k10 ob (heapH_lt bo8.out) (by omega)).trans bo8.out
    have d10 := (k10 w.heap.size (heapH_lt d8.out) (by omega)).trans d8.out
    have z10 : y10.heap[w.heap.size + 1]? = some (.cells (encP P2).toArray 39 (0, 0)) := by
      rw [← hy10]
      exact heap_setCells_all ((hb9.out.block _ (heapH_lt z8.out)).trans z8.out) rfl
    obtain ⟨T', b', fn', ee, n1, n2, nc, n3⟩ := hput.out y10.drew _ T10.drew (fun x h => h)
    injection ee with ee1 ee2
    injection ee2 with ee2
    have ee3 := Option.some.inj ee2
    injection ee3 with ee3 _
    subst ee1
    subst ee3
    have q4 : y10.cell? ⟨ob, 4, none⟩ = some (.iface T (.pointer (some ⟨mb, 0, none⟩))) := by rw [cell_of_row _ _ 4 _ _ _ bo10]; rfl
    have c3 : y10.cell? ⟨hb, 3, none⟩ = some (.pointer (some ⟨tb, 0, none⟩)) := by rw [cell_of_row _ _ 3 _ _ _ bh10]; rfl
    have kc0 : y10.cell? ⟨w.heap.size, 0, none⟩ = some (.string k0) := by rw [cell_of_row _ _ 0 _ _ _ d10]; rfl
    have kc1 : y10.cell? ⟨w.heap.size, 1, none⟩ = some (.int .i64 kn) := by rw [cell_of_row _ _ 1 _ _ _ d10]; rfl
    obtain ⟨v0, v1, v2, v3, v4, v5, v6, v7, v8, v9, v10, v11, v12⟩ := cells13 z10
    have x1 : hb < y10.heap.size := heapH_lt bh10
    have x2 : ob < y10.heap.size := heapH_lt bo10
    have x3 : w.heap.size < y10.heap.size := heapH_lt d10
    have x4 : w.heap.size + 1 < y10.heap.size := heapH_lt z10
    have y1 : ¬ CP (10 + 2 * (o - 1)) (f hb) := by rw [hX.out.1.2]; unfold CP C3; omega
    have y2' : ¬ CP (10 + 2 * (o - 1)) (f ob) := by rw [r2.out.2]; unfold CP C3; omega
    have y3 : ¬ CP (10 + 2 * (o - 1)) (f w.heap.size) := by rw [hN.out _ (Nat.le_refl _)]; unfold CP C3; omega
    have y4 : ¬ CP (10 + 2 * (o - 1)) (f (w.heap.size + 1)) := by rw [hN.out _ (Nat.le_succ _)]; unfold CP C3; omega
    have hps := cpS_drew y10 f (10 + 2 * (o - 1))
    replace T10 := Lib.hid T10
    replace k10 := Lib.hid k10
    replace bh10 := Lib.hid bh10
    replace bo10 := Lib.hid bo10
    replace d10 := Lib.hid d10
    replace z10 := Lib.hid z10
    replace n3 := Lib.hid n3
    clear hy10 hz9 hrg hst2 hy8
    go_wp2_with fail
    go_region_held3 (fun y => ∀ a : Addr, a.block < y10.heap.size → ¬ CP (10 + 2 * (o - 1)) (f a.block) → y.cell? a = y10.cell? a) (first | with_reducible assumption | with_reducible exact hps | exact cpS_turn (by assumption)) (first | (refine n3.out.mono ?_; rintro e y11 ⟨rfl, hPM⟩))
    have hfin := put_done hX.out ho.out r1.out r2.out.2 T10.out.drew bh10.out bo10.out hPM
    replace hfin := Lib.hid hfin
    clear v0 v1 v2 v3 v4 v5 v6 v7 v8 v9 v10 v11 v12 q4 c3 kc0 kc1 hps hPM n1 n2 nc
    go_wp2
    go_ret
    exact ⟨rfl, hfin.out.t⟩
end Go.Proofs.YtkbohoolnpaleaaGreatDoor
namespace Go.Proofs.YtkbohoolnpaleaaGreatDoor
open Go.RowKit Go.Shelf Go.Lib Go.Sort Go.Proofs Go.Maps
set_option maxHeartbeats 4000000
set_option maxRecDepth 100000

theorem c_HPutNF {w : World} {f : Nat → Nat} {hb B u : Nat} {lim : Int} {H : List OB} (hN : Norm f w) (h : HeapO w f hb lim u B H) (hB1 : 128 ≤ B) (hB : B < 90000) (o : Nat) (a : OB) (h0 : 0 < o) (ho : H[o - 1]? = some a) (k : KK) (hk : okK k) (p : PV) (p0 : 0 ≤ p.fl) (p15 : p.fl ≤ 15) (hg : (getL a.l (pk k)).isSome = false) (hcan : canL a.fast a.l (pk k) = false) (hlt : (u : Int) < lim) (hu : u ≤ 100000000) :
    Calls Tryz.prog 31 #[ptrV hb, .int .i64 (o : Int), keyV k.1 k.2, propV p] w fun e w' => e = .returned (.int .i64 0) ∧ HeapT w f hb lim (u + 1) (B + 1 + 1) (H.set (o - 1) { a with fast := false, l := putL a.l (pk k) (keptP p) }) w' := by
  obtain ⟨tb, L, rv, obs, hX0⟩ := h
  have hX : HeapX w f hb lim u B H tb L rv obs := hX0
  clear hX0
  obtain ⟨rb, c, ob, many, mv, n, ⟨c4, p1, p2, q0⟩, r1, r2, r3, r4, r5⟩ := HeapX.obj hX h0 ho
  obtain ⟨W2, hW2⟩ : ∃ W2, (w.alloc (.cells #[.string k.1, .int .i64 k.2] 43)).alloc (.cells (encP p).toArray 39) = W2 := ⟨_, rfl⟩
  have hb2 : Below w.heap.size w W2 := by rw [← hW2]; exact ((Below.refl _ w).alloc (Nat.le_refl _) _).alloc (by simp) _
  have hs2 : W2.heap.size = w.heap.size + 2 := by rw [← hW2]; simp
  have d0 : W2.heap[w.heap.size]? = some (.cells #[.string k.1, .int .i64 k.2] 43 (0, 0)) := by rw [← hW2, Below.heap_alloc _ _ _ (by simp)]; exact heap_alloc_new w _
  have z0 : W2.heap[w.heap.size + 1]? = some (.cells (encP p).toArray 39 (0, 0)) := by rw [← hW2]; exact heap_alloc2_new w _ _
  have kc0 : W2.cell? ⟨w.heap.size, 0, none⟩ = some (.string k.1) := by rw [cell_of_row _ _ 0 _ _ _ d0]; rfl
  have kc1 : W2.cell? ⟨w.heap.size, 1, none⟩ = some (.int .i64 k.2) := by rw [cell_of_row _ _ 1 _ _ _ d0]; rfl
  have zc : W2.cell? ⟨w.heap.size + 1, 12, none⟩ = some (.int .i64 p.fl) := by rw [cell_of_row _ _ 12 _ _ _ z0]; rfl
  have hN2 : Norm f W2.drew := fun r hr => hN r (Nat.le_trans hb2.size hr)
  have hH := c_HHas (hX.heap.below hN hb2) (o : Int)
  rw [hasH_of h0 ho] at hH
  have hT0 : Turn (fun _ => False) f f w W2.drew := Turn.of_below _ hN hb2.drew
  have hmo := fun (y : World) (hy : Below W2.heap.size W2 y) => mode_own (w := y) (Turn.of_below (fun _ => False) hN (hb2.trans (hy.mono hb2.size))).norm (hX.2.1.1.turn (Turn.of_below (fun _ => False) hN (hb2.trans (hy.mono hb2.size))) id id id id) (r3.keep (Turn.of_below (fun _ => False) hN (hb2.trans (hy.mono hb2.size))) id (fun _ _ h => h) (Nat.le_refl _)) k hk
  obtain ⟨T, mb, fn, rfl, m1, m2, mc, _⟩ := hmo W2.drew (Below.refl _ _).drew
  have m3 : ∀ y, Below W2.heap.size W2 y → Calls Tryz.prog fn #[ptrV mb, ptrV tb, .pointer none, keyV k.1 k.2] y fun e w' => Below y.heap.size y w' ∧ e = .returned (tellV (getL a.l (pk k))) := fun y hy => by
    obtain ⟨T', b', fn', e1, _, n2, _, n4⟩ := hmo y hy
    injection e1 with e1 e2
    injection e2 with e2
    have e3 := Option.some.inj e2
    injection e3 with e3 _
    subst e1
    subst e3
    have e5 := (m2 y).symm.trans (n2 y)
    injection e5 with e5 _
    injection e5 with e5 _
    subst e5
    exact n4
  clear hmo
  have hL : L.length < 100000 := by have := hX.2.1.2; omega
  have hput := fun (y : World) (C : Nat → Prop) (hT : Turn C f f w y) (hC : ∀ x, C x → x = 1 ∨ x = 11 + 2 * (o - 1)) => mode_put (w := y) (p := keptP p) hT.norm (hX.2.1.1.turn hT (fun h => by have := hC _ h; omega) (fun h => by have := hC _ h; omega) (fun h => by have := hC _ h; omega) (fun h => by have := hC _ h; omega)) hL (show 10 ≤ 10 + 2 * (o - 1) by omega) (r3.keep hT (fun h => by have := hC _ h; omega) (fun _ _ h => h) (Nat.le_refl _)) (by omega) k hk (by rw [keptP_fl]; exact p0) (by rw [keptP_fl]; exact p15)
  rw [hcan] at hput
  have hKe := c_Hkept p p0 p15
  have e4 := hb2.cell (p := ⟨hb, 4, none⟩) r4.1
  have e0 := hb2.cell (p := ⟨rb, o, none⟩) r4.2.1
  rw [← e4] at c4
  rw [← e0] at q0
  have bh : W2.heap[hb]? = _ := (hb2.block hb r4.1).trans hX.1.1
  have bo : W2.heap[ob]? = _ := (hb2.block ob r4.2.2).trans r2.1
  have c3 : W2.cell? ⟨hb, 3, none⟩ = some (ptrV tb) := by rw [cell_of_row _ _ 3 _ _ _ bh]; rfl
  have q4 : W2.cell? ⟨ob, 4, none⟩ = some (.iface T (ptrV mb)) := by rw [cell_of_row _ _ 4 _ _ _ bo]; rfl
  have t1 : w.heap.size < W2.heap.size := by omega
  have t2 : hb < W2.heap.size := by omega
  have t3 : rb < W2.heap.size := by omega
  have t4 : ob < W2.heap.size := by omega
  have nf1 : ¬ p.fl < 0 := by omega
  have nf2 : ¬ 15 < p.fl := by omega
  have hW20 : W2.heap.size ≤ W2.heap.size := Nat.le_refl _
  have hS6 : W2.heap.size = w.heap.size + 2 := hs2
  unfold ptrV keyV at *
  unfold tellV at m3
  rw [hg] at m3
  generalize hP : (getL a.l (pk k)).getD zeroPV = P at *
  unfold propV at *
  obtain ⟨k0, kn⟩ := k
  dsimp only at *
  generalize hK : pk (k0, kn) = K at *
  have P2ok : 0 ≤ (keptP p).fl ∧ (keptP p).fl ≤ 15 := by rw [keptP_fl]; exact ⟨p0, p15⟩
  replace P2ok := Lib.hid P2ok
  generalize keptP p = P2 at *
  have hst := fun (y : World) (b : Nat) (hy : ZB y b) => hy.store P
  have hst2 := fun (y : World) (b : Nat) (hy : ZB y b) => hy.store P2
  have hzb := zb_new
  have honto := onto_drew W2
  replace hH := Lib.hid hH
  replace m3 := Lib.hid m3
  replace hb2 := Lib.hid hb2
  replace hs2 := Lib.hid hs2
  replace hS6 := Lib.hid hS6
  replace z0 := Lib.hid z0
  replace d0 := Lib.hid d0
  replace bh := Lib.hid bh
  replace bo := Lib.hid bo
  replace hX := Lib.hid hX
  replace hput := Lib.hid hput
  replace hKe := Lib.hid hKe
  replace ho := Lib.hid ho
  replace hN := Lib.hid hN
  replace r1 := Lib.hid r1
  replace r2 := Lib.hid r2
  replace r5 := Lib.hid r5
  replace hg := Lib.hid hg
  replace hcan := Lib.hid hcan
  replace hK := Lib.hid hK
  replace hP := Lib.hid hP
  replace hk := Lib.hid hk
  replace hL := Lib.hid hL
  clear hT0 hN2 r3 e0 e4 hW20
  go_enter Tryz.func31, Tryz.ntmps31
  go_wp2_with (first | (go_at_call 20; refine hH.out.mono ?_; rintro e w1 ⟨rfl, e1⟩; cases e1))
  go_region_held3 (fun y => (∀ a : Addr, a.block < W2.heap.size → y.cell? a = W2.cell? a) ∧ (∀ b : Nat, b < W2.heap.size → y.heap[b]? = W2.heap[b]?) ∧ Below W2.heap.size W2 y) (first | with_reducible assumption | with_reducible exact honto | with_reducible exact onto_fresh W2 _ | with_reducible exact onto_below (by assumption) (by assumption) | with_reducible exact onto_alloc (by assumption) _ | exact onto_setC (by assumption) (by first | exact Nat.le_refl _ | assumption) _) (first | (refine (m3.out _ (And.right (And.right (by assumption)))).mono ?_; rintro e y2 ⟨hb5, rfl⟩; have hsz5 : W2.heap.size ≤ y2.heap.size := Nat.le_trans (by simp) hb5.size; try (have hzb2 : ZB y2 W2.heap.size := ZB.below (zb_newD W2) hb5)))
  all_goals
    rename_i hO6
    generalize World.setCells _ _ _ _ = y6 at *
    have bh6 := (hO6.2.1 hb t2).trans bh.out
    have bo6 := (hO6.2.1 ob t4).trans bo.out
    have d6 := (hO6.2.1 _ t1).trans d0.out
    have z6 := (hO6.2.1 _ (show w.heap.size + 1 < W2.heap.size by have := hS6.out; omega)).trans z0.out
    have hB6 := hb2.out.trans (hO6.2.2.mono hb2.out.size)
    have nhb : hb < w.heap.size := r4.1
    have nob : ob < w.heap.size := r4.2.2
    have nho : ob ≠ hb := r5.out.1
    clear hst hzb hO6 kc0 kc1 zc c4 q0 c3 q4 t1 t2 t3 t4 m1 m2 m3 hb5 hsz5
    try clear hzb2
    have l6 : y6.cell? ⟨hb, 1, none⟩ = some (.int .i64 lim) := by rw [cell_of_row _ _ 1 _ _ _ bh6]; rfl
    have u6 : y6.cell? ⟨hb, 2, none⟩ = some (.int .i64 (u : Int)) := by rw [cell_of_row _ _ 2 _ _ _ bh6]; rfl
    have n6 : y6.cell? ⟨ob, 3, none⟩ = some (.int .i64 many) := by rw [cell_of_row _ _ 3 _ _ _ bo6]; rfl
    have fu6 : y6.frozen? ⟨hb, 2, none⟩ = false := by simp [World.frozen?, bh6]
    have fn6 : y6.frozen? ⟨ob, 3, none⟩ = false := by simp [World.frozen?, bo6]
    have th6 := heapH_lt bh6
    have hdl : decide (lim ≤ (u : Int)) = false := decide_eq_false (by omega)
    obtain ⟨m', hm'⟩ : ∃ m', IntKind.i64.wrap (many + 1) = m' := ⟨_, rfl⟩
    have p0u : (0 : Int) ≤ (u : Int) := by omega
    have p1u : (u : Int) ≤ 100000000 := by omega
    obtain ⟨y8, hy8⟩ : ∃ y8, ((y6.setCell ⟨hb, 2, none⟩ (.int .i64 ((u : Int) + 1))).setCell ⟨ob, 3, none⟩ (.int .i64 m')).drew = y8 := ⟨_, rfl⟩
    have T8 : Turn (fun x => x = 1 ∨ x = 11 + 2 * (o - 1)) f f w y8 := by
      rw [← hy8]
      exact (((Turn.of_below _ hN.out hB6).set hb 2 _ (.inl hX.out.1.2)).set ob 3 _ (.inr r2.out.2)).drew
    have bh8 : y8.heap[hb]? = some (.cells #[.int .i64 1, .int .i64 lim, .int .i64 ((u + 1 : Nat) : Int), .pointer (some ⟨tb, 0, none⟩), rv] 57 (0, 0)) := by
      rw [← hy8]
      show ((y6.setCell ⟨hb, 2, none⟩ _).setCell ⟨ob, 3, none⟩ _).heap[hb]? = _
      rw [Below.heap_setCell _ _ _ _ nho.symm, heap_setCell_same y6 hb 2 _ _ _ bh6]; rfl
    have bo8 : y8.heap[ob]? = some (.cells #[.int .i64 a.cls, .int .i64 a.pro, .bool a.shut, .int .i64 m', .iface T (.pointer (some ⟨mb, 0, none⟩))] 94 (0, 0)) := by
      rw [← hy8]
      show ((y6.setCell ⟨hb, 2, none⟩ _).setCell ⟨ob, 3, none⟩ _).heap[ob]? = _
      rw [heap_setCell_same (y6.setCell ⟨hb, 2, none⟩ _) ob 3 _ _ _ ((Below.heap_setCell _ _ _ _ nho).trans bo6)]; rfl
    have d8 : y8.heap[w.heap.size]? = some (.cells #[.string k0, .int .i64 kn] 43 (0, 0)) := by
      rw [← hy8]
      show ((y6.setCell ⟨hb, 2, none⟩ _).setCell ⟨ob, 3, none⟩ _).heap[w.heap.size]? = _
      rw [Below.heap_setCell _ _ _ _ (show w.heap.size ≠ ob by omega), Below.heap_setCell _ _ _ _ (show w.heap.size ≠ hb by omega)]; exact d6
    have z8 : y8.heap[w.heap.size + 1]? = some (.cells (encP p).toArray 39 (0, 0)) := by
      rw [← hy8]
      show ((y6.setCell ⟨hb, 2, none⟩ _).setCell ⟨ob, 3, none⟩ _).heap[w.heap.size + 1]? = _
      rw [Below.heap_setCell _ _ _ _ (show w.heap.size + 1 ≠ ob by omega), Below.heap_setCell _ _ _ _ (show w.heap.size + 1 ≠ hb by omega)]; exact z6
    replace T8 := Lib.hid T8
    replace bh8 := Lib.hid bh8
    replace bo8 := Lib.hid bo8
    replace d8 := Lib.hid d8
    replace z8 := Lib.hid z8
    replace bh6 := Lib.hid bh6
    replace bo6 := Lib.hid bo6
    replace d6 := Lib.hid d6
    replace z6 := Lib.hid z6
    replace hB6 := Lib.hid hB6
    have hrg : y8.rangeAt (w.heap.size + 1) 0 (encP p) := fun j v hv => by rw [cell_of_row _ _ (0 + j) _ _ _ z8.out]; simpa using hv
    have hi13 : (Tryz.prog.info? 39).map (·.size) = some (encP p).length := infoProp
    have tokA : True := trivial
    go_wp2_with fail
    go_region_held3 (fun y => (∀ a : Addr, a.block < y6.heap.size → y.cell? a = y6.cell? a) ∧ (∀ b : Nat, b < y6.heap.size → y.heap[b]? = y6.heap[b]?) ∧ Below y6.heap.size y6 y) (first | with_reducible assumption | with_reducible exact onto_drew y6) (fail)
    go_wp2_with (first | (clear tokA; refine wpList_load_mid rfl 39 (.tmp 7) rfl (w.heap.size + 1) 0 rfl (encP p) _ hrg Tryz.underlying39 rfl hi13 ?_) | (go_at_call 46; refine (hKe.out _).mono ?_; rintro e y9 ⟨rfl, hb9⟩; have hz9 : ZB y9 (w.heap.size + 1) := ZB.below ⟨_, z8.out, rfl⟩ hb9; obtain ⟨y10, hy10⟩ : ∃ y10, y9.setCells (w.heap.size + 1) 0 (encP P2) = y10 := ⟨_, rfl⟩; replace hb9 := Lib.hid hb9))
    have T10 : Turn (fun x => x = 1 ∨ x = 11 + 2 * (o - 1)) f f w y10 := by rw [← hy10]; exact (T8.out.then hb9.out).setNew (Nat.le_succ _) _ _
    have k10 : ∀ r, r < y8.heap.size → r ≠ w.heap.size + 1 → y10.heap[r]? = y8.heap[r]? := fun r h1 h2 => by rw [← hy10, heap_setCells_ne _ _ _ h2]; exact hb9.out.block r h1
    have bh10 := (k10 hb (heapH_lt bh8.out) (by omega)).trans bh8.out
    have bo10 := (k10 ob (heapH_lt bo8.out) (by omega)).trans bo8.out
    have d10 := (k10 w.heap.size (heapH_lt d8.out) (by omega)).trans d8.out
    have z10 : y10.heap[w.heap.size + 1]? = some (.cells (encP P2).toArray 39 (0, 0)) := by
      rw [← hy10]
      exact heap_setCells_all ((hb9.out.block _ (heapH_lt z8.out)).trans z8.out) rfl
    obtain ⟨T', b', fn', ee, n1, n2, nc, n3⟩ := hput.out y10.drew _ T10.drew (fun x h => h)
    injection ee with ee1 ee2
    injection ee2 with ee2
    have ee3 := Option.some.inj ee2
    injection ee3 with ee3 _
    subst ee1
    subst ee3
    have q4 : y10.cell? ⟨ob, 4, none⟩ = some (.iface T (.pointer (some ⟨mb, 0, none⟩))) := by rw [cell_of_row _ _ 4 _ _ _ bo10]; rfl
    have c3 : y10.cell? ⟨hb, 3, none⟩ = some (.pointer (some ⟨tb, 0, none⟩)) := by rw [cell_of_row _ _ 3 _ _ _ bh10]; rfl
    have kc0 : y10.cell? ⟨w.heap.size, 0, none⟩ = some (.string k0) := by rw [cell_of_row _ _ 0 _ _ _ d10]; rfl
    have kc1 : y10.cell? ⟨w.heap.size, 1, none⟩ = some (.int .i64 kn) := by rw [cell_of_row _ _ 1 _ _ _ d10]; rfl
    obtain ⟨v0, v1, v2, v3, v4, v5, v6, v7, v8, v9, v10, v11, v12⟩ := cells13 z10
    have x1 : hb < y10.heap.size := heapH_lt bh10
    have x2 : ob < y10.heap.size := heapH_lt bo10
    have x3 : w.heap.size < y10.heap.size := heapH_lt d10
    have x4 : w.heap.size + 1 < y10.heap.size := heapH_lt z10
    have y1 : ¬ CP (10 + 2 * (o - 1)) (f hb) := by rw [hX.out.1.2]; unfold CP C3; omega
    have y2' : ¬ CP (10 + 2 * (o - 1)) (f ob) := by rw [r2.out.2]; unfold CP C3; omega
    have y3 : ¬ CP (10 + 2 * (o - 1)) (f w.heap.size) := by rw [hN.out _ (Nat.le_refl _)]; unfold CP C3; omega
    have y4 : ¬ CP (10 + 2 * (o - 1)) (f (w.heap.size + 1)) := by rw [hN.out _ (Nat.le_succ _)]; unfold CP C3; omega
    have hps := cpS_drew y10 f (10 + 2 * (o - 1))
    replace T10 := Lib.hid T10
    replace k10 := Lib.hid k10
    replace bh10 := Lib.hid bh10
    replace bo10 := Lib.hid bo10
    replace d10 := Lib.hid d10
    replace z10 := Lib.hid z10
    replace n3 := Lib.hid n3
    clear hy10 hz9 hrg hst2 hy8
    go_wp2_with fail
    go_region_held3 (fun y => ∀ a : Addr, a.block < y10.heap.size → ¬ CP (10 + 2 * (o - 1)) (f a.block) → y.cell? a = y10.cell? a) (first | with_reducible assumption | with_reducible exact hps | exact cpS_turn (by assumption)) (first | (refine n3.out.mono ?_; rintro e y11 ⟨rfl, hPM⟩))
    obtain ⟨f11, L11, P11, T11, X11, G11⟩ := put_doneY hX.out ho.out r1.out r2.out.2 T10.out.drew bh10.out bo10.out hPM
    have i1 : (H.set (o - 1) { a with l := a.l })[o - 1]? = some { a with l := a.l } := by
      have := (List.getElem?_eq_some_iff.1 ho.out).1
      rw [List.getElem?_set, if_pos rfl, if_pos this]
    have hff : a.fast = true := by
      have := hcan.out
      unfold canL at this
      cases h : a.fast with
      | true => rfl
      | false => rw [h] at this; cases this
    have hFo := c_HForce2X T11.norm X11 (by omega) o { a with l := a.l } h0 i1 hff
    have d11 : y11.heap[w.heap.size]? = _ := (P11.block w.heap.size x3 y3).trans d10.out
    have z11 : y11.heap[w.heap.size + 1]? = _ := (P11.block (w.heap.size + 1) x4 y4).trans z10.out
    have g3 : f11 w.heap.size = 0 := (P11.agree _ x3).trans (hN.out _ (Nat.le_refl _))
    have g4 : f11 (w.heap.size + 1) = 0 := (P11.agree _ x4).trans (hN.out _ (Nat.le_succ _))
    have hFo' : Calls Tryz.prog 47 #[.pointer (some ⟨hb, 0, none⟩), .int .i64 (o : Int)] y11 fun e w' => e = .returned (.int .i64 0) ∧ HeapTX y11 f11 hb lim (u + 1) (B + 1) ((H.set (o - 1) { a with l := a.l }).set (o - 1) { a with fast := false, l := a.l }) tb rv obs w' := hFo
    replace hFo' := Lib.hid hFo'
    replace T11 := Lib.hid T11
    replace G11 := Lib.hid G11
    replace P11 := Lib.hid P11
    replace X11 := Lib.hid X11
    replace i1 := Lib.hid i1
    replace d11 := Lib.hid d11
    replace z11 := Lib.hid z11
    replace g3 := Lib.hid g3
    replace g4 := Lib.hid g4
    clear v0 v1 v2 v3 v4 v5 v6 v7 v8 v9 v10 v11 v12 q4 c3 kc0 kc1 hps hPM n1 n2 nc hFo hff
    go_wp2_with (first | (go_at_call 47; refine hFo'.out.mono ?_; rintro e y12 ⟨rfl, hF12⟩; replace hF12 := Lib.hid hF12))
    obtain ⟨f12, L12, T12, X12, G12⟩ := hF12.out
    replace G12 := Lib.hid G12
    have i2 : ((H.set (o - 1) { a with l := a.l }).set (o - 1) { a with fast := false, l := a.l })[o - 1]? = some { a with fast := false, l := a.l } := by
      have := (List.getElem?_eq_some_iff.1 i1.out).1
      rw [List.getElem?_set, if_pos rfl, if_pos this]
    obtain ⟨rb2, c2, ob2, many2, mv2, nn2, ⟨_, _, _, _⟩, rr1, rr2, rr3, rr4, rr5⟩ := X12.obj h0 i2
    obtain rfl : ob2 = ob := by rw [r1.out] at rr1; exact (Option.some.inj rr1).symm
    have hL12 : L12.length < 100000 := by have := X12.2.1.2; omega
    have Tq : Turn (fun _ => False) f12 f12 y12 y12.drew := (Turn.refl _ T12.norm).drew
    have hput2 := mode_put (p := P2) Tq.norm (X12.2.1.1.turn Tq id id id id) hL12 (show 10 ≤ 10 + 2 * (o - 1) by omega) (rr3.keep Tq id (fun _ _ h => h) (Nat.le_refl _)) (by omega) (k0, kn) hk.out P2ok.out.1 P2ok.out.2
    have hcan2 : canL false a.l (pk (k0, kn)) = true := rfl
    dsimp only at hput2
    rw [hcan2, if_pos rfl, hK.out] at hput2
    obtain ⟨Tt, bb, fn2, eq2, n1, n2, nc, n3⟩ := hput2
    subst eq2
    have d12 := (T12.block _ (heapH_lt d11.out) (by rw [g3.out]; omega)).trans d11.out
    have z12 := (T12.block _ (heapH_lt z11.out) (by rw [g4.out]; omega)).trans z11.out
    have gg3 : f12 w.heap.size = 0 := (T12.agree _ (heapH_lt d11.out)).trans g3.out
    have gg4 : f12 (w.heap.size + 1) = 0 := (T12.agree _ (heapH_lt z11.out)).trans g4.out
    have bh12 := X12.1.1
    have q4 : y12.cell? ⟨ob2, 4, none⟩ = some (.iface Tt (.pointer (some ⟨bb, 0, none⟩))) := by rw [cell_of_row _ _ 4 _ _ _ rr2.1]; rfl
    have c3 : y12.cell? ⟨hb, 3, none⟩ = some (.pointer (some ⟨tb, 0, none⟩)) := by rw [cell_of_row _ _ 3 _ _ _ bh12]; rfl
    have kc0 : y12.cell? ⟨w.heap.size, 0, none⟩ = some (.string k0) := by rw [cell_of_row _ _ 0 _ _ _ d12]; rfl
    have kc1 : y12.cell? ⟨w.heap.size, 1, none⟩ = some (.int .i64 kn) := by rw [cell_of_row _ _ 1 _ _ _ d12]; rfl
    obtain ⟨v0, v1, v2, v3, v4, v5, v6, v7, v8, v9, v10, v11, v12⟩ := cells13 z12
    have xx1 : hb < y12.heap.size := heapH_lt bh12
    have xx2 : ob2 < y12.heap.size := heapH_lt rr2.1
    have xx3 : w.heap.size < y12.heap.size := heapH_lt d12
    have xx4 : w.heap.size + 1 < y12.heap.size := heapH_lt z12
    have yy1 : ¬ CP (10 + 2 * (o - 1)) (f12 hb) := by rw [X12.1.2]; unfold CP C3; omega
    have yy2 : ¬ CP (10 + 2 * (o - 1)) (f12 ob2) := by rw [rr2.2]; unfold CP C3; omega
    have yy3 : ¬ CP (10 + 2 * (o - 1)) (f12 w.heap.size) := by rw [gg3]; unfold CP C3; omega
    have yy4 : ¬ CP (10 + 2 * (o - 1)) (f12 (w.heap.size + 1)) := by rw [gg4]; unfold CP C3; omega
    have hps := cpS_drew y12 f12 (10 + 2 * (o - 1))
    unfold ptrV at n1 n2 n3
    unfold keyV propV at n3
    have hdone := fun (y13 : World) hPM2 => put_doneY (w' := y13) (l' := putL a.l K P2) X12 i2 rr1 rr2.2 ((Turn.refl (fun x => x = 1 ∨ x = 11 + 2 * (o - 1)) T12.norm).drew) bh12 rr2.1 hPM2
    replace hdone := Lib.hid hdone
    replace T12 := Lib.hid T12
    replace X12 := Lib.hid X12
    replace i2 := Lib.hid i2
    replace n3 := Lib.hid n3
    replace rr1 := Lib.hid rr1
    replace rr2 := Lib.hid rr2
    replace rr5 := Lib.hid rr5
    replace d12 := Lib.hid d12
    replace z12 := Lib.hid z12
    replace bh12 := Lib.hid bh12
    replace gg3 := Lib.hid gg3
    replace gg4 := Lib.hid gg4
    replace hL12 := Lib.hid hL12
    clear rr3 rr4 Tq hcan2
    go_wp2_with fail
    go_region_held3 (fun y => ∀ a : Addr, a.block < y12.heap.size → ¬ CP (10 + 2 * (o - 1)) (f12 a.block) → y.cell? a = y12.cell? a) (first | with_reducible assumption | with_reducible exact hps | exact cpS_turn (by assumption)) (first | (refine n3.out.mono ?_; rintro e y13 ⟨rfl, hPM2⟩))
    obtain ⟨f13, L13, _, T13, X13, G13⟩ := hdone.out _ hPM2
    have hfin : HeapT w f hb lim (u + 1) (B + 1 + 1) (H.set (o - 1) { a with fast := false, l := putL a.l K P2 }) y13 := by
      refine ⟨f13, ((T11.out.mono CO_ne9).trans T12.out).trans (T13.mono CO_ne9), ?_, (G11.out.trans G12.out).trans G13⟩
      have hh := X13.heap
      rw [List.set_set, List.set_set] at hh
      exact hh
    replace hfin := Lib.hid hfin
    clear v0 v1 v2 v3 v4 v5 v6 v7 v8 v9 v10 v11 v12 q4 c3 kc0 kc1 hps hPM2 n1 n2 nc
    go_wp2
    go_ret
    exact ⟨rfl, hfin.out⟩
end Go.Proofs.YtkbohoolnpaleaaGreatDoor
namespace Go.Proofs.YtkbohoolnpaleaaGreatDoor
open Go.RowKit Go.Shelf Go.Lib Go.Sort Go.Proofs Go.Maps
set_option maxHeartbeats 4000000
set_option maxRecDepth 100000

theorem c_HPut0 {w : World} {f : Nat → Nat} {hb B u : Nat} {lim : Int} {H : List OB} (hN : Norm f w) (h : HeapO w f hb lim u B H) (o : Int) (k : KK) (p : PV) (ho : hasH H o = false) :
    Calls Tryz.prog 31 #[ptrV hb, .int .i64 o, keyV k.1 k.2, propV p] w fun e w' => e = .returned (.int .i64 151) ∧ Below w.heap.size w w' := by
  obtain ⟨W2, hW2⟩ : ∃ W2, (w.alloc (.cells #[.string k.1, .int .i64 k.2] 43)).alloc (.cells (encP p).toArray 39) = W2 := ⟨_, rfl⟩
  have hb2 : Below w.heap.size w W2 := by rw [← hW2]; exact ((Below.refl _ w).alloc (Nat.le_refl _) _).alloc (by simp) _
  have z0 : W2.heap[w.heap.size + 1]? = some (.cells (encP p).toArray 39 (0, 0)) := by rw [← hW2]; exact heap_alloc2_new w _ _
  have zc : W2.cell? ⟨w.heap.size + 1, 12, none⟩ = some (.int .i64 p.fl) := by rw [cell_of_row _ _ 12 _ _ _ z0]; rfl
  have hH := c_HHas (h.below hN hb2) o
  rw [ho] at hH
  unfold ptrV keyV propV at *
  obtain ⟨k0, kn⟩ := k
  dsimp only at *
  replace hH := Lib.hid hH
  replace hb2 := Lib.hid hb2
  clear h hN ho z0
  go_enter Tryz.func31, Tryz.ntmps31
  go_wp2_with (first | (go_at_call 20; refine hH.out.mono ?_; rintro e w1 ⟨rfl, e1⟩; cases e1))
  go_ret
  exact ⟨rfl, hb2.out⟩
theorem c_HPutR {w : World} {f : Nat → Nat} {hb B u : Nat} {lim : Int} {H : List OB} (hN : Norm f w) (h : HeapO w f hb lim u B H) (o : Int) (k : KK) (p : PV) (ho : hasH H o = true) (hp : p.fl < 0 ∨ 15 < p.fl) :
    Calls Tryz.prog 31 #[ptrV hb, .int .i64 o, keyV k.1 k.2, propV p] w fun e w' => e = .returned (.int .i64 1) ∧ Below w.heap.size w w' := by
  obtain ⟨W2, hW2⟩ : ∃ W2, (w.alloc (.cells #[.string k.1, .int .i64 k.2] 43)).alloc (.cells (encP p).toArray 39) = W2 := ⟨_, rfl⟩
  have hb2 : Below w.heap.size w W2 := by rw [← hW2]; exact ((Below.refl _ w).alloc (Nat.le_refl _) _).alloc (by simp) _
  have z0 : W2.heap[w.heap.size + 1]? = some (.cells (encP p).toArray 39 (0, 0)) := by rw [← hW2]; exact heap_alloc2_new w _ _
  have zc : W2.cell? ⟨w.heap.size + 1, 12, none⟩ = some (.int .i64 p.fl) := by rw [cell_of_row _ _ 12 _ _ _ z0]; rfl
  have hH := c_HHas (h.below hN hb2) o
  rw [ho] at hH
  unfold ptrV keyV propV at *
  obtain ⟨k0, kn⟩ := k
  dsimp only at *
  replace hH := Lib.hid hH
  replace hb2 := Lib.hid hb2
  clear h hN ho z0
  rcases hp with hp | hp
  all_goals
  · try (have nf1 : ¬ p.fl < 0 := by omega)
    go_enter Tryz.func31, Tryz.ntmps31
    go_wp2_with (first | (go_at_call 20; refine hH.out.mono ?_; rintro e w1 ⟨rfl, e1⟩; cases e1))
    go_ret
    exact ⟨rfl, hb2.out⟩
theorem c_HPutL {w : World} {f : Nat → Nat} {hb B u : Nat} {lim : Int} {H : List OB} (hN : Norm f w) (h : HeapO w f hb lim u B H) (o : Nat) (a : OB) (h0 : 0 < o) (ho : H[o - 1]? = some a) (k : KK) (hk : okK k) (p : PV) (p0 : 0 ≤ p.fl) (p15 : p.fl ≤ 15) (hg : (getL a.l (pk k)).isSome = false) (hlt : lim ≤ (u : Int)) :
    Calls Tryz.prog 31 #[ptrV hb, .int .i64 (o : Int), keyV k.1 k.2, propV p] w fun e w' => e = .returned (.int .i64 150) ∧ Below w.heap.size w w' := by
  obtain ⟨tb, L, rv, obs, hX0⟩ := h
  have hX : HeapX w f hb lim u B H tb L rv obs := hX0
  clear hX0
  obtain ⟨rb, c, ob, many, mv, n, ⟨c4, p1, p2, q0⟩, r1, r2, r3, r4, r5⟩ := HeapX.obj hX h0 ho
  obtain ⟨W2, hW2⟩ : ∃ W2, (w.alloc (.cells #[.string k.1, .int .i64 k.2] 43)).alloc (.cells (encP p).toArray 39) = W2 := ⟨_, rfl⟩
  have hb2 : Below w.heap.size w W2 := by rw [← hW2]; exact ((Below.refl _ w).alloc (Nat.le_refl _) _).alloc (by simp) _
  have hs2 : W2.heap.size = w.heap.size + 2 := by rw [← hW2]; simp
  have d0 : W2.heap[w.heap.size]? = some (.cells #[.string k.1, .int .i64 k.2] 43 (0, 0)) := by rw [← hW2, Below.heap_alloc _ _ _ (by simp)]; exact heap_alloc_new w _
  have z0 : W2.heap[w.heap.size + 1]? = some (.cells (encP p).toArray 39 (0, 0)) := by rw [← hW2]; exact heap_alloc2_new w _ _
  have kc0 : W2.cell? ⟨w.heap.size, 0, none⟩ = some (.string k.1) := by rw [cell_of_row _ _ 0 _ _ _ d0]; rfl
  have kc1 : W2.cell? ⟨w.heap.size, 1, none⟩ = some (.int .i64 k.2) := by rw [cell_of_row _ _ 1 _ _ _ d0]; rfl
  have zc : W2.cell? ⟨w.heap.size + 1, 12, none⟩ = some (.int .i64 p.fl) := by rw [cell_of_row _ _ 12 _ _ _ z0]; rfl
  have hN2 : Norm f W2.drew := fun r hr => hN r (Nat.le_trans hb2.size hr)
  have hH := c_HHas (hX.heap.below hN hb2) (o : Int)
  rw [hasH_of h0 ho] at hH
  have hT0 : Turn (fun _ => False) f f w W2.drew := Turn.of_below _ hN hb2.drew
  have hmo := fun (y : World) (hy : Below W2.heap.size W2 y) => mode_own (w := y) (Turn.of_below (fun _ => False) hN (hb2.trans (hy.mono hb2.size))).norm (hX.2.1.1.turn (Turn.of_below (fun _ => False) hN (hb2.trans (hy.mono hb2.size))) id id id id) (r3.keep (Turn.of_below (fun _ => False) hN (hb2.trans (hy.mono hb2.size))) id (fun _ _ h => h) (Nat.le_refl _)) k hk
  obtain ⟨T, mb, fn, rfl, m1, m2, mc, _⟩ := hmo W2.drew (Below.refl _ _).drew
  have m3 : ∀ y, Below W2.heap.size W2 y → Calls Tryz.prog fn #[ptrV mb, ptrV tb, .pointer none, keyV k.1 k.2] y fun e w' => Below y.heap.size y w' ∧ e = .returned (tellV (getL a.l (pk k))) := fun y hy => by
    obtain ⟨T', b', fn', e1, _, n2, _, n4⟩ := hmo y hy
    injection e1 with e1 e2
    injection e2 with e2
    have e3 := Option.some.inj e2
    injection e3 with e3 _
    subst e1
    subst e3
    have e5 := (m2 y).symm.trans (n2 y)
    injection e5 with e5 _
    injection e5 with e5 _
    subst e5
    exact n4
  clear hmo
  have e4 := hb2.cell (p := ⟨hb, 4, none⟩) r4.1
  have e0 := hb2.cell (p := ⟨rb, o, none⟩) r4.2.1
  rw [← e4] at c4
  rw [← e0] at q0
  have bh : W2.heap[hb]? = _ := (hb2.block hb r4.1).trans hX.1.1
  have bo : W2.heap[ob]? = _ := (hb2.block ob r4.2.2).trans r2.1
  have c3 : W2.cell? ⟨hb, 3, none⟩ = some (ptrV tb) := by rw [cell_of_row _ _ 3 _ _ _ bh]; rfl
  have q4 : W2.cell? ⟨ob, 4, none⟩ = some (.iface T (ptrV mb)) := by rw [cell_of_row _ _ 4 _ _ _ bo]; rfl
  have t1 : w.heap.size < W2.heap.size := by omega
  have t2 : hb < W2.heap.size := by omega
  have t3 : rb < W2.heap.size := by omega
  have t4 : ob < W2.heap.size := by omega
  have nf1 : ¬ p.fl < 0 := by omega
  have nf2 : ¬ 15 < p.fl := by omega
  have hW20 : W2.heap.size ≤ W2.heap.size := Nat.le_refl _
  have hS6 : W2.heap.size = w.heap.size + 2 := hs2
  unfold ptrV keyV at *
  unfold tellV at m3
  rw [hg] at m3
  generalize hP : (getL a.l (pk k)).getD zeroPV = P at *
  unfold propV at *
  obtain ⟨k0, kn⟩ := k
  dsimp only at *
  generalize hK : pk (k0, kn) = K at *
  have hst := fun (y : World) (b : Nat) (hy : ZB y b) => hy.store P
  have hzb := zb_new
  have honto := onto_drew W2
  replace hH := Lib.hid hH
  replace m3 := Lib.hid m3
  replace hb2 := Lib.hid hb2
  replace hs2 := Lib.hid hs2
  replace hS6 := Lib.hid hS6
  replace z0 := Lib.hid z0
  replace d0 := Lib.hid d0
  replace bh := Lib.hid bh
  replace bo := Lib.hid bo
  replace hX := Lib.hid hX
  replace ho := Lib.hid ho
  replace hN := Lib.hid hN
  replace r1 := Lib.hid r1
  replace r2 := Lib.hid r2
  replace r5 := Lib.hid r5
  replace hg := Lib.hid hg
  replace hK := Lib.hid hK
  replace hP := Lib.hid hP
  replace hk := Lib.hid hk
  clear hT0 hN2 r3 e0 e4 hW20
  go_enter Tryz.func31, Tryz.ntmps31
  go_wp2_with (first | (go_at_call 20; refine hH.out.mono ?_; rintro e w1 ⟨rfl, e1⟩; cases e1))
  go_region_held3 (fun y => (∀ a : Addr, a.block < W2.heap.size → y.cell? a = W2.cell? a) ∧ (∀ b : Nat, b < W2.heap.size → y.heap[b]? = W2.heap[b]?) ∧ Below W2.heap.size W2 y) (first | with_reducible assumption | with_reducible exact honto | with_reducible exact onto_fresh W2 _ | with_reducible exact onto_below (by assumption) (by assumption) | with_reducible exact onto_alloc (by assumption) _ | exact onto_setC (by assumption) (by first | exact Nat.le_refl _ | assumption) _) (first | (refine (m3.out _ (And.right (And.right (by assumption)))).mono ?_; rintro e y2 ⟨hb5, rfl⟩; have hsz5 : W2.heap.size ≤ y2.heap.size := Nat.le_trans (by simp) hb5.size; try (have hzb2 : ZB y2 W2.heap.size := ZB.below (zb_newD W2) hb5)))
  all_goals
    rename_i hO6
    generalize World.setCells _ _ _ _ = y6 at *
    have bh6 := (hO6.2.1 hb t2).trans bh.out
    have bo6 := (hO6.2.1 ob t4).trans bo.out
    have d6 := (hO6.2.1 _ t1).trans d0.out
    have z6 := (hO6.2.1 _ (show w.heap.size + 1 < W2.heap.size by have := hS6.out; omega)).trans z0.out
    have hB6 := hb2.out.trans (hO6.2.2.mono hb2.out.size)
    have nhb : hb < w.heap.size := r4.1
    have nob : ob < w.heap.size := r4.2.2
    have nho : ob ≠ hb := r5.out.1
    clear hst hzb hO6 kc0 kc1 zc c4 q0 c3 q4 t1 t2 t3 t4 m1 m2 m3 hb5 hsz5
    try clear hzb2
    have l6 : y6.cell? ⟨hb, 1, none⟩ = some (.int .i64 lim) := by rw [cell_of_row _ _ 1 _ _ _ bh6]; rfl
    have u6 : y6.cell? ⟨hb, 2, none⟩ = some (.int .i64 (u : Int)) := by rw [cell_of_row _ _ 2 _ _ _ bh6]; rfl
    have th6 := heapH_lt bh6
    have hdl : decide (lim ≤ (u : Int)) = true := decide_eq_true hlt
    clear hlt
    replace hB6 := Lib.hid hB6
    replace bh6 := Lib.hid bh6
    replace bo6 := Lib.hid bo6
    replace d6 := Lib.hid d6
    replace z6 := Lib.hid z6
    clear nhb nob nho
    go_wp2_with fail
    go_region_held3 (fun y => (∀ a : Addr, a.block < y6.heap.size → y.cell? a = y6.cell? a) ∧ (∀ b : Nat, b < y6.heap.size → y.heap[b]? = y6.heap[b]?) ∧ Below y6.heap.size y6 y) (first | with_reducible assumption | with_reducible exact onto_drew y6) (fail)
    go_wp2_with fail
    go_ret
    exact ⟨rfl, hB6.out.drew⟩
end Go.Proofs.YtkbohoolnpaleaaGreatDoor
namespace Go.Proofs.YtkbohoolnpaleaaGreatDoor
open Go.RowKit Go.Shelf Go.Lib Go.Sort Go.Proofs Go.Maps
set_option maxHeartbeats 4000000
set_option maxRecDepth 100000

theorem c_HForceA {w : World} {f : Nat → Nat} {hb B u tb : Nat} {lim : Int} {H : List OB} {L : List (List KK)} {rv : Value} {obs : List Nat} (hN : Norm f w) (hX : HeapX w f hb lim u B H tb L rv obs) (hB1 : 128 ≤ B) (o : Nat) (a : OB) (h0 : 0 < o) (ho : H[o - 1]? = some a) :
    Calls Tryz.prog 47 #[ptrV hb, .int .i64 (o : Int)] w fun e w' => e = .returned (.int .i64 0) ∧ HeapTX w f hb lim u B (H.set (o - 1) { a with fast := false }) tb rv obs w' := by
  cases hf : a.fast with
  | true => exact c_HForce2X hN hX hB1 o a h0 ho hf
  | false =>
    refine (c_HForce1 hX.heap o a h0 ho hf).mono ?_
    rintro e w' ⟨rfl, rfl⟩
    refine ⟨rfl, ?_⟩
    have e1 : ({ a with fast := false } : OB) = a := by obtain ⟨a1, a2, a3, a4, a5⟩ := a; dsimp only at hf; subst hf; rfl
    have e2 : H.set (o - 1) { a with fast := false } = H := by
      rw [e1]
      apply List.ext_getElem?
      intro i
      rw [List.getElem?_set]
      split
      · rename_i e; subst e; rw [ho]; rw [if_pos (List.getElem?_eq_some_iff.1 ho).1]
      · rfl
    rw [e2]
    exact HeapTX.make hX (Turn.refl _ hN) hX (fun _ _ h => h)
/-- the count of cells is set -/
theorem HeapX.used {w : World} {f : Nat → Nat} {hb B u tb : Nat} {lim : Int} {H : List OB} {L : List (List KK)} {rv : Value} {obs : List Nat} (hN : Norm f w) (h : HeapX w f hb lim u B H tb L rv obs) (u' : Nat) :
    Turn (fun c => c = 1) f f w (w.setCell ⟨hb, 2, none⟩ (.int .i64 (u' : Int))) ∧ HeapX (w.setCell ⟨hb, 2, none⟩ (.int .i64 (u' : Int))) f hb lim u' B H tb L rv obs := by
  obtain ⟨q1, q2, q3, q4, q5⟩ := h
  have t1 : Turn (fun c => c = 1) f f w (w.setCell ⟨hb, 2, none⟩ (.int .i64 (u' : Int))) := (Turn.refl _ hN).set hb 2 _ q1.2
  refine ⟨t1, ⟨?_, q1.2⟩, ⟨q2.1.turn t1 (by omega) (by omega) (by omega) (by omega), q2.2⟩, q3.turn t1 (by omega), q4, fun i a hi => ?_⟩
  · rw [heap_setCell_same w hb 2 _ _ _ q1.1]; rfl
  · obtain ⟨ob, r1, r2⟩ := q5 i a hi
    exact ⟨ob, r1, r2.keep t1 (by omega) (by omega) (fun _ _ h => h) (Nat.le_refl _)⟩
/-- the heap when a dictionary has dropped a property -/
theorem drop_done {y7 y8 : World} {f7 : Nat → Nat} {hb B u tb i db ob : Nat} {lim : Int} {H : List OB} {L : List (List KK)} {rv : Value} {obs : List Nat} {a : OB} {l' : List (KK × PV)} (h : HeapX y7 f7 hb lim u B H tb L rv obs) (hi : H[i]? = some a) (ho : obs[i]? = some ob) (fo : f7 ob = 11 + 2 * i) {many : Int}
    (h2 : y7.heap[ob]? = some (.cells #[.int .i64 a.cls, .int .i64 a.pro, .bool a.shut, .int .i64 many, .iface 142 (ptrV db)] 94 (0, 0))) (hD : DropD y7 f7 (10 + 2 * i) db B l' y8) (hf : a.fast = false) :
    ∃ f8, Turn (CO i) f7 f8 y7 y8 ∧ HeapX y8 f8 hb lim u B (H.set i { a with l := l' }) tb L rv obs := by
  obtain ⟨f8, es', p1, p2, p3⟩ := hD
  have q1 := h.1
  have t1 : Turn (CO i) f7 f8 y7 y8 := p1.mono (fun x hx => .inr (.inr (.inl hx)))
  have q2 := h.2.1
  have b2 := (p1.block ob (heapH_lt h2) (by rw [fo]; omega)).trans h2
  exact ⟨f8, t1, h.upd hi ho t1 (fun _ h => h) ((p1.block hb (heapH_lt q1.1) (by rw [q1.2]; omega)).trans q1.1) (q2.1.turn p1 (by omega) (by omega) (by omega) (by omega)) (fun _ _ h => h) q2.2 (Nat.le_refl _) ⟨many, _, ⟨b2, by rw [p1.agree ob (heapH_lt h2), fo]; omega⟩, .inr ⟨hf, db, es', rfl, p2, p3.symm⟩⟩⟩
theorem drop_fin {y7 y8 : World} {f7 : Nat → Nat} {hb B u tb o db ob : Nat} {lim : Int} {H : List OB} {L : List (List KK)} {rv : Value} {obs : List Nat} {a : OB} {l' : List (KK × PV)} (h : HeapX y7 f7 hb lim u B H tb L rv obs) (h0 : 0 < o) (hi : H[o - 1]? = some a) (ho : obs[o - 1]? = some ob) (fo : f7 ob = 11 + 2 * (o - 1)) {many : Int}
    (h2 : y7.heap[ob]? = some (.cells #[.int .i64 a.cls, .int .i64 a.pro, .bool a.shut, .int .i64 many, .iface 142 (ptrV db)] 94 (0, 0))) (hD : DropD y7 f7 (10 + 2 * (o - 1)) db B l' y8) (hf : a.fast = false) :
    ∃ many', (y8.cell? ⟨ob, 3, none⟩ = some (.int .i64 many') ∧ y8.frozen? ⟨ob, 3, none⟩ = false ∧ y8.cell? ⟨hb, 2, none⟩ = some (.int .i64 (u : Int)) ∧ y8.frozen? ⟨hb, 2, none⟩ = false) ∧ ∀ (m' : Int) (u' : Nat), HeapTX y7 f7 hb lim u' B (H.set (o - 1) { a with l := l' }) tb rv obs ((y8.setCell ⟨ob, 3, none⟩ (.int .i64 m')).setCell ⟨hb, 2, none⟩ (.int .i64 (u' : Int))) := by
  obtain ⟨f8, T8, X8⟩ := drop_done h hi ho fo h2 hD hf
  have i8 : (H.set (o - 1) { a with l := l' })[o - 1]? = some { a with l := l' } := by
    have := (List.getElem?_eq_some_iff.1 hi).1
    rw [List.getElem?_set, if_pos rfl, if_pos this]
  obtain ⟨rb, c, ob', many', mv', n, _, r1, r2, r3, r4, r5⟩ := X8.obj h0 i8
  obtain rfl : ob' = ob := by rw [ho] at r1; exact (Option.some.inj r1).symm
  refine ⟨many', ⟨?_, ?_, ?_, ?_⟩, fun m' u' => ?_⟩
  · rw [cell_of_row _ _ 3 _ _ _ r2.1]; rfl
  · simp [World.frozen?, r2.1]
  · rw [cell_of_row _ _ 2 _ _ _ X8.1.1]; rfl
  · simp [World.frozen?, X8.1.1]
  · obtain ⟨f9, T9, X9⟩ := HeapX.field (a' := { a with l := l' }) (j := 3) (v := .int .i64 m') T8.norm X8 h0 i8 r1 r2.1 rfl rfl ⟨m', rfl⟩
    obtain ⟨T10, X10⟩ := X9.used T9.norm u'
    rw [List.set_set] at X10
    exact HeapTX.make h (((T8.mono CO_ne9).trans (T9.mono CO_ne9)).trans (T10.mono fun c hc => by omega)) X10 (fun _ _ h => h)
theorem c_HDropT {w : World} {f : Nat → Nat} {hb B u : Nat} {lim : Int} {H : List OB} (hN : Norm f w) (h : HeapO w f hb lim u B H) (hB1 : 128 ≤ B) (hB : B ≤ 100000) (o : Nat) (a : OB) (h0 : 0 < o) (ho : H[o - 1]? = some a) (k : KK) (hk : okK k) (j : Nat) (hj : idx (gk a.l) (pk k) = some j) (hu0 : 0 < u) (hu : u ≤ 100000000) :
    Calls Tryz.prog 84 #[ptrV hb, .int .i64 (o : Int), keyV k.1 k.2] w fun e w' => e = .returned (.bool true) ∧ HeapT w f hb lim (u - 1) B (H.set (o - 1) { a with fast := false, l := a.l.eraseIdx j }) w' := by
  obtain ⟨W1, hW1⟩ : ∃ W1, w.alloc (.cells #[.string k.1, .int .i64 k.2] 43) = W1 := ⟨_, rfl⟩
  have hb1 : Below w.heap.size w W1 := by rw [← hW1]; exact (Below.refl _ w).alloc (Nat.le_refl _) _
  have hs1 : W1.heap.size = w.heap.size + 1 := by rw [← hW1]; simp
  have d0 : W1.heap[w.heap.size]? = some (.cells #[.string k.1, .int .i64 k.2] 43 (0, 0)) := by rw [← hW1]; exact heap_alloc_new w _
  have kc0 : W1.cell? ⟨w.heap.size, 0, none⟩ = some (.string k.1) := by rw [cell_of_row _ _ 0 _ _ _ d0]; rfl
  have kc1 : W1.cell? ⟨w.heap.size, 1, none⟩ = some (.int .i64 k.2) := by rw [cell_of_row _ _ 1 _ _ _ d0]; rfl
  have hOw := c_HOwn (fun r hr => hN r (Nat.le_trans hb1.size hr)) (h.below hN hb1) (o : Int) k hk
  have e1 : (ownH H (o : Int) (pk k)).isSome = true := by
    unfold ownH objH
    rw [hasH_of h0 ho, if_pos rfl, Int.toNat_natCast, ho]
    dsimp only [Option.bind]
    rw [getL_idx, hj]; rfl
  unfold tellV at hOw
  rw [e1] at hOw
  generalize (ownH H (o : Int) (pk k)).getD zeroPV = P at *
  have hst := fun (y : World) (b : Nat) (hy : ZB y b) => hy.store P
  have hzb := zb_new
  obtain ⟨k0, kn⟩ := k
  unfold ptrV keyV propV at *
  dsimp only at *
  replace hOw := Lib.hid hOw
  replace h := Lib.hid h
  replace hN := Lib.hid hN
  replace hb1 := Lib.hid hb1
  replace hs1 := Lib.hid hs1
  replace d0 := Lib.hid d0
  replace ho := Lib.hid ho
  replace hj := Lib.hid hj
  replace hk := Lib.hid hk
  clear e1
  go_enter Tryz.func84, Tryz.ntmps84
  go_wp2_with (first | (go_at_call 9; refine hOw.out.mono ?_; rintro e w2 ⟨hb2, rfl⟩; have hz2 := hzb w2; clear kc0 kc1; replace hb2 := Lib.hid hb2))
  have hf6 := (fresh_set (w := w2) (o := (encP zeroPV).toArray) (t := 39) (vs := encP P) rfl).1
  have hB2 : Below w.heap.size w w2 := hb1.out.trans (hb2.out.mono hb1.out.size)
  have hB6 := hB2.trans (hf6.mono hB2.size)
  have d6 := (hf6.block w.heap.size (Nat.lt_of_lt_of_le (heapH_lt d0.out) hb2.out.size)).trans ((hb2.out.block _ (heapH_lt d0.out)).trans d0.out)
  clear hf6 hst hzb hz2
  change Calls Tryz.prog _ _ ((w2.alloc (.cells (encP zeroPV).toArray 39)).setCells w2.heap.size 0 (encP P)) _
  generalize (w2.alloc (.cells (encP zeroPV).toArray 39)).setCells w2.heap.size 0 (encP P) = y6 at *
  have T6 : Turn (fun _ => False) f f w y6 := Turn.of_below _ hN.out hB6
  obtain ⟨tb, L, rv, obs, hX⟩ := h.out.below hN.out hB6
  have hX6 : HeapX y6 f hb lim u B H tb L rv obs := hX
  clear hX
  refine (c_HForceA T6.norm hX6 hB1 o a h0 ho.out).mono ?_
  rintro e y7 ⟨rfl, f7, L7, T7, X7, G7⟩
  have G6 := (Grows.below f (hb := hb) hB6).trans G7
  replace G6 := Lib.hid G6
  clear G7
  have i7 : (H.set (o - 1) { a with fast := false })[o - 1]? = some { a with fast := false } := by
    have := (List.getElem?_eq_some_iff.1 ho.out).1
    rw [List.getElem?_set, if_pos rfl, if_pos this]
  have n6 : f w.heap.size = 0 := hN.out _ (Nat.le_refl _)
  have d7 := (T7.block _ (heapH_lt d6) (by rw [n6]; omega)).trans d6
  have n7 : f7 w.heap.size = 0 := (T7.agree _ (heapH_lt d6)).trans n6
  obtain ⟨rb, c, ob, many, mv, n, ⟨c4, p1, p2, q0⟩, r1, r2, r3, r4, r5⟩ := X7.obj h0 i7
  obtain ⟨db, es, rfl, hS, hes⟩ : ∃ db es, mv = .iface 142 (ptrV db) ∧ SlowO y7 f7 (10 + 2 * (o - 1)) db B es ∧ a.l = live es := by
    rcases r3 with ⟨h, _⟩ | ⟨_, h⟩
    · cases h
    · exact h
  have hD := c_SWdrop T7.norm hS hB (k0, kn) hk.out j (by rw [← hes]; exact hj.out)
  rw [← hes] at hD
  have kc0 : y7.cell? ⟨w.heap.size, 0, none⟩ = some (.string k0) := by rw [cell_of_row _ _ 0 _ _ _ d7]; rfl
  have kc1 : y7.cell? ⟨w.heap.size, 1, none⟩ = some (.int .i64 kn) := by rw [cell_of_row _ _ 1 _ _ _ d7]; rfl
  have q4 : y7.cell? ⟨ob, 4, none⟩ = some (.iface 142 (ptrV db)) := by rw [cell_of_row _ _ 4 _ _ _ r2.1]; rfl
  have hdone := fun y8 h => drop_fin (y8 := y8) (l' := a.l.eraseIdx j) X7 h0 i7 r1 r2.2 r2.1 h rfl
  have nob := r5.1
  obtain ⟨v, rfl⟩ : ∃ v, u = v + 1 := ⟨u - 1, by omega⟩
  have hpm : ((v + 1 : Nat) : Int) - 1 = (v : Int) := by omega
  have p0u : (0 : Int) ≤ ((v + 1 : Nat) : Int) := by omega
  have p1u : ((v + 1 : Nat) : Int) ≤ 100000000 := by omega
  have ta2 := ta_ss
  unfold ptrV keyV at *
  dsimp only at hD
  replace hD := Lib.hid hD
  replace hdone := Lib.hid hdone
  replace T7 := Lib.hid T7
  replace T6 := Lib.hid T6
  replace i7 := Lib.hid i7
  replace r1 := Lib.hid r1
  replace r5 := Lib.hid r5
  clear X7 hX6 hB6 hB2 hS hes r3 r4 d6 d7 r2 n6 n7
  go_wp2_with (first | (go_at_call 109; refine hD.out.mono ?_; rintro e y8 ⟨rfl, hD8⟩; clear q4 c4 q0 kc0 kc1 ta2; obtain ⟨many', ⟨k1, k2, k3, k4⟩, hfin⟩ := hdone.out y8 hD8; obtain ⟨m', hm'⟩ : ∃ m', IntKind.i64.wrap (many' - 1) = m' := ⟨_, rfl⟩; replace hfin := Lib.hid hfin; clear hD8 hdone))
  go_ret
  obtain ⟨f10, L10, T10, X10, G10⟩ := hfin.out m' v
  rw [List.set_set] at X10
  exact ⟨rfl, f10, ((T6.out.mono (fun _ h => h.elim)).trans T7.out).trans T10, X10.heap, G6.out.trans G10⟩

end Go.Proofs.YtkbohoolnpaleaaGreatDoor

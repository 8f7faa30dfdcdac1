/-
  HeapModes: which objects are forced to be dictionaries, and which caches are used, changes nothing that is told, but for the mode; where what it reads is of bulk at most 1048576.
-/
import Derived.Test.YtoccmiinkfhohaaGreatW17
import Derived.Test.YtoccmiinkfhohaaGreatW9
import Derived.Test.YtoccmiinkfhohaaGreatW16
import Derived.Test.YtoccmiinkfhohaaGreatW14
import Derived.Test.YtoccmiinkfhohaaGreatRows
import Derived.Deep.SlicePairs
import Derived.ProofKit
import Derived.OpenShut
import Derived.JoinedCond
import Derived.Carry
import Derived.Lib.SmallJoins
namespace Go.Proofs.YtoccmiinkfhohaaGreat
open Go.RowKit Go.Shelf Go.Lib Go.Sort Go.Proofs Go.Maps
set_option linter.unusedVariables false
set_option maxHeartbeats 2000000
set_option maxRecDepth 100000

/-- the contract of own, at an object's mode, by a cache -/
theorem mode_ownC {w : World} {f : Nat → Nat} {tb c B cb : Nat} {L : List (List KK)} {mv : Value} {fast : Bool} {l : List (KK × PV)} (hN : Norm f w) (hT : TreeO w f tb L) (h : ModeO w f c L B mv fast l) (hc0 : c ≠ 0) (hCa : CacheO w cb tb L) (hcf : f cb = 0) (k : KK) (hk : okK k) :
    ∃ (T : TypeId) (b fn : Nat), mv = .iface T (ptrV b) ∧ (∀ y, (nilAhead 295 T (ptrV b) "lintel/heap.own").run Tryz.prog y = .ok (some false) y) ∧ (∀ y, (method 295 T (ptrV b) "lintel/heap.own").run Tryz.prog y = .ok (fn, ptrV b) y) ∧ (∀ args y, (callFunc fn args).run Tryz.prog y = .ok (.enter fn args) y) ∧
      Calls Tryz.prog fn #[ptrV b, ptrV tb, ptrV cb, keyV k.1 k.2] w fun e w' => (w.grownBy w' (some cb) ∧ CacheO w' cb tb L) ∧ e = .returned (tellV (getL l (pk k))) := by
  rcases h with ⟨_, fb, ks, ps, rfl, h1, h2, rfl⟩ | ⟨_, db, es, rfl, h1, rfl⟩
  · have hlen : ks.length = ps.length := by obtain ⟨_, _, _, _, _, h4⟩ := h1; exact h4
    refine ⟨_, _, 108, rfl, fun y => by kernel_rfl, fun y => by kernel_rfl, Tryz.call108, ?_⟩
    refine (c_FAownC hN hT h1 hc0 hCa hcf k hk).mono ?_
    rintro e w' ⟨hb, ⟨i, p, q1, q2, rfl⟩ | ⟨q1, rfl⟩⟩
    · refine ⟨hb, ?_⟩
      rw [getL_some (by rw [gk_zip hlen]; exact q1) (zip_get (idx_some q1) q2)]; rfl
    · refine ⟨hb, ?_⟩
      rw [getL_none (by rw [gk_zip hlen]; exact q1)]; rfl
  · refine ⟨_, _, 120, rfl, fun y => by kernel_rfl, fun y => by kernel_rfl, Tryz.call120, ?_⟩
    have hlcb : cb < w.heap.size := by obtain ⟨_, _, _, _, _, _, _, _, q, _⟩ := hCa; exact heapH_lt q
    refine (c_SWown h1 _ _ k hk).mono ?_
    rintro e w' ⟨hb, ⟨i, p, q1, q2, rfl⟩ | ⟨q1, rfl⟩⟩
    · exact ⟨⟨gbk_below hb, hCa.at (hb.block cb hlcb) (fun _ _ h => h)⟩, by rw [getL_some q1 q2]; rfl⟩
    · exact ⟨⟨gbk_below hb, hCa.at (hb.block cb hlcb) (fun _ _ h => h)⟩, by rw [getL_none q1]; rfl⟩
/-- S of By's region -/
abbrev ByS (w W2 : World) (zb cb tb : Nat) (L : List (List KK)) (y : World) : Prop :=
  ((∀ a : Addr, a.block < W2.heap.size → a.block ≠ zb → a.block ≠ cb → y.cell? a = W2.cell? a) ∧ W2.heap.size ≤ y.heap.size) ∧ w.grownBy y (some cb) ∧ ZB y zb ∧ CacheO y cb tb L
theorem byS_drew {w W2 : World} {zb cb tb : Nat} {L : List (List KK)} (hb : Below w.heap.size w W2) (hz : ZB W2 zb) (hc : CacheO W2 cb tb L) : ByS w W2 zb cb tb L W2.drew :=
  ⟨⟨fun _ _ _ _ => rfl, Nat.le_refl _⟩, gbk_below hb.drew, hz, hc⟩
theorem byS_call {w W2 y y' : World} {zb cb tb : Nat} {L : List (List KK)} (hne : zb ≠ cb) (h : ByS w W2 zb cb tb L y) (hg : y.grownBy y' (some cb)) (hc : CacheO y' cb tb L) : ByS w W2 zb cb tb L y' := by
  obtain ⟨⟨h1, h2⟩, h3, ⟨cs, z1, z2⟩, h5⟩ := h
  exact ⟨⟨fun a ha n1 n2 => (World.cell?_of_block (hg.block a.block (Nat.lt_of_lt_of_le ha h2) (fun e => n2 (Option.some.inj e)))).trans (h1 a ha n1 n2), Nat.le_trans h2 hg.size⟩, gbk_trans h3 hg, ⟨cs, (hg.block zb (heapH_lt z1) (fun e => hne (Option.some.inj e))).trans z1, z2⟩, hc⟩
theorem byS_set {w W2 y : World} {zb cb tb : Nat} {L : List (List KK)} (hne : zb ≠ cb) (hzb : w.heap.size ≤ zb) (h : ByS w W2 zb cb tb L y) (vs : List Value) : ByS w W2 zb cb tb L (y.setCells zb 0 vs) := by
  obtain ⟨⟨h1, h2⟩, h3, ⟨cs, z1, z2⟩, h5⟩ := h
  obtain ⟨s1, s2, s3, s4⟩ := size_setCellsH zb vs 0 y
  refine ⟨⟨fun a ha n1 n2 => ?_, by rw [s1]; exact h2⟩, ⟨s2.trans h3.os, s3.trans h3.tape, s4.trans h3.output, by rw [s1]; exact h3.size, fun r hr hn => ?_⟩, ⟨_, heap_setCells vs 0 y cs z1, by simp [setL_len, z2]⟩, h5.at (heap_setCells_ne vs 0 y (fun e => hne e.symm)) (fun _ _ h => h)⟩
  · rw [World.cell?_of_block (heap_setCells_ne vs 0 y n1)]; exact h1 a ha n1 n2
  · rw [heap_setCells_ne vs 0 y (by omega)]; exact h3.block r hr hn
theorem HeapX.row {w : World} {f : Nat → Nat} {hb B u tb : Nat} {lim : Int} {H : List OB} {L : List (List KK)} {rv : Value} {obs : List Nat} (h : HeapX w f hb lim u B H tb L rv obs) {rb n c : Nat} (h4 : w.cell? ⟨hb, 4, none⟩ = some (.slice (some ⟨rb, 0, none⟩) n c)) : f rb = 2 := by
  obtain ⟨q1, q2, q3, q4, q5⟩ := h
  rw [cell_of_row _ _ 4 _ _ _ q1.1] at h4
  have e : rv = .slice (some ⟨rb, 0, none⟩) n c := Option.some.inj h4
  subst e
  exact q3.2 rb rfl
theorem c_HBy1C {w : World} {cb : Nat} {f : Nat → Nat} {hb B u : Nat} {lim : Int} {H : List OB} (hN : Norm f w) {tb : Nat} {L : List (List KK)} {rv : Value} {obs : List Nat} (hX : HeapX w f hb lim u B H tb L rv obs) (hCa : CacheO w cb tb L) (hcf : f cb = 0) (o : Nat) (a : OB) (h0 : 0 < o) (ho : H[o - 1]? = some a) (k : KK) (hk : okK k) :
    Calls Tryz.prog 13 #[ptrV hb, ptrV cb, .int .i64 (o : Int), keyV k.1 k.2] w fun e w' => (w.grownBy w' (some cb) ∧ CacheO w' cb tb L) ∧ e = .returned (tellV (getL a.l (pk k))) := by
  obtain ⟨rb, c, ob, many, mv, n, ⟨c4, p1, p2, q0⟩, r1, r2, r3, r4, r5⟩ := HeapX.obj hX h0 ho
  unfold keyV
  obtain ⟨k0, kn⟩ := k
  dsimp only
  obtain ⟨W2, hW2⟩ : ∃ W2, (w.alloc (.cells #[.string k0, .int .i64 kn] 31)).alloc (.cells (encP zeroPV).toArray 36) = W2 := ⟨_, rfl⟩
  have hb2 : Below w.heap.size w W2 := by rw [← hW2]; exact ((Below.refl _ w).alloc (Nat.le_refl _) _).alloc (by simp) _
  have hs2 : W2.heap.size = w.heap.size + 2 := by rw [← hW2]; simp
  have d0 : W2.heap[w.heap.size]? = some (.cells #[.string k0, .int .i64 kn] 31 (0, 0)) := by rw [← hW2, Below.heap_alloc _ _ _ (by simp)]; exact heap_alloc_new w _
  have z0 : W2.heap[w.heap.size + 1]? = some (.cells (encP zeroPV).toArray 36 (0, 0)) := by rw [← hW2]; exact heap_alloc2_new w _ _
  have kc0 : W2.cell? ⟨w.heap.size, 0, none⟩ = some (.string k0) := by rw [cell_of_row _ _ 0 _ _ _ d0]; rfl
  have kc1 : W2.cell? ⟨w.heap.size, 1, none⟩ = some (.int .i64 kn) := by rw [cell_of_row _ _ 1 _ _ _ d0]; rfl
  have hN2 : Norm f W2.drew := fun r hr => hN r (Nat.le_trans hb2.size hr)
  have hX2 := (HeapX.heap hX).below hN hb2
  have hH := c_HHas hX2 (o : Int)
  rw [hasH_of h0 ho] at hH
  have c3 : w.cell? ⟨hb, 3, none⟩ = some (ptrV tb) := by rw [cell_of_row _ _ 3 _ _ _ hX.1.1]; rfl
  have q4 : w.cell? ⟨ob, 4, none⟩ = some mv := by rw [cell_of_row _ _ 4 _ _ _ r2.1]; rfl
  have hT0 : Turn (fun _ => False) f f w W2.drew := Turn.of_below _ hN hb2.drew
  have hlcb : cb < w.heap.size := by obtain ⟨_, _, _, _, _, _, _, _, q, _⟩ := hCa; exact heapH_lt q
  have hCa2 : CacheO W2 cb tb L := hCa.at (hb2.block cb hlcb) (fun _ _ h => h)
  obtain ⟨T, mb, fn, rfl, m1, m2, mc, m3⟩ := mode_ownC hN2 (hX.2.1.1.turn hT0 id id id id) (r3.keep hT0 id (fun _ _ h => h) (Nat.le_refl _)) (by omega) (show CacheO W2.drew cb tb L from hCa2) hcf (k0, kn) hk
  have n1 : hb ≠ cb := fun e => by have := hX.1.2; rw [e, hcf] at this; omega
  have n2 : rb ≠ cb := fun e => by have := HeapX.row hX c4; rw [e, hcf] at this; omega
  have n3 : ob ≠ cb := fun e => by have := r2.2; rw [e, hcf] at this; omega
  have n4 : w.heap.size ≠ cb := by omega
  have n5 : w.heap.size + 1 ≠ cb := by omega
  have e4 := hb2.cell (p := ⟨hb, 4, none⟩) r4.1
  have e3 := hb2.cell (p := ⟨hb, 3, none⟩) r4.1
  have e0 := hb2.cell (p := ⟨rb, o, none⟩) r4.2.1
  have e5 := hb2.cell (p := ⟨ob, 4, none⟩) r4.2.2
  rw [← e4] at c4
  rw [← e3] at c3
  rw [← e0] at q0
  rw [← e5] at q4
  have t1 : w.heap.size < W2.heap.size := by omega
  have t2 : hb < W2.heap.size := by omega
  have t3 : rb < W2.heap.size := by omega
  have t4 : ob < W2.heap.size := by omega
  have u1 : w.heap.size ≠ w.heap.size + 1 := by omega
  have u2 : hb ≠ w.heap.size + 1 := by omega
  have u3 : rb ≠ w.heap.size + 1 := by omega
  have u4 : ob ≠ w.heap.size + 1 := by omega
  have hzb := byS_drew (w := w) (W2 := W2) (cb := cb) (tb := tb) (L := L) hb2 (zb := w.heap.size + 1) ⟨_, z0, rfl⟩ hCa2
  unfold ptrV keyV at *
  unfold tellV at m3 ⊢
  generalize hP : (getL a.l (pk (k0, kn))).getD zeroPV = P at *
  generalize hB : (getL a.l (pk (k0, kn))).isSome = bo at *
  unfold propV at m3 ⊢
  replace hH := Lib.hid hH
  replace m3 := Lib.hid m3
  replace hb2 := Lib.hid hb2
  replace hs2 := Lib.hid hs2
  replace z0 := Lib.hid z0
  simp only [encP, zeroPV, zeroVV] at hW2
  clear hX hX2 hT0 hN2 hCa hCa2 hcf r1 r2 r3 r4 r5 ho hN e0 e3 e4 e5 hP hB d0
  have hst := fun (y : World) (hy : ZB y (w.heap.size + 1)) => hy.store P
  go_enter Tryz.func13, Tryz.ntmps13
  go_wp2_with (first | (go_at_call 35; refine hH.out.mono ?_; rintro e w1 ⟨rfl, e1⟩; cases e1))
  go_region_held3 (fun y => ((∀ a : Addr, a.block < W2.heap.size → a.block ≠ w.heap.size + 1 → a.block ≠ cb → y.cell? a = W2.cell? a) ∧ W2.heap.size ≤ y.heap.size) ∧ w.grownBy y (some cb) ∧ ZB y (w.heap.size + 1) ∧ CacheO y cb tb L) (first | with_reducible assumption | with_reducible exact hzb | with_reducible exact byS_call n5 (by assumption) (And.left (by assumption)) (And.right (by assumption)) | with_reducible exact byS_set n5 (Nat.le_succ _) (by assumption) (encP P)) (first | (refine m3.out.mono ?_; rintro e y2 ⟨hb5, rfl⟩))
  all_goals
    have hS2 := byS_call n5 hzb hb5.1 hb5.2
    have z2 : y2.heap[w.heap.size + 1]? = some (.cells (encP zeroPV).toArray 36 (0, 0)) := (hb5.1.block _ (by show _ < W2.heap.size; have := hs2.out; omega) (fun e => n5 (Option.some.inj e))).trans z0.out
    have hz := heap_setCells_all (t := 36) (vs := encP P) z2 rfl
    have hbel := byS_set n5 (Nat.le_succ _) hS2 (encP P)
    generalize y2.setCells (w.heap.size + 1) 0 (encP P) = w6 at *
    replace hz := Lib.hid hz
    replace hbel := Lib.hid hbel
    clear hzb hst hb5 z2 m1 m2 mc hS2
    go_wp2_with fail
    refine bodyPost_ret (results_cell_tmp_row rfl _ _ (w.heap.size + 1) 36 (encP P).toArray (0, 0) _ rfl rfl hz.out infoProp) rfl ?_
    exact ⟨⟨hbel.out.2.1, hbel.out.2.2.2⟩, rfl⟩
theorem c_HByC {w : World} {f : Nat → Nat} {hb B u cb tb : Nat} {lim : Int} {H : List OB} {L : List (List KK)} (hN : Norm f w) (h : HeapO w f hb lim u B H) (hT : TreeAt w f hb tb L) (hCa : CacheO w cb tb L) (hcf : f cb = 0) (o : Int) (k : KK) (hk : okK k) :
    Calls Tryz.prog 13 #[ptrV hb, ptrV cb, .int .i64 o, keyV k.1 k.2] w fun e w' => (w.grownBy w' (some cb) ∧ CacheO w' cb tb L) ∧ e = .returned (tellV (ownH H o (pk k))) := by
  rcases objH_cases H o with ⟨h1, h2⟩ | ⟨n, a, rfl, h1, h2, h3, h4⟩
  · have : ownH H o (pk k) = none := by unfold ownH; rw [h2]; rfl
    rw [this]
    have hlcb : cb < w.heap.size := by obtain ⟨_, _, _, _, _, _, _, _, q, _⟩ := hCa; exact heapH_lt q
    refine (c_HBy0 hN h _ o h1 k).mono ?_
    rintro e w' ⟨hb, rfl⟩
    exact ⟨⟨gbk_below hb, hCa.at (hb.block cb hlcb) (fun _ _ h => h)⟩, rfl⟩
  · have : ownH H (n : Int) (pk k) = getL a.l (pk k) := by unfold ownH; rw [h3]; rfl
    rw [this]
    obtain ⟨tb', L', rv, obs, hX⟩ := h
    obtain ⟨_, ⟨a1, b1, c1, rv2, e1, _⟩, e2⟩ := hT
    have hh := hX.1.1
    rw [hh] at e1
    injection e1 with e1
    injection e1 with e1
    simp [ptrV] at e1
    obtain ⟨_, _, _, rfl, _⟩ := e1
    obtain rfl := hX.2.1.1.inj e2
    exact c_HBy1C hN hX hCa hcf n a h1 h2 k hk
end Go.Proofs.YtoccmiinkfhohaaGreat
namespace Go.Proofs.YtoccmiinkfhohaaGreat
open Go.RowKit Go.Shelf Go.Lib Go.Sort Go.Proofs Go.Maps
set_option linter.unusedVariables false
set_option maxHeartbeats 1000000
set_option maxRecDepth 100000

theorem Two.apart {w w' : World} {hb rb B : Nat} {lim : Int} {H : List OB} {f f2 : Nat → Nat} (h : Two w hb rb lim B H f f2) (ho : w'.os = w.os) (ht : w'.tape = w.tape) (hp : w'.output = w.output) (hs : w.heap.size ≤ w'.heap.size) (hk : ∀ r, r < w.heap.size → f r ≠ 0 ∨ f2 r ≠ 0 → w'.heap[r]? = w.heap[r]?) : Two w' hb rb lim B H f f2 := by
  obtain ⟨h1, h2, h3, h4, h5⟩ := h
  have t1 : Turn (fun c => c = 0) f f w w' := ⟨ho, ht, hp, hs, fun _ _ => rfl, h1.below hs, fun r hr hn => hk r hr (.inl hn)⟩
  have t2 : Turn (fun c => c = 0) f2 f2 w w' := ⟨ho, ht, hp, hs, fun _ _ => rfl, h2.below hs, fun r hr hn => hk r hr (.inr hn)⟩
  exact ⟨h1.below hs, h2.below hs, h3.turn t1 (fun _ h => h), h4.turn t2 (fun _ h => h), h5⟩
/-- a and r, b and q, and a's cache; K: blocks that are nobody's, and what they hold -/
def ModS (K : Nat → Obj → Prop) (W2 w : World) (h1 r1 h2 r2 cb : Nat) (lim : Int) (B : Nat) (H1 H2 : List OB) : Prop :=
  ∃ f1 f2 f3 f4, Two w h1 r1 lim B H1 f1 f2 ∧ Two w h2 r2 lim B H2 f3 f4 ∧ Below W2.heap.size W2 w ∧ (∀ r, r < W2.heap.size → (f1 r = 0 ∧ f2 r = 0) ∧ f3 r = 0 ∧ f4 r = 0) ∧ (∀ r, f3 r ≠ 0 ∨ f4 r ≠ 0 → f1 r = 0 ∧ f2 r = 0) ∧ (∃ tb L, TreeAt w f1 h1 tb L ∧ CacheO w cb tb L) ∧ ((f1 cb = 0 ∧ f2 cb = 0) ∧ f3 cb = 0 ∧ f4 cb = 0) ∧ (W2.heap.size ≤ cb ∧ cb < w.heap.size) ∧ ∀ b o, K b o → w.heap[b]? = some o ∧ ((f1 b = 0 ∧ f2 b = 0) ∧ f3 b = 0 ∧ f4 b = 0) ∧ b ≠ cb
section
variable {K : Nat → Obj → Prop} {W2 w w' : World} {h1 r1 h2 r2 cb B : Nat} {lim : Int} {H1 H2 : List OB}
theorem ModS.base (h : ModS K W2 w h1 r1 h2 r2 cb lim B H1 H2) : Below W2.heap.size W2 w := by
  obtain ⟨f1, f2, f3, f4, a1, a2, a3, _⟩ := h
  exact a3
theorem ModS.law1 (h : ModS K W2 w h1 r1 h2 r2 cb lim B H1 H2) : LawS W2 w h1 r1 lim B H1 := by
  obtain ⟨f1, f2, f3, f4, a1, a2, a3, a4, _⟩ := h
  exact ⟨f1, f2, a1, a3, fun r hr => (a4 r hr).1⟩
theorem ModS.law2 (h : ModS K W2 w h1 r1 h2 r2 cb lim B H1 H2) : LawS W2 w h2 r2 lim B H2 := by
  obtain ⟨f1, f2, f3, f4, a1, a2, a3, a4, _⟩ := h
  exact ⟨f3, f4, a2, a3, fun r hr => (a4 r hr).2⟩
theorem ModS.law3 (h : ModS K W2 w h1 r1 h2 r2 cb lim B H1 H2) (e : stp H1 = stp H2) : LawS W2 w h2 r1 lim B H2 := by
  obtain ⟨f1, f2, f3, f4, ⟨a1, a2, a3, a4, a5⟩, ⟨b1, b2, b3, b4, b5⟩, c1, c2, c3, _⟩ := h
  refine ⟨f3, f2, ⟨b1, a2, b3, by rw [← e]; exact a4, fun r hr => ?_⟩, c1, fun r hr => ⟨(c2 r hr).2.1, (c2 r hr).1.2⟩⟩
  by_cases h : f3 r = 0
  · exact h
  · exact absurd (c3 r (.inl h)).2 hr
theorem ModS.below (h : ModS K W2 w h1 r1 h2 r2 cb lim B H1 H2) (hb : Below w.heap.size w w') : ModS K W2 w' h1 r1 h2 r2 cb lim B H1 H2 := by
  obtain ⟨f1, f2, f3, f4, a1, a2, a3, a4, a5, ⟨tb, L, a6, a7⟩, a8, ⟨a9, a10⟩, a11⟩ := h
  exact ⟨f1, f2, f3, f4, a1.below hb, a2.below hb, a3.trans (hb.mono a3.size), a4, a5, ⟨tb, L, a6.turn (Turn.of_below (fun _ => False) a6.1 hb) (fun _ h => h.elim), a7.at (hb.block cb a10) (fun _ _ h => h)⟩, a8, ⟨a9, Nat.lt_of_lt_of_le a10 hb.size⟩, fun b o hK => ⟨(hb.block b (heapH_lt (a11 b o hK).1)).trans (a11 b o hK).1, (a11 b o hK).2⟩⟩
theorem ModS.forget (h : ModS K W2 w h1 r1 h2 r2 cb lim B H1 H2) : ModS (fun _ _ => False) W2 w h1 r1 h2 r2 cb lim B H1 H2 := by
  obtain ⟨f1, f2, f3, f4, a1, a2, a3, a4, a5, a6, a8, a9, a11⟩ := h
  exact ⟨f1, f2, f3, f4, a1, a2, a3, a4, a5, a6, a8, a9, fun _ _ h => h.elim⟩
theorem ModS.held {b : Nat} {o : Obj} (h : ModS K W2 w h1 r1 h2 r2 cb lim B H1 H2) (hK : K b o) : w.heap[b]? = some o := by
  obtain ⟨f1, f2, f3, f4, a1, a2, a3, a4, a5, a6, a8, a9, a11⟩ := h
  exact (a11 b o hK).1
/-- a block more is watched -/
theorem ModS.watch {b : Nat} {ob : Obj} (h : ModS (fun _ _ => False) W2 w h1 r1 h2 r2 cb lim B H1 H2) (hb' : Below w.heap.size w w') (hB : b = w.heap.size) (ho : w'.heap[b]? = some ob) : ModS (fun x o => x = b ∧ o = ob) W2 w' h1 r1 h2 r2 cb lim B H1 H2 := by
  have h' := h.below hb'
  obtain ⟨f1, f2, f3, f4, a1, a2, a3, a4, a5, a6, a8, a9, a11⟩ := h
  obtain ⟨tb, L, a6, a7⟩ := a6
  refine ⟨f1, f2, f3, f4, a1.below hb', a2.below hb', a3.trans (hb'.mono a3.size), a4, a5, ⟨tb, L, a6.turn (Turn.of_below (fun _ => False) a6.1 hb') (fun _ h => h.elim), a7.at (hb'.block cb a9.2) (fun _ _ h => h)⟩, a8, ⟨a9.1, Nat.lt_of_lt_of_le a9.2 hb'.size⟩, ?_⟩
  rintro x o ⟨rfl, rfl⟩
  exact ⟨ho, ⟨⟨a1.1 _ (by omega), a1.2.1 _ (by omega)⟩, a2.1 _ (by omega), a2.2.1 _ (by omega)⟩, by omega⟩
theorem TwoK.wide {w0 w : World} {f f2 f' f2' : Nat → Nat} (h : TwoK w0 w f f2 f' f2') : w0.heap.size ≤ w.heap.size := h.size
/-- the first pair has done an operation -/
theorem ModS.done1 {B' : Nat} {H' : List OB} (hB : B ≤ B') {f1 f2 f3 f4 : Nat → Nat} (a2 : Two w h2 r2 lim B H2 f3 f4) (a3 : Below W2.heap.size W2 w) (a4 : ∀ r, r < W2.heap.size → (f1 r = 0 ∧ f2 r = 0) ∧ f3 r = 0 ∧ f4 r = 0) (a5 : ∀ r, f3 r ≠ 0 ∨ f4 r ≠ 0 → f1 r = 0 ∧ f2 r = 0) (a6 : ∃ tb L, TreeAt w f1 h1 tb L ∧ CacheO w cb tb L) (a8 : (f1 cb = 0 ∧ f2 cb = 0) ∧ f3 cb = 0 ∧ f4 cb = 0) (a9 : W2.heap.size ≤ cb ∧ cb < w.heap.size) (aK : ∀ b o, K b o → w.heap[b]? = some o ∧ ((f1 b = 0 ∧ f2 b = 0) ∧ f3 b = 0 ∧ f4 b = 0) ∧ b ≠ cb) (hd : Done w w' h1 r1 lim B' H' f1 f2) : ModS K W2 w' h1 r1 h2 r2 cb lim B' H' H2 := by
  obtain ⟨f1', f2', g1, g2⟩ := hd
  obtain ⟨tb, L, a6, a7⟩ := a6
  obtain ⟨L', t1, t2⟩ := g2.grow tb L a6
  have hlt : ∀ r, f3 r ≠ 0 ∨ f4 r ≠ 0 → r < w.heap.size := fun r hr => Nat.lt_of_not_le fun hle => by
    rcases hr with h | h
    · exact h (a2.1 r hle)
    · exact h (a2.2.1 r hle)
  refine ⟨f1', f2', f3, f4, g1, (a2.apart g2.os g2.tape g2.output g2.size (fun r hr hn => g2.block r hr (a5 r hn).1 (a5 r hn).2)).mono hB, a3.trans (g2.below a3.size (fun r hr => (a4 r hr).1)), fun r hr => ?_, fun r hr => ?_, ⟨tb, L', t1, a7.at (g2.block cb a9.2 a8.1.1 a8.1.2) t2⟩, ?_, ⟨a9.1, Nat.lt_of_lt_of_le a9.2 g2.size⟩, fun b o hK => ?_⟩
  · obtain ⟨q1, q2⟩ := g2.own r (Nat.lt_of_lt_of_le hr a3.size)
    rw [q1, q2]
    exact a4 r hr
  · obtain ⟨q1, q2⟩ := g2.own r (hlt r hr)
    rw [q1, q2]
    exact a5 r hr
  · obtain ⟨q1, q2⟩ := g2.own cb a9.2
    rw [q1, q2]
    exact a8
  · obtain ⟨k1, k2, k3⟩ := aK b o hK
    obtain ⟨q1, q2⟩ := g2.own b (heapH_lt k1)
    rw [q1, q2]
    exact ⟨(g2.block b (heapH_lt k1) k2.1.1 k2.1.2).trans k1, k2, k3⟩
/-- the second pair has -/
theorem ModS.done2 {B' : Nat} {H' : List OB} (hB : B ≤ B') {f1 f2 f3 f4 : Nat → Nat} (a1 : Two w h1 r1 lim B H1 f1 f2) (a3 : Below W2.heap.size W2 w) (a4 : ∀ r, r < W2.heap.size → (f1 r = 0 ∧ f2 r = 0) ∧ f3 r = 0 ∧ f4 r = 0) (a5 : ∀ r, f3 r ≠ 0 ∨ f4 r ≠ 0 → f1 r = 0 ∧ f2 r = 0) (a6 : ∃ tb L, TreeAt w f1 h1 tb L ∧ CacheO w cb tb L) (a8 : (f1 cb = 0 ∧ f2 cb = 0) ∧ f3 cb = 0 ∧ f4 cb = 0) (a9 : W2.heap.size ≤ cb ∧ cb < w.heap.size) (aK : ∀ b o, K b o → w.heap[b]? = some o ∧ ((f1 b = 0 ∧ f2 b = 0) ∧ f3 b = 0 ∧ f4 b = 0) ∧ b ≠ cb) (hd : Done w w' h2 r2 lim B' H' f3 f4) : ModS K W2 w' h1 r1 h2 r2 cb lim B' H1 H' := by
  obtain ⟨f3', f4', g1, g2⟩ := hd
  obtain ⟨tb, L, a6, a7⟩ := a6
  have hz : ∀ r, f1 r ≠ 0 ∨ f2 r ≠ 0 → f3 r = 0 ∧ f4 r = 0 := fun r hr => by
    by_cases e3 : f3 r = 0
    · by_cases e4 : f4 r = 0
      · exact ⟨e3, e4⟩
      · have := a5 r (.inr e4); omega
    · have := a5 r (.inl e3); omega
  have t1 : Turn (fun c => c = 0) f1 f1 w w' := ⟨g2.os, g2.tape, g2.output, g2.size, fun _ _ => rfl, a1.1.below g2.size, fun r hr hn => g2.block r hr (hz r (.inl hn)).1 (hz r (.inl hn)).2⟩
  refine ⟨f1, f2, f3', f4', (a1.apart g2.os g2.tape g2.output g2.size (fun r hr hn => g2.block r hr (hz r hn).1 (hz r hn).2)).mono hB, g1, a3.trans (g2.below a3.size (fun r hr => (a4 r hr).2)), fun r hr => ?_, fun r hr => ?_, ⟨tb, L, a6.turn t1 (fun _ h => .inl h), a7.at (g2.block cb a9.2 a8.2.1 a8.2.2) (fun _ _ h => h)⟩, ?_, ⟨a9.1, Nat.lt_of_lt_of_le a9.2 g2.size⟩, fun b o hK => ?_⟩
  · obtain ⟨q1, q2⟩ := g2.own r (Nat.lt_of_lt_of_le hr a3.size)
    rw [q1, q2]
    exact a4 r hr
  · by_cases hlt : r < w.heap.size
    · obtain ⟨q1, q2⟩ := g2.own r hlt
      rw [q1, q2] at hr
      exact a5 r hr
    · exact ⟨a1.1 r (by omega), a1.2.1 r (by omega)⟩
  · obtain ⟨q1, q2⟩ := g2.own cb a9.2
    rw [q1, q2]
    exact a8
  · obtain ⟨k1, k2, k3⟩ := aK b o hK
    obtain ⟨q1, q2⟩ := g2.own b (heapH_lt k1)
    rw [q1, q2]
    exact ⟨(g2.block b (heapH_lt k1) k2.2.1 k2.2.2).trans k1, k2, k3⟩
theorem m_do1 (h : ModS K W2 w h1 r1 h2 r2 cb lim B H1 H2) (hB1 : 128 ≤ B) (hB : B < 90000) (hu : usedH H1 ≤ 100000) (x : OP) (hk : okK x.k) :
    Calls Tryz.prog 9 #[.pointer (some ⟨h1, 0, none⟩), .pointer (some ⟨r1, 0, none⟩), .agg (encO x).toArray] w fun e w' => e = .returned (.bool true) ∧ ModS K W2 w' h1 r1 h2 r2 cb lim (B + 2) (opH lim H1 x) H2 := by
  obtain ⟨f1, f2, f3, f4, a1, a2, a3, a4, a5, a6, a8, a9, aK⟩ := h
  refine (c_do15 a1 hB1 hB hu x hk).mono ?_
  rintro e w' ⟨rfl, hd⟩
  exact ⟨rfl, ModS.done1 (by omega) a2 a3 a4 a5 a6 a8 a9 aK hd⟩
theorem m_do2 (h : ModS K W2 w h1 r1 h2 r2 cb lim B H1 H2) (hB1 : 128 ≤ B) (hB : B < 90000) (hu : usedH H2 ≤ 100000) (x : OP) (hk : okK x.k) :
    Calls Tryz.prog 9 #[.pointer (some ⟨h2, 0, none⟩), .pointer (some ⟨r2, 0, none⟩), .agg (encO x).toArray] w fun e w' => e = .returned (.bool true) ∧ ModS K W2 w' h1 r1 h2 r2 cb lim (B + 2) H1 (opH lim H2 x) := by
  obtain ⟨f1, f2, f3, f4, a1, a2, a3, a4, a5, a6, a8, a9, aK⟩ := h
  refine (c_do15 a2 hB1 hB hu x hk).mono ?_
  rintro e w' ⟨rfl, hd⟩
  exact ⟨rfl, ModS.done2 (by omega) a1 a3 a4 a5 a6 a8 a9 aK hd⟩
theorem m_force (h : ModS K W2 w h1 r1 h2 r2 cb lim B H1 H2) (hB1 : 128 ≤ B) (o : Int) :
    Calls Tryz.prog 12 #[.pointer (some ⟨h2, 0, none⟩), .int .i64 o] w fun e w' => (∃ v, e = .returned (.int .i64 v)) ∧ ModS K W2 w' h1 r1 h2 r2 cb lim B H1 (updH H2 o forceA) := by
  obtain ⟨f1, f2, f3, f4, a1, a2, a3, a4, a5, a6, a8, a9, aK⟩ := h
  refine (t_HForce a2 (TwoG.refl h2 w f3 f4) hB1 o).mono ?_
  rintro e w' ⟨rfl, hd⟩
  exact ⟨⟨_, rfl⟩, ModS.done2 (Nat.le_refl _) a1 a3 a4 a5 a6 a8 a9 aK hd⟩
theorem m_By1 (h : ModS K W2 w h1 r1 h2 r2 cb lim B H1 H2) (o : Int) (k : KK) (hk : okK k) :
    Calls Tryz.prog 13 #[.pointer (some ⟨h1, 0, none⟩), .pointer (some ⟨cb, 0, none⟩), .int .i64 o, .agg #[.string k.1, .int .i64 k.2]] w fun e w' => e = .returned (.tuple #[.agg (encP ((ownH H1 o (pk k)).getD zeroPV)).toArray, .bool (ownH H1 o (pk k)).isSome]) ∧ ModS K W2 w' h1 r1 h2 r2 cb lim B H1 H2 := by
  obtain ⟨f1, f2, f3, f4, a1, a2, a3, a4, a5, ⟨tb, L, a6, a7⟩, a8, ⟨a9, a10⟩, aK⟩ := h
  refine (c_HByC a1.1 a1.2.2.1 a6 a7 a8.1.1 o k hk).mono ?_
  rintro e w' ⟨⟨hg, hc⟩, rfl⟩
  have hk : ∀ r, r < w.heap.size → r ≠ cb → w'.heap[r]? = w.heap[r]? := fun r hr hn => hg.block r hr (fun e => hn (Option.some.inj e))
  have n1 : ∀ (g : Nat → Nat), g cb = 0 → ∀ r, g r ≠ 0 → r ≠ cb := fun g h0 r hr e => hr (by rw [e]; exact h0)
  have t1 : Turn (fun c => c = 0) f1 f1 w w' := ⟨hg.os, hg.tape, hg.output, hg.size, fun _ _ => rfl, a1.1.below hg.size, fun r hr hn => hk r hr (n1 f1 a8.1.1 r hn)⟩
  refine ⟨rfl, f1, f2, f3, f4, a1.apart hg.os hg.tape hg.output hg.size (fun r hr hn => ?_), a2.apart hg.os hg.tape hg.output hg.size (fun r hr hn => ?_), ⟨hg.os.trans a3.os, hg.tape.trans a3.tape, hg.output.trans a3.output, Nat.le_trans a3.size hg.size, fun r hr => (hk r (Nat.lt_of_lt_of_le hr a3.size) (by omega)).trans (a3.block r hr)⟩, a4, a5, ⟨tb, L, a6.turn t1 (fun _ h => .inl h), hc⟩, a8, ⟨a9, Nat.lt_of_lt_of_le a10 hg.size⟩, fun b o hK => ⟨(hk b (heapH_lt (aK b o hK).1) (aK b o hK).2.2).trans (aK b o hK).1, (aK b o hK).2⟩⟩
  · rcases hn with h | h
    · exact hk r hr (n1 f1 a8.1.1 r h)
    · exact hk r hr (n1 f2 a8.1.2 r h)
  · rcases hn with h | h
    · exact hk r hr (n1 f3 a8.2.1 r h)
    · exact hk r hr (n1 f4 a8.2.2 r h)
theorem m_By2 (h : ModS K W2 w h1 r1 h2 r2 cb lim B H1 H2) (o : Int) (k : KK) (hk : okK k) :
    Calls Tryz.prog 13 #[.pointer (some ⟨h2, 0, none⟩), .pointer none, .int .i64 o, .agg #[.string k.1, .int .i64 k.2]] w fun e w' => e = .returned (.tuple #[.agg (encP ((ownH H2 o (pk k)).getD zeroPV)).toArray, .bool (ownH H2 o (pk k)).isSome]) ∧ Below w.heap.size w w' := by
  obtain ⟨f1, f2, f3, f4, a1, a2, a3, a4, a5, a6, a8, a9⟩ := h
  refine (c_HBy a2.1 a2.2.2.1 o k hk).mono ?_
  rintro e w' ⟨hb, rfl⟩
  exact ⟨rfl, hb⟩
end
theorem stp_ownE {H1 H2 : List OB} (h : stp H1 = stp H2) (o : Int) (K : KK) : ownH H2 o K = ownH H1 o K := by
  rw [← stp_own H2, ← h, stp_own]
theorem stp_usedE {H1 H2 : List OB} (h : stp H1 = stp H2) : usedH H2 = usedH H1 := by
  rw [← stp_used H2, ← h, stp_used]
theorem stp_opE {H1 H2 : List OB} (h : stp H1 = stp H2) (lim : Int) (x : OP) : stp (opH lim H1 x) = stp (opH lim H2 x) := by
  unfold opH
  split
  · rw [← stp_make, ← stp_make, h]
  · split
    · rw [← stp_put, ← stp_put, h]
    · split
      · rw [← stp_drop, ← stp_drop, h]
      · split
        · rw [← stp_set, ← stp_set, h]
        · split
          · rw [← stp_shut, ← stp_shut, h]
          · rw [stp_force, stp_force, h]
/-- the four heaps, and the cache, made anew -/
theorem mod_new {w wa wb wr wq wc : World} {f1 f2 f3 f4 : Nat → Nat} {h1 r1 h2 r2 cb : Nat} {lim : Int} (t1 : Turn (fun _ => False) (fun _ => 0) f1 w wa) (q1 : HeapO wa f1 h1 lim 0 128 []) (t3 : Turn (fun _ => False) (fun _ => 0) f3 wa wb) (q3 : HeapO wb f3 h2 lim 0 128 []) (t2 : Turn (fun _ => False) (fun _ => 0) f2 wb wr) (q2 : RefO wr f2 r1 lim []) (t4 : Turn (fun _ => False) (fun _ => 0) f4 wr wq) (q4 : RefO wq f4 r2 lim [])
    (hc : Below wq.heap.size wq wc) (hcb : wq.heap.size ≤ cb) (hcc : wc.heap[cb]? = some (.cells (encC 0 false 0 (⟨#[]⟩, 0) 0 0 false 0 0) 83 (0, 0))) : ModS (fun _ _ => False) w wc h1 r1 h2 r2 cb lim 128 [] [] := by
  have b1 : Below w.heap.size w wa := t1.below (Nat.le_refl _) (fun _ _ h => h)
  have b3 : Below wa.heap.size wa wb := t3.below (Nat.le_refl _) (fun _ _ h => h)
  have b2 : Below wb.heap.size wb wr := t2.below (Nat.le_refl _) (fun _ _ h => h)
  have b4 : Below wr.heap.size wr wq := t4.below (Nat.le_refl _) (fun _ _ h => h)
  have s1 := b1.size
  have s3 := b3.size
  have s2 := b2.size
  have s4 := b4.size
  have s5 := hc.size
  have i1 : ∀ r, f1 r ≠ 0 → w.heap.size ≤ r ∧ r < wa.heap.size := fun r hr => ⟨Nat.le_of_not_lt fun h => hr (t1.agree r h), Nat.lt_of_not_le fun h => hr (t1.norm r h)⟩
  have i3 : ∀ r, f3 r ≠ 0 → wa.heap.size ≤ r ∧ r < wb.heap.size := fun r hr => ⟨Nat.le_of_not_lt fun h => hr (t3.agree r h), Nat.lt_of_not_le fun h => hr (t3.norm r h)⟩
  have i2 : ∀ r, f2 r ≠ 0 → wb.heap.size ≤ r ∧ r < wr.heap.size := fun r hr => ⟨Nat.le_of_not_lt fun h => hr (t2.agree r h), Nat.lt_of_not_le fun h => hr (t2.norm r h)⟩
  have i4 : ∀ r, f4 r ≠ 0 → wr.heap.size ≤ r ∧ r < wq.heap.size := fun r hr => ⟨Nat.le_of_not_lt fun h => hr (t4.agree r h), Nat.lt_of_not_le fun h => hr (t4.norm r h)⟩
  have z1 : ∀ r, ¬ (w.heap.size ≤ r ∧ r < wa.heap.size) → f1 r = 0 := fun r h => Classical.byContradiction fun e => h (i1 r e)
  have z3 : ∀ r, ¬ (wa.heap.size ≤ r ∧ r < wb.heap.size) → f3 r = 0 := fun r h => Classical.byContradiction fun e => h (i3 r e)
  have z2 : ∀ r, ¬ (wb.heap.size ≤ r ∧ r < wr.heap.size) → f2 r = 0 := fun r h => Classical.byContradiction fun e => h (i2 r e)
  have z4 : ∀ r, ¬ (wr.heap.size ≤ r ∧ r < wq.heap.size) → f4 r = 0 := fun r h => Classical.byContradiction fun e => h (i4 r e)
  have bac : Below wa.heap.size wa wc := b3.trans ((b2.trans ((b4.trans (hc.mono s4)).mono s2)).mono s3)
  have bbc : Below wb.heap.size wb wc := b2.trans ((b4.trans (hc.mono s4)).mono s2)
  have brc : Below wr.heap.size wr wc := b4.trans (hc.mono s4)
  have H1 := q1.below t1.norm bac
  have N1 := t1.norm.below bac.size
  have T1 : Two wc h1 r1 lim 128 [] f1 f2 := ⟨N1, t2.norm.below brc.size, H1, q2.below t2.norm brc, fun r hr => z1 r (by have := i2 r hr; omega)⟩
  have T2 : Two wc h2 r2 lim 128 [] f3 f4 := ⟨t3.norm.below bbc.size, t4.norm.below hc.size, q3.below t3.norm bbc, q4.below t4.norm hc, fun r hr => z3 r (by have := i4 r hr; omega)⟩
  have hA : ∃ tb L, TreeAt wc f1 h1 tb L ∧ CacheO wc cb tb L := by
    obtain ⟨tb, L, rv, obs, hX⟩ := H1
    have hX' : HeapX wc f1 h1 lim 0 128 [] tb L rv obs := hX
    exact ⟨tb, L, ⟨N1, ⟨_, _, _, _, hX'.1⟩, hX'.2.1.1⟩, false, 0, _, 0, 0, false, 0, 0, hcc, fun h => by cases h⟩
  refine ⟨f1, f2, f3, f4, T1, T2, b1.trans (bac.mono s1), fun r hr => ⟨⟨z1 r (by omega), z2 r (by omega)⟩, z3 r (by omega), z4 r (by omega)⟩, fun r hr => ?_, hA, ⟨⟨z1 _ (by omega), z2 _ (by omega)⟩, z3 _ (by omega), z4 _ (by omega)⟩, ⟨by omega, heapH_lt hcc⟩, fun _ _ h => h.elim⟩
  rcases hr with h | h
  · have := i3 r h; exact ⟨z1 r (by omega), z2 r (by omega)⟩
  · have := i4 r h; exact ⟨z1 r (by omega), z2 r (by omega)⟩
theorem c_NewCache (w : World) : Calls Tryz.prog 11 #[] w fun e w' => ∃ cb, e = .returned (.pointer (some ⟨cb, 0, none⟩)) ∧ Below w.heap.size w w' ∧ w.heap.size ≤ cb ∧ w'.heap[cb]? = some (.cells (encC 0 false 0 (⟨#[]⟩, 0) 0 0 false 0 0) 83 (0, 0)) := by
  go_enter Tryz.func11, Tryz.ntmps11
  go_wp2
  go_ret
  exact ⟨_, rfl, (Below.refl _ w).alloc (Nat.le_refl _) _, Nat.le_refl _, heap_alloc_new w _⟩
end Go.Proofs.YtoccmiinkfhohaaGreat
namespace Go.Proofs.YtoccmiinkfhohaaGreat
open Go.RowKit Go.Shelf Go.Lib Go.Sort Go.Proofs Go.Maps
set_option linter.unusedVariables false
set_option maxHeartbeats 4000000
set_option maxRecDepth 100000

/-- a slice reads as whole numbers -/
def RdI (w : World) (v : Value) (F : List Int) : Prop := (v = .slice none 0 0 ∧ F = []) ∨ ∃ p c, v = .slice (some p) F.length c ∧ ∀ (k : Nat) x, F[k]? = some x → p.spot = none ∧ w.cell? ⟨p.block, p.off + k, none⟩ = some (.int .i64 x)
theorem RdI.form {w : World} {v : Value} {F : List Int} (h : RdI w v F) : ∃ p c, v = .slice p F.length c ∧ ∀ (k : Nat) x, F[k]? = some x → ∃ b o, p = some ⟨b, o, none⟩ ∧ b < w.heap.size ∧ w.cell? ⟨b, o + k, none⟩ = some (.int .i64 x) := by
  rcases h with ⟨rfl, rfl⟩ | ⟨p, c, rfl, h⟩
  · exact ⟨_, _, rfl, fun k x hx => by simp at hx⟩
  · refine ⟨_, _, rfl, fun k x hx => ?_⟩
    obtain ⟨h1, h2⟩ := h k x hx
    obtain ⟨b, o, s⟩ := p
    dsimp only at h1 h2
    subst h1
    exact ⟨b, o, rfl, cell_lt h2, h2⟩
theorem c_HeapModes (lim : Int) (v : Value) (l : List OP) (hs : fewO l l.length ≤ 4194304) (hz : ∀ x ∈ l, (x.k.1.size ≤ 4194304 ∧ x.p.v.s.size ≤ 4194304) ∧ okK x.k) (fv : Value) (F : List Int) (w : World) (h : RdO w v l) (hF : RdI w fv F) :
    Calls Tryz.prog 4 #[.int .i64 lim, v, fv] w fun e w' => e = .returned (.bool true) ∧ Below w.heap.size w w' := by
  obtain ⟨p, c, rfl, hlc, hL⟩ := h.form
  obtain ⟨fp, fc, rfl, hFc⟩ := hF.form
  have hfew := fun (y : World) (hy : Below w.heap.size w y) => c_few15 (.slice p l.length c) l hs (fun x hx => (hz x hx).1) y (by
    rcases h with ⟨h1, h2⟩ | ⟨p', c', h1, h2, h3⟩
    · exact .inl ⟨h1, h2⟩
    · refine .inr ⟨p', c', h1, h2, fun k x hx => ?_⟩
      obtain ⟨g1, g2⟩ := h3 k x hx
      exact ⟨g1, range_at g2 (hy.block _ (by have := cell_lt (g2 0 _ rfl); exact this))⟩)
  have hlen : l.length ≤ fewO l l.length := Nat.le_add_right _ _
  replace hfew := Lib.hid hfew
  replace hL := Lib.hid hL
  replace hFc := Lib.hid hFc
  replace hz := Lib.hid hz
  clear h hF
  cases hd : decide (fewO l l.length ≤ 300) with
  | false =>
    rw [hd] at hfew
    clear hd
    go_enter Tryz.func4, Tryz.ntmps4
    go_wp2_with (first | (go_at_call 5; refine (c_awake15 _).mono ?_; rintro e w1 ⟨rfl, hb1⟩) | (go_at_call 6; refine (hfew.out _ hb1).mono ?_; rintro e w2 ⟨rfl, hb2⟩))
    go_ret
    exact ⟨rfl, hb1.trans (hb2.mono hb1.size)⟩
  | true =>
    rw [hd] at hfew
    have hl3 : l.length ≤ 300 := Nat.le_trans hlen (of_decide_eq_true hd)
    clear hd hlen hs
    by_cases hF1 : (100 : Int) < (F.length : Int)
    · go_enter Tryz.func4, Tryz.ntmps4
      go_wp2_with (first | (go_at_call 5; refine (c_awake15 _).mono ?_; rintro e w1 ⟨rfl, hb1⟩) | (go_at_call 6; refine (hfew.out _ hb1).mono ?_; rintro e w2 ⟨rfl, hb2⟩))
      go_ret
      exact ⟨rfl, hb1.trans (hb2.mono hb1.size)⟩
    go_enter Tryz.func4, Tryz.ntmps4
    go_wp2_with (first | (go_at_call 5; refine (c_awake15 _).mono ?_; rintro e w1 ⟨rfl, hb1⟩) | (go_at_call 6; refine (hfew.out _ hb1).mono ?_; rintro e w2 ⟨rfl, hb2⟩; have tokA : True := trivial; have tokB : True := trivial) | (go_at_call 7; clear tokA; refine (c_Hnew (f := fun _ => 0) (fun _ _ => rfl) lim).mono ?_; rintro e w3 ⟨h1, f1, rfl, t1, q1⟩; unfold ptrV) | (go_at_call 7; refine (c_Hnew (f := fun _ => 0) (fun _ _ => rfl) lim).mono ?_; rintro e w4 ⟨h2, f3, rfl, t3, q3⟩; unfold ptrV) | (go_at_call 8; clear tokB; refine (c_Rnew (f := fun _ => 0) (fun _ _ => rfl) lim).mono ?_; rintro e w5 ⟨r1, f2, rfl, t2, q2⟩; try unfold ptrV) | (go_at_call 8; refine (c_Rnew (f := fun _ => 0) (fun _ _ => rfl) lim).mono ?_; rintro e w6 ⟨r2, f4, rfl, t4, q4⟩; try unfold ptrV) | (go_at_call 11; refine (c_NewCache _).mono ?_; rintro e w7 ⟨cb, rfl, hb7, s7, q7⟩))
    have hB2 := hb1.trans (hb2.mono hb1.size)
    have hS := mod_new t1 q1 t3 q3 t2 q2 t4 q4 hb7 s7 q7
    replace hB2 := Lib.hid hB2
    replace hS := Lib.hid hS
    clear t1 t2 t3 t4 q1 q2 q3 q4 hb7 s7 q7 hb1 hb2 hfew
    obtain ⟨W2, rfl⟩ : ∃ W2, W2 = w2 := ⟨_, rfl⟩
    go_loopw [41] (fun vi wr => ∃ (i : Nat) (H2 : List OB), i ≤ l.length ∧ vi = .int .i64 (i : Int) ∧ stp (runO lim (l.take i)) = stp H2 ∧ ModS (fun _ _ => False) W2 wr h1 r1 h2 r2 cb lim (128 + 4 * i) (runO lim (l.take i)) H2) (fun vi _ => l.length - (intOf vi).toNat)
    case atStart => exact ⟨0, [], by omega, rfl, rfl, hS.out⟩
    case round =>
      obtain ⟨i, H2, hi, rfl, hE, hT⟩ := hrel
      rcases Nat.lt_or_ge i l.length with hlt | hge
      · obtain ⟨x, hx⟩ : ∃ x, l[i]? = some x := ⟨_, List.getElem?_eq_getElem hlt⟩
        obtain ⟨b, o, rfl, lb, hrg⟩ := hL.out i x hx
        replace hrg := hrg wr (hB2.out.trans (hT.base.mono hB2.out.size))
        have hi18 : (Tryz.prog.info? 38).map (·.size) = some (encO x).length := infoOp
        have hj18 : (Tryz.prog.info? 38).map (·.size) = some (encO x).toArray.size := infoOp
        have ho18 := all_oneCell_toArray (encO_one x)
        have p1 : (0 : Int) ≤ (i : Int) := by omega
        have p2 : (i : Int) < (l.length : Int) := by omega
        obtain ⟨hfb, hfh⟩ := fresh_cellsO (w := wr) x
        have hth : (wr.alloc (.cells zeroO 38)).there wr.heap.size 0 (encO x).toArray.size := zeroO_there wr
        have hu0 := run_used (lim := lim) (l := l) (i := i) hi
        have hu1 := run_used (lim := lim) (l := l) (i := i + 1) hlt
        have hnx := run_next (lim := lim) hx
        have hokx := (hz.out x (List.mem_of_getElem? hx)).2
        have hdo1 := fun (y : World) (hy : ModS (fun z ob => z = wr.heap.size ∧ ob = .cells (encO x).toArray 38 (0, 0)) W2 y h1 r1 h2 r2 cb lim (128 + 4 * i) (runO lim (l.take i)) H2) => m_do1 hy (by omega) (by omega) (by omega) x hokx
        rw [← hnx] at hdo1
        have hdo2 := fun (y : World) (hy : ModS (fun z ob => z = wr.heap.size ∧ ob = .cells (encO x).toArray 38 (0, 0)) W2 y h1 r1 h2 r2 cb lim (128 + 4 * i + 2) (runO lim (l.take (i + 1))) H2) => m_do2 hy (by omega) (by omega) (by rw [stp_usedE hE]; omega) x hokx
        have hE2 := stp_opE hE lim x
        rw [← hnx] at hE2
        obtain ⟨H3, hH3⟩ : ∃ H3, opH lim H2 x = H3 := ⟨_, rfl⟩
        rw [hH3] at hE2 hdo2
        have hcl : ∀ (y : World), y.heap[wr.heap.size]? = some (.cells (encO x).toArray 38 (0, 0)) → y.cell? ⟨wr.heap.size, 1, none⟩ = some (.int .i64 x.o) ∧ y.cell? ⟨wr.heap.size, 3, none⟩ = some (.string x.k.1) ∧ y.cell? ⟨wr.heap.size, 4, none⟩ = some (.int .i64 x.k.2) := fun y hy => ⟨(cells18 hy).1.2.1, (cells18 hy).2.1.1, (cells18 hy).2.1.2⟩
        have hfw : ∀ (y : World), Below wr.heap.size wr y → y.heap[wr.heap.size]? = some (.cells (encO x).toArray 38 (0, 0)) → ModS (fun z ob => z = wr.heap.size ∧ ob = .cells (encO x).toArray 38 (0, 0)) W2 y h1 r1 h2 r2 cb lim (128 + 4 * i) (runO lim (l.take i)) H2 := fun y hy hh => hT.watch hy rfl hh
        replace hdo1 := Lib.hid hdo1
        replace hdo2 := Lib.hid hdo2
        replace hfb := Lib.hid hfb
        replace hfh := Lib.hid hfh
        replace hcl := Lib.hid hcl
        replace hfw := Lib.hid hfw
        replace hE2 := Lib.hid hE2
        clear hx hnx hH3 hE hT
        generalize hEq : encO x = E at *
        generalize hH' : runO lim (l.take (i + 1)) = H' at *
        generalize hH0 : runO lim (l.take i) = H0 at *
        replace hH' := Lib.hid hH'
        clear hH0 hEq
        have tokA : True := trivial
        have tokB : True := trivial
        have tokC : True := trivial
        have tokD : True := trivial
        have hu1' : usedH H' ≤ i + 1 := hu1
        go_upto_region 13 with (first | (clear tokA; refine wpList_load_mid rfl 38 (.tmp 44) rfl b (o + i * 18) rfl E _ hrg Tryz.underlying38 rfl hi18 ?_; clear hrg) | (clear tokB; refine wpList_store_mid rfl 38 (.tmp 13) (.tmp 45) rfl wr.heap.size 0 E.toArray rfl rfl hth hj18 ho18 ?_; generalize hW4 : World.setCells _ _ _ _ = W4; rw [show (wr.alloc (.cells zeroO 38)).setCells wr.heap.size 0 E = W4 from hW4] at hfb hfh; clear hW4 hth; have hT4 := hfw.out W4 hfb.out hfh.out; have hrg2 := range_of_block hfh.out) | (clear tokC; refine wpList_load_mid rfl 38 (.tmp 13) rfl wr.heap.size 0 rfl E _ hrg2 Tryz.underlying38 rfl hi18 ?_; clear hrg2) | (go_at_call 9; refine (hdo1.out _ hT4).mono ?_; rintro e w5 ⟨rfl, hT5⟩; clear hT4; have hrg3 := range_of_block (hT5.held ⟨rfl, rfl⟩)) | (clear tokD; refine wp_load_mid 38 (.tmp 13) rfl wr.heap.size 0 rfl E _ hrg3 Tryz.underlying38 rfl hi18 ?_; clear hrg3) | (go_at_call 9; refine (hdo2.out _ hT5).mono ?_; rintro e w6 ⟨rfl, hT6⟩; clear hT5))
        have q0 : 0 ≤ (i : Int) := p1
        by_cases hF2 : i < F.length
        · obtain ⟨z, hz'⟩ : ∃ z, F[i]? = some z := ⟨_, List.getElem?_eq_getElem hF2⟩
          obtain ⟨fb, fo, rfl, lfb, hfc⟩ := hFc.out i z hz'
          have p3 : (i : Int) < (F.length : Int) := by omega
          have hfc6 := ((hB2.out.trans (hT6.base.mono hB2.out.size)).cell (p := ⟨fb, fo + i, none⟩) lfb).trans hfc
          clear hz' hfc hF2
          go_upto_region 15 with (go_at_call 12; refine (m_force hT6 (by omega) z).mono ?_; rintro e w7 ⟨⟨v7, rfl⟩, hT7⟩)
          have hEX : stp H' = stp (updH H3 z forceA) := by rw [stp_force]; exact hE2.out
          clear hfc6 hT6
          obtain ⟨HX, hHX⟩ : ∃ HX, updH H3 z forceA = HX := ⟨_, rfl⟩
          rw [hHX] at hT7 hEX
          clear hHX
          have hBy1 := fun (y : World) (hy : ModS (fun z ob => z = wr.heap.size ∧ ob = .cells E.toArray 38 (0, 0)) W2 y h1 r1 h2 r2 cb lim (128 + 4 * i + 2 + 2) H' HX) => m_By1 hy x.o x.k hokx
          have hBy2 := fun (y : World) (hy : ModS (fun z ob => z = wr.heap.size ∧ ob = .cells E.toArray 38 (0, 0)) W2 y h1 r1 h2 r2 cb lim (128 + 4 * i + 2 + 2) H' HX) => m_By2 hy x.o x.k hokx
          have hOw := fun (y : World) (hy : ModS (fun z ob => z = wr.heap.size ∧ ob = .cells E.toArray 38 (0, 0)) W2 y h1 r1 h2 r2 cb lim (128 + 4 * i + 2 + 2) H' HX) => l_ROwnV hy.law1 (by omega) x.o x.k hokx
          rw [stp_ownE hEX] at hBy2
          obtain ⟨g1, g3, g4⟩ := hcl.out _ (hT7.held ⟨rfl, rfl⟩)
          generalize (ownH H' x.o (pk x.k)).getD zeroPV = P at *
          generalize (ownH H' x.o (pk x.k)).isSome = bI at *
          have hSP := v_SameProp P
          unfold propV encP at hSP
          have hi13 : (Tryz.prog.info? 36).map (·.size) = some (encP P).toArray.size := infoProp
          have ho13 := all_oneCell_toArray (encP_one P)
          have hq := fun (y : World) => zeroQ_set y P
          have hth := fun (y : World) => (zeroQ_there y : (y.alloc (.cells zeroQ 36)).there y.heap.size 0 (encP P).toArray.size)
          replace hBy1 := Lib.hid hBy1
          replace hBy2 := Lib.hid hBy2
          replace hOw := Lib.hid hOw
          replace hSP := Lib.hid hSP
          replace hq := Lib.hid hq
          have tokD : True := trivial
          have tokE : True := trivial
          have tokF : True := trivial
          have tokG : True := trivial
          go_wp2_with (first | (go_at_call 13; refine (hBy1.out _ hT7).mono ?_; rintro e y8 ⟨rfl, hT8⟩; have hth8 := hth y8; obtain ⟨hq8, hd8⟩ := hq.out y8; clear g1 g3 g4 hT7) | (clear tokD; refine wpList_store_mid rfl 36 (.tmp 14) (.tmp 76) rfl y8.heap.size 0 (encP P).toArray rfl rfl hth8 hi13 ho13 ?_; generalize hW9 : World.setCells _ _ _ _ = W9; rw [show (y8.alloc (.cells zeroQ 36)).setCells y8.heap.size 0 (encP P) = W9 from hW9] at hq8 hd8; clear hW9 hth8; have hT9 := hT8.below hq8; obtain ⟨g1, g3, g4⟩ := hcl.out W9 (hT9.held ⟨rfl, rfl⟩)) | (go_at_call 13; refine (hBy2.out _ hT9).mono ?_; rintro e y10 ⟨rfl, hb10⟩; have hth10 := hth y10; obtain ⟨hq10, hd10⟩ := hq.out y10; clear g1 g3 g4) | (clear tokE; refine wpList_store_mid rfl 36 (.tmp 16) (.tmp 85) rfl y10.heap.size 0 (encP P).toArray rfl rfl hth10 hi13 ho13 ?_; generalize hW11 : World.setCells _ _ _ _ = W11; rw [show (y10.alloc (.cells zeroQ 36)).setCells y10.heap.size 0 (encP P) = W11 from hW11] at hq10 hd10; clear hW11 hth10; have hb11 := hb10.trans (hq10.mono hb10.size); have hT11 := hT9.below hb11; obtain ⟨g1, g3, g4⟩ := hcl.out W11 (hT11.held ⟨rfl, rfl⟩)) | (go_at_call 14; refine (hOw.out _ hT11).mono ?_; rintro e y12 ⟨rfl, hb12⟩; have hth12 := hth y12; obtain ⟨hq12, hd12⟩ := hq.out y12; clear g1 g3 g4) | (clear tokF; refine wpList_store_mid rfl 36 (.tmp 18) (.tmp 94) rfl y12.heap.size 0 (encP P).toArray rfl rfl hth12 hi13 ho13 ?_; generalize hW13 : World.setCells _ _ _ _ = W13; rw [show (y12.alloc (.cells zeroQ 36)).setCells y12.heap.size 0 (encP P) = W13 from hW13] at hq12 hd12; clear hW13 hth12; have hb13 := hb12.trans (hq12.mono hb12.size); have hT13 := hT11.below hb13; have hD8 := (hb13.block _ (Nat.lt_of_lt_of_le (heapH_lt hd8) hb11.size)).trans ((hb11.block _ (heapH_lt hd8)).trans hd8); have hD10 := (hb13.block _ (heapH_lt hd10)).trans hd10; obtain ⟨a0, a1, a2, a3, a4, a5, a6, a7, a8, a9, a10, a11, a12⟩ := cells13 hD8; obtain ⟨s0, s1, s2, s3, s4, s5, s6, s7, s8, s9, s10, s11, s12⟩ := cells13 hd12) | (go_at_call 15; clear tokG; refine (hSP.out _).mono ?_; rintro e y14 ⟨rfl, hb14⟩; clear a0 a1 a2 a3 a4 a5 a6 a7 a8 a9 a10 a11 a12 s0 s1 s2 s3 s4 s5 s6 s7 s8 s9 s10 s11 s12; obtain ⟨a0, a1, a2, a3, a4, a5, a6, a7, a8, a9, a10, a11, a12⟩ := cells13 ((hb14.block _ (heapH_lt hD10)).trans hD10); obtain ⟨s0, s1, s2, s3, s4, s5, s6, s7, s8, s9, s10, s11, s12⟩ := cells13 ((hb14.block _ (heapH_lt hd12)).trans hd12)) | (go_at_call 15; refine (hSP.out _).mono ?_; rintro e y15 ⟨rfl, hb15⟩))
          exact ⟨⟨i + 1, HX, by omega, by go_num, by rw [hH'.out]; exact hEX, by rw [hH'.out]; exact (((hT13.below hb14).below hb15).forget : ModS (fun _ _ => False) W2 _ h1 r1 h2 r2 cb lim (128 + 4 * i + 4) H' HX)⟩, by simp [intOf]; omega⟩
        · have p3 : ¬ (i : Int) < (F.length : Int) := by omega
          clear hF2
          go_upto_region 15 with (fail)
          have hEX := hE2.out
          obtain ⟨HX, hHX⟩ : ∃ HX, H3 = HX := ⟨_, rfl⟩
          rw [hHX] at hT6 hEX
          have hT7 := hT6
          clear hHX hT6
          have hBy1 := fun (y : World) (hy : ModS (fun z ob => z = wr.heap.size ∧ ob = .cells E.toArray 38 (0, 0)) W2 y h1 r1 h2 r2 cb lim (128 + 4 * i + 2 + 2) H' HX) => m_By1 hy x.o x.k hokx
          have hBy2 := fun (y : World) (hy : ModS (fun z ob => z = wr.heap.size ∧ ob = .cells E.toArray 38 (0, 0)) W2 y h1 r1 h2 r2 cb lim (128 + 4 * i + 2 + 2) H' HX) => m_By2 hy x.o x.k hokx
          have hOw := fun (y : World) (hy : ModS (fun z ob => z = wr.heap.size ∧ ob = .cells E.toArray 38 (0, 0)) W2 y h1 r1 h2 r2 cb lim (128 + 4 * i + 2 + 2) H' HX) => l_ROwnV hy.law1 (by omega) x.o x.k hokx
          rw [stp_ownE hEX] at hBy2
          obtain ⟨g1, g3, g4⟩ := hcl.out _ (hT7.held ⟨rfl, rfl⟩)
          generalize (ownH H' x.o (pk x.k)).getD zeroPV = P at *
          generalize (ownH H' x.o (pk x.k)).isSome = bI at *
          have hSP := v_SameProp P
          unfold propV encP at hSP
          have hi13 : (Tryz.prog.info? 36).map (·.size) = some (encP P).toArray.size := infoProp
          have ho13 := all_oneCell_toArray (encP_one P)
          have hq := fun (y : World) => zeroQ_set y P
          have hth := fun (y : World) => (zeroQ_there y : (y.alloc (.cells zeroQ 36)).there y.heap.size 0 (encP P).toArray.size)
          replace hBy1 := Lib.hid hBy1
          replace hBy2 := Lib.hid hBy2
          replace hOw := Lib.hid hOw
          replace hSP := Lib.hid hSP
          replace hq := Lib.hid hq
          have tokD : True := trivial
          have tokE : True := trivial
          have tokF : True := trivial
          have tokG : True := trivial
          go_wp2_with (first | (go_at_call 13; refine (hBy1.out _ hT7).mono ?_; rintro e y8 ⟨rfl, hT8⟩; have hth8 := hth y8; obtain ⟨hq8, hd8⟩ := hq.out y8; clear g1 g3 g4 hT7) | (clear tokD; refine wpList_store_mid rfl 36 (.tmp 14) (.tmp 76) rfl y8.heap.size 0 (encP P).toArray rfl rfl hth8 hi13 ho13 ?_; generalize hW9 : World.setCells _ _ _ _ = W9; rw [show (y8.alloc (.cells zeroQ 36)).setCells y8.heap.size 0 (encP P) = W9 from hW9] at hq8 hd8; clear hW9 hth8; have hT9 := hT8.below hq8; obtain ⟨g1, g3, g4⟩ := hcl.out W9 (hT9.held ⟨rfl, rfl⟩)) | (go_at_call 13; refine (hBy2.out _ hT9).mono ?_; rintro e y10 ⟨rfl, hb10⟩; have hth10 := hth y10; obtain ⟨hq10, hd10⟩ := hq.out y10; clear g1 g3 g4) | (clear tokE; refine wpList_store_mid rfl 36 (.tmp 16) (.tmp 85) rfl y10.heap.size 0 (encP P).toArray rfl rfl hth10 hi13 ho13 ?_; generalize hW11 : World.setCells _ _ _ _ = W11; rw [show (y10.alloc (.cells zeroQ 36)).setCells y10.heap.size 0 (encP P) = W11 from hW11] at hq10 hd10; clear hW11 hth10; have hb11 := hb10.trans (hq10.mono hb10.size); have hT11 := hT9.below hb11; obtain ⟨g1, g3, g4⟩ := hcl.out W11 (hT11.held ⟨rfl, rfl⟩)) | (go_at_call 14; refine (hOw.out _ hT11).mono ?_; rintro e y12 ⟨rfl, hb12⟩; have hth12 := hth y12; obtain ⟨hq12, hd12⟩ := hq.out y12; clear g1 g3 g4) | (clear tokF; refine wpList_store_mid rfl 36 (.tmp 18) (.tmp 94) rfl y12.heap.size 0 (encP P).toArray rfl rfl hth12 hi13 ho13 ?_; generalize hW13 : World.setCells _ _ _ _ = W13; rw [show (y12.alloc (.cells zeroQ 36)).setCells y12.heap.size 0 (encP P) = W13 from hW13] at hq12 hd12; clear hW13 hth12; have hb13 := hb12.trans (hq12.mono hb12.size); have hT13 := hT11.below hb13; have hD8 := (hb13.block _ (Nat.lt_of_lt_of_le (heapH_lt hd8) hb11.size)).trans ((hb11.block _ (heapH_lt hd8)).trans hd8); have hD10 := (hb13.block _ (heapH_lt hd10)).trans hd10; obtain ⟨a0, a1, a2, a3, a4, a5, a6, a7, a8, a9, a10, a11, a12⟩ := cells13 hD8; obtain ⟨s0, s1, s2, s3, s4, s5, s6, s7, s8, s9, s10, s11, s12⟩ := cells13 hd12) | (go_at_call 15; clear tokG; refine (hSP.out _).mono ?_; rintro e y14 ⟨rfl, hb14⟩; clear a0 a1 a2 a3 a4 a5 a6 a7 a8 a9 a10 a11 a12 s0 s1 s2 s3 s4 s5 s6 s7 s8 s9 s10 s11 s12; obtain ⟨a0, a1, a2, a3, a4, a5, a6, a7, a8, a9, a10, a11, a12⟩ := cells13 ((hb14.block _ (heapH_lt hD10)).trans hD10); obtain ⟨s0, s1, s2, s3, s4, s5, s6, s7, s8, s9, s10, s11, s12⟩ := cells13 ((hb14.block _ (heapH_lt hd12)).trans hd12)) | (go_at_call 15; refine (hSP.out _).mono ?_; rintro e y15 ⟨rfl, hb15⟩))
          exact ⟨⟨i + 1, HX, by omega, by go_num, by rw [hH'.out]; exact hEX, by rw [hH'.out]; exact (((hT13.below hb14).below hb15).forget : ModS (fun _ _ => False) W2 _ h1 r1 h2 r2 cb lim (128 + 4 * i + 4) H' HX)⟩, by simp [intOf]; omega⟩
      · obtain rfl : i = l.length := by omega
        have hu := run_used (lim := lim) (l := l) (i := l.length) (Nat.le_refl _)
        have hSm1 := fun (y : World) (hy : ModS (fun _ _ => False) W2 y h1 r1 h2 r2 cb lim (128 + 4 * l.length) (runO lim (l.take l.length)) H2) => c_same15 hy.law1 (by omega) (by omega) (by omega)
        have hSm2 := fun (y : World) (hy : ModS (fun _ _ => False) W2 y h1 r1 h2 r2 cb lim (128 + 4 * l.length) (runO lim (l.take l.length)) H2) => c_same15 (hy.law3 hE) (by omega) (by omega) (by rw [stp_usedE hE]; omega)
        replace hSm1 := Lib.hid hSm1
        replace hSm2 := Lib.hid hSm2
        clear hi hge
        have tokS : True := trivial
        go_wp2_with (first | (go_at_call 10; clear tokS; refine (hSm1.out _ hT).mono ?_; rintro e w9 ⟨rfl, hb9⟩; have hT9 := hT.below hb9) | (go_at_call 10; refine (hSm2.out _ hT9).mono ?_; rintro e w10 ⟨rfl, hb10⟩))
        go_ret
        have hB := hB2.out.trans (hT.base.mono hB2.out.size)
        exact ⟨rfl, hB.trans ((hb9.trans (hb10.mono hb9.size)).mono hB.size)⟩
end Go.Proofs.YtoccmiinkfhohaaGreat
namespace Go.Proofs.YtoccmiinkfhohaaGreat
open Go.RowKit Go.Shelf Go.Lib Go.Sort Go.Proofs Go.ChangeShapes Go.WideShapes Go.ChangeAt
set_option maxHeartbeats 1000000
set_option maxRecDepth 8000

theorem bulk_small {H : Type} {ds : List (DataW H)} (hk : Rows.uptoSmall H ds = true) : Rows.uptoBulkAll ds ≤ 1048576 := of_decide_eq_true hk
theorem bulk_part {H : Type} {d : DataW H} {l : List (DataW H)} (h : d ∈ l) : Rows.uptoBulk d ≤ Rows.uptoBulkAll l := by
  induction l with
  | nil => cases h
  | cons x r ih =>
    simp only [Rows.uptoBulkAll]
    rcases List.mem_cons.1 h with rfl | e
    · omega
    · have := ih e; omega
theorem cellsOp : Tryz.prog.cellsOf 38 = 18 := by kernel_rfl
theorem cellsValue : Tryz.prog.cellsOf 34 = 4 := by kernel_rfl
theorem cellsProp : Tryz.prog.cellsOf 36 = 13 := by kernel_rfl
theorem cellsFloat : Tryz.prog.cellsOf 32 = 1 := by kernel_rfl
section
variable {H : Type} {enc : TypeId × Value → H} {P : Program} {w : World} {base : Nat} {spare : Nat → Bool} {held : Bool}
theorem trod_float5 {t : TypeId} {k : FloatKind} {fuel : Nat} {cs : List Value} {x : DataW H × List MemPlace} (ht : P.underlying t = some (.float k)) (h : DataW.trod enc P w base spare held fuel t cs = some x) : ∃ b, cs = [.float k b] ∧ x = (.lit (.float k b), []) := by
  cases fuel with
  | zero => simp [DataW.trod] at h
  | succ n =>
    unfold DataW.trod at h
    rw [ht] at h
    split at h <;> simp_all
end
section
variable {H : Type} {enc : TypeId × Value → H} {w : World} {base : Nat} {spare : Nat → Bool} {held : Bool}
def encV (v : VV) : List Value := [.int .i64 v.k, .float .f64 v.x, .string v.s, .int .i64 v.r]
theorem value_open {fuel : Nat} {cs : List Value} {x : DataW H × List MemPlace} (h : DataW.trod enc Tryz.prog w base spare held fuel 34 cs = some x) : ∃ v : VV, cs = encV v ∧ v.s.size ≤ Rows.uptoBulk x.1 := by
  obtain ⟨y0, y1, y2, y3, n, rfl, hl, h0, h1, h2, h3⟩ := Go.Joins.trod_struct4 Tryz.underlying34 h
  rw [cellsValue] at hl
  match cs, hl with
  | [c0, c1, c2, c3], _ =>
    obtain ⟨k, e0, _, _⟩ := DataW.trod_int Tryz.underlying3 h0
    obtain ⟨f, e1, _⟩ := trod_float5 Tryz.underlying32 h1
    obtain ⟨s, e2, g2, _⟩ := DataW.trod_string Tryz.underlying29 h2
    obtain ⟨r, e3, _, _⟩ := DataW.trod_int Tryz.underlying3 h3
    simp [cellsInt, cellsFloat, cellsStr] at e0 e1 e2 e3
    subst e0 e1 e2 e3
    refine ⟨⟨k, f, s, r⟩, rfl, ?_⟩
    have h3 : s.data.toList.length = s.size := rfl
    subst g2
    simp only [Rows.uptoBulk, Rows.uptoBulkAll]
    omega
theorem prop_open {fuel : Nat} {cs : List Value} {x : DataW H × List MemPlace} (h : DataW.trod enc Tryz.prog w base spare held fuel 36 cs = some x) : ∃ p : PV, cs = encP p ∧ p.v.s.size ≤ Rows.uptoBulk x.1 := by
  obtain ⟨y0, y1, y2, y3, n, rfl, hl, h0, h1, h2, h3⟩ := Go.Joins.trod_struct4 Tryz.underlying36 h
  rw [cellsProp] at hl
  match cs, hl with
  | [c0, c1, c2, c3, c4, c5, c6, c7, c8, c9, c10, c11, c12], _ =>
    obtain ⟨v, e0, g0⟩ := value_open h0
    obtain ⟨g, e1, _⟩ := value_open h1
    obtain ⟨t, e2, _⟩ := value_open h2
    obtain ⟨r, e3, _, _⟩ := DataW.trod_int Tryz.underlying3 h3
    simp [cellsValue, cellsInt, encV] at e0 e1 e2 e3
    obtain ⟨rfl, rfl, rfl, rfl⟩ := e0
    obtain ⟨rfl, rfl, rfl, rfl⟩ := e1
    obtain ⟨rfl, rfl, rfl, rfl⟩ := e2
    subst e3
    refine ⟨⟨v, g, t, r⟩, rfl, ?_⟩
    show v.s.size ≤ _
    simp only [Rows.uptoBulk, Rows.uptoBulkAll]
    omega
theorem keyc_open {fuel : Nat} {cs : List Value} {x : DataW H × List MemPlace} (h : DataW.trod enc Tryz.prog w base spare held fuel 31 cs = some x) : ∃ k : KK, cs = [.string k.1, .int .i64 k.2] ∧ k.1.size ≤ Rows.uptoBulk x.1 ∧ (Lit.int .i64 k.2).wf = true := by
  obtain ⟨y0, y1, n, rfl, hl, h0, h1⟩ := Go.ChangeShapes.trod_struct2 Tryz.underlying31 h
  rw [cellsKey] at hl
  match cs, hl with
  | [c0, c1], _ =>
    obtain ⟨s, e0, g0, _⟩ := DataW.trod_string Tryz.underlying29 h0
    obtain ⟨r, e1, _, hw⟩ := DataW.trod_int Tryz.underlying3 h1
    simp [cellsInt, cellsStr] at e0 e1
    subst e0 e1
    refine ⟨(s, r), rfl, ?_, hw⟩
    subst g0
    have h3 : s.data.toList.length = s.size := rfl
    simp only [Rows.uptoBulk, Rows.uptoBulkAll]
    show s.size ≤ _
    omega
theorem op_open {fuel : Nat} {cs : List Value} {x : DataW H × List MemPlace} (h : DataW.trod enc Tryz.prog w base spare held fuel 38 cs = some x) : ∃ z : OP, cs = encO z ∧ z.k.1.size + z.p.v.s.size + 1 ≤ Rows.uptoBulk x.1 ∧ (Lit.int .i64 z.k.2).wf = true := by
  obtain ⟨xs, n, _, rfl, hl, hlen, hf⟩ := DataW.trod_struct Tryz.underlying38 h
  rw [cellsOp] at hl
  match xs, hlen with
  | [y0, y1, y2, y3, y4], _ =>
    have h0 := hf 0 _ rfl
    have h1 := hf 1 _ rfl
    have h2 := hf 2 _ rfl
    have h3 := hf 3 _ rfl
    have h4 := hf 4 _ rfl
    match cs, hl with
    | [c0, c1, c2, c3, c4, c5, c6, c7, c8, c9, c10, c11, c12, c13, c14, c15, c16, c17], _ =>
      obtain ⟨a, e0, _, _⟩ := DataW.trod_int Tryz.underlying3 h0
      obtain ⟨b, e1, _, _⟩ := DataW.trod_int Tryz.underlying3 h1
      obtain ⟨c, e2, _, _⟩ := DataW.trod_int Tryz.underlying3 h2
      obtain ⟨k, e3, g3, hw⟩ := keyc_open h3
      obtain ⟨p, e4, g4⟩ := prop_open h4
      simp [cellsInt, cellsKey, cellsProp, encP] at e0 e1 e2 e3 e4
      subst e0 e1 e2
      obtain ⟨rfl, rfl⟩ := e3
      obtain ⟨rfl, rfl, rfl, rfl, rfl, rfl, rfl, rfl, rfl, rfl, rfl, rfl, rfl⟩ := e4
      refine ⟨⟨a, b, c, k, p⟩, rfl, ?_, hw⟩
      show k.1.size + p.v.s.size + 1 ≤ _
      simp only [List.map_cons, Rows.uptoBulk, Rows.uptoBulkAll]
      omega
theorem bulk_ops (q : Nat → OP) (D : Nat → DataW H) (is : List Nat) (h : ∀ i ∈ is, (q i).k.1.size + (q i).p.v.s.size + 1 ≤ Rows.uptoBulk (D i)) : (is.map fun i => (q i).k.1.size + (q i).p.v.s.size + 1).sum ≤ Rows.uptoBulkAll (is.map D) := by
  induction is with
  | nil => simp
  | cons i is ih =>
    have h1 := ih (fun j hj => h j (by simp [hj]))
    have h2 := h i (by simp)
    simp only [List.map_cons, List.sum_cons, Rows.uptoBulkAll]
    omega
end
theorem ops_open {H : Type} {enc : TypeId × Value → H} {W : World} {base : Nat} {v : Value} {d : DataW H} {p : List MemPlace} (hok : Value.okWide Tryz.prog W .any base 22 v) (h : DataW.Trod enc Tryz.prog W 0 (fun _ => true) true 22 v d p) (hb : Rows.uptoBulk d ≤ 1048576) :
    ∃ l : List OP, RdO W v l ∧ (l.map fun x => x.k.1.size + x.p.v.s.size + 1).sum ≤ 1048576 ∧ ∀ x ∈ l, okK x.k := by
  obtain ⟨a0, len0, cap0, rfl⟩ := okWide_slice Tryz.underlying22 hok
  obtain ⟨fuel, hf⟩ := h
  rcases Go.Deep.open_slice Tryz.underlying22 hf with ⟨hcs, hx⟩ | ⟨a, len, cap, m, n, D, Pl, hcs, hba, hlc, hcm, hm, hx, hcell⟩
  · simp [Value.cells] at hcs
    obtain ⟨rfl, rfl, rfl⟩ := hcs
    exact ⟨[], .inl ⟨rfl, rfl⟩, by simp, by simp⟩
  · simp [Value.cells] at hcs
    obtain ⟨rfl, rfl, rfl⟩ := hcs
    rw [cellsOp] at hcell
    have each : ∀ i, i < len0 → ∃ q : OP, (∀ j u, (encO q)[j]? = some u → W.cell? (a.add (i * 18 + j)) = some u) ∧ q.k.1.size + q.p.v.s.size + 1 ≤ Rows.uptoBulk (D i) ∧ (Lit.int .i64 q.k.2).wf = true := by
      intro i hi
      obtain ⟨cs', c0, t0⟩ := hcell i (by rw [hm]; split <;> omega)
      obtain ⟨q, rfl, g1, g2⟩ := op_open t0
      obtain ⟨_, hl, hat⟩ := World.cells?_some c0
      refine ⟨q, fun j u hu => ?_, g1, g2⟩
      have hj : j < 18 := (List.getElem?_eq_some_iff.1 hu).1
      rw [← Go.Deep.add_add, hat j hj, hu]
    obtain ⟨q, hq⟩ := Go.Deep.choose_lt each
    have hl : ((List.range len0).map q).length = len0 := by simp
    have hbk := bulk_ops q D (List.range len0) (fun i hi => (hq i (List.mem_range.1 hi)).2.1)
    have hd : d = _ := congrArg Prod.fst hx
    rw [hd] at hb
    simp only [Rows.uptoBulk] at hb
    have hsum : (((List.range len0).map q).map fun x => x.k.1.size + x.p.v.s.size + 1).sum ≤ 1048576 := by
      rw [List.map_map]
      have : ((fun x : OP => x.k.1.size + x.p.v.s.size + 1) ∘ q) = fun i => (q i).k.1.size + (q i).p.v.s.size + 1 := rfl
      rw [this]
      omega
    refine ⟨(List.range len0).map q, .inr ⟨a, cap0, by rw [hl], by rw [hl]; exact hlc, ?_⟩, hsum, ?_⟩
    · intro k x hx
      have hk : k < len0 := by have := (List.getElem?_eq_some_iff.1 hx).1; simpa using this
      have hxe : q k = x := by simpa [hk] using hx
      obtain ⟨e0, _⟩ := hq k hk
      obtain ⟨d0, _⟩ := hq 0 (by omega)
      have hsp : a.spot = none := by
        have d1 := d0 0 _ rfl
        have h00 : a.add (0 * 18 + 0) = a := by simp [Addr.add]
        rw [h00] at d1
        unfold World.cell? at d1
        cases hs : a.spot with
        | none => rfl
        | some z =>
          rw [hs] at d1
          cases hh : W.heap[a.block]? with
          | none => simp [hh] at d1
          | some o => cases o <;> simp [hh] at d1
      have hadd : ∀ j, a.add j = ⟨a.block, a.off + j, none⟩ := by
        intro j
        unfold Addr.add
        split
        · rename_i h0; subst h0; rw [← hsp]; simp
        · rfl
      refine ⟨hsp, fun j u hu => ?_⟩
      have := e0 j u (by rw [hxe]; exact hu)
      rw [hadd, ← Nat.add_assoc] at this
      exact this
    · intro x hx
      obtain ⟨i, hi, rfl⟩ := List.mem_map.1 hx
      have hi' := List.mem_range.1 hi
      obtain ⟨_, g1, g2⟩ := hq i hi'
      have hle : (q i).k.1.size + (q i).p.v.s.size + 1 ≤ (((List.range len0).map q).map fun x => x.k.1.size + x.p.v.s.size + 1).sum := mem_le_sum (List.mem_map.2 ⟨q i, hx, rfl⟩)
      exact ⟨by omega, g2⟩
theorem key_open5 {H : Type} {enc : TypeId × Value → H} {W : World} {base : Nat} {v : Value} {d : DataW H} {p : List MemPlace} (hok : Value.okWide Tryz.prog W .any base 31 v) (h : DataW.Trod enc Tryz.prog W 0 (fun _ => true) true 31 v d p) :
    ∃ x : KK, v = keyV x.1 x.2 := by
  obtain ⟨v0, v1, y0, y1, n, rfl, rfl, _, h0, h1⟩ := Go.Joins.open_agg2 Tryz.underlying31 (by kernel_rfl) cellsKey hok h
  obtain ⟨s, e1, e2, _⟩ := DataW.trod_string Tryz.underlying29 h0
  obtain ⟨z, e3, e4, _⟩ := DataW.trod_int Tryz.underlying3 h1
  simp at e1 e3
  subst e1; subst e3
  exact ⟨(s, z), rfl⟩
theorem ops_few {l : List OP} (h : (l.map fun x => x.k.1.size + x.p.v.s.size + 1).sum ≤ 1048576) (hk : ∀ x ∈ l, okK x.k) : fewO l l.length ≤ 4194304 ∧ ∀ x ∈ l, (x.k.1.size ≤ 4194304 ∧ x.p.v.s.size ≤ 4194304) ∧ okK x.k := by
  have h1 : fewO l l.length ≤ (l.map fun x => x.k.1.size + x.p.v.s.size + 1).sum := by
    unfold fewO
    rw [List.take_length]
    clear h hk
    induction l with
    | nil => simp
    | cons a l ih =>
      simp only [List.map_cons, List.sum_cons, List.length_cons]
      unfold fewS at *
      omega
  refine ⟨by omega, fun x hx => ?_⟩
  have : x.k.1.size + x.p.v.s.size + 1 ≤ (l.map fun x => x.k.1.size + x.p.v.s.size + 1).sum := mem_le_sum (List.mem_map.2 ⟨x, hx, rfl⟩)
  exact ⟨⟨by omega, by omega⟩, hk x hx⟩
end Go.Proofs.YtoccmiinkfhohaaGreat
namespace Go.Proofs.YtoccmiinkfhohaaGreat
open Go.RowKit Go.Shelf Go.Lib Go.Sort Go.Proofs Go.ChangeShapes Go.WideShapes Go.ChangeAt
set_option maxHeartbeats 1000000
set_option maxRecDepth 8000

theorem ints_open {H : Type} {enc : TypeId × Value → H} {W : World} {base : Nat} {v : Value} {d : DataW H} {p : List MemPlace} (hok : Value.okWide Tryz.prog W .any base 42 v) (h : DataW.Trod enc Tryz.prog W 0 (fun _ => true) true 42 v d p) :
    ∃ F : List Int, RdI W v F := by
  obtain ⟨a0, len0, cap0, rfl⟩ := okWide_slice Tryz.underlying42 hok
  obtain ⟨fuel, hf⟩ := h
  rcases Go.Deep.open_slice Tryz.underlying42 hf with ⟨hcs, hx⟩ | ⟨a, len, cap, m, n, D, Pl, hcs, hba, hlc, hcm, hm, hx, hcell⟩
  · simp [Value.cells] at hcs
    obtain ⟨rfl, rfl, rfl⟩ := hcs
    exact ⟨[], .inl ⟨rfl, rfl⟩⟩
  · simp [Value.cells] at hcs
    obtain ⟨rfl, rfl, rfl⟩ := hcs
    rw [cellsInt] at hcell
    have each : ∀ i, i < len0 → ∃ z : Int, W.cell? (a.add i) = some (.int .i64 z) := by
      intro i hi
      obtain ⟨cs', c0, t0⟩ := hcell i (by rw [hm]; split <;> omega)
      obtain ⟨z, e0, _, _⟩ := DataW.trod_int Tryz.underlying3 t0
      subst e0
      obtain ⟨_, hl, hat⟩ := World.cells?_some c0
      refine ⟨z, ?_⟩
      have := hat 0 (by simp)
      have h0 : ∀ q : Addr, q.add 0 = q := fun q => by simp [Addr.add]
      rw [h0] at this
      simpa using this
    obtain ⟨q, hq⟩ := Go.Deep.choose_lt each
    have hl : ((List.range len0).map q).length = len0 := by simp
    refine ⟨(List.range len0).map q, .inr ⟨a, cap0, by rw [hl], ?_⟩⟩
    intro k x hx
    have hk : k < len0 := by have := (List.getElem?_eq_some_iff.1 hx).1; simpa using this
    have hxe : q k = x := by simpa [hk] using hx
    have e0 := hq k hk
    have d0 := hq 0 (by omega)
    have hsp : a.spot = none := by
      have h00 : a.add 0 = a := by simp [Addr.add]
      rw [h00] at d0
      unfold World.cell? at d0
      cases hs : a.spot with
      | none => rfl
      | some z =>
        rw [hs] at d0
        cases hh : W.heap[a.block]? with
        | none => simp [hh] at d0
        | some o => cases o <;> simp [hh] at d0
    refine ⟨hsp, ?_⟩
    have hadd : a.add k = ⟨a.block, a.off + k, none⟩ := by
      unfold Addr.add
      split
      · rename_i h0; subst h0; rw [← hsp]; simp
      · rfl
    rw [← hadd, e0, hxe]
end Go.Proofs.YtoccmiinkfhohaaGreat
namespace Go.Proofs.YtoccmiinkfhohaaGreat.heapModes
open Go.ChangeShapes Go.WideShapes Go.ChangeAt Go.RowKit
set_option linter.unusedVariables false

theorem own : ownKnob Tryz.prog.godebug = none := by kernel_rfl
set_option maxRecDepth 100000 in
theorem contract (H : Type) (enc : TypeId × Value → H) (W : World) (base : Nat) (args : Array Value) (ds gs : List (DataW H)) (before : List MemPlace)
    (hval : ∀ (j : Nat) t v, Tryz.f4.params[j]? = some t → args[j]? = some v → Value.okWide Tryz.prog W .any base t v)
    (hW : DataW.Whole enc Tryz.prog Tryz.f4.params.toList Rows.heapModesSpec.vars false W args.toList ds gs before) (hk : Rows.uptoSmall H (ds ++ gs) = true) :
    Calls Tryz.prog 4 args W fun e W' => ∃ v, e = .returned v ∧ Rows.heapModesSpec.post enc Tryz.prog Tryz.f4 false true false false W args v W' := by
  have hW' := hW
  obtain ⟨p, q, hA0, hV, rfl, hfz, hnd⟩ := hW
  have hA : DataW.TrodAll enc Tryz.prog W 0 (fun _ => true) true Tryz.f4.params.toList args.toList ds p := hA0
  rw [Tryz.params4] at hA hval
  obtain ⟨v0, vs0, d0, ds0, p0, q0, hargs, rfl, rfl, h0, r0⟩ := trodAll_cons hA
  obtain ⟨v1, vs1, d1, ds1, p1, q1, rfl, rfl, rfl, h1, r1⟩ := trodAll_cons r0
  obtain ⟨v2, vs2, d2, ds2, p2, q2, rfl, rfl, rfl, h2, r2⟩ := trodAll_cons r1
  obtain ⟨rfl, rfl, rfl⟩ := trodAll_nil r2
  obtain rfl : args = #[v0, v1, v2] := by cases args; simp_all
  obtain ⟨rfl, rfl⟩ := trodVars_none hV
  have hb := bulk_small hk
  simp only [List.append_nil] at hW' hb
  obtain ⟨z0, rfl⟩ := okWide_int Tryz.underlying3 (hval 0 3 v0 rfl rfl)
  obtain ⟨l1, hr1, hs1, ho1⟩ := ops_open (hval 1 22 v1 rfl rfl) h1 (Nat.le_trans (bulk_part (by simp)) hb)
  obtain ⟨hf1, hg1⟩ := ops_few hs1 ho1
  obtain ⟨l2, hr2⟩ := ints_open (hval 2 42 v2 rfl rfl) h2
  have hlt0 : ∀ x ∈ p0, x.block < W.heap.size := fun x hx => by simpa using hW'.lt x (by simp [hx])
  have hlt1 : ∀ x ∈ p1, x.block < W.heap.size := fun x hx => by simpa using hW'.lt x (by simp [hx])
  have hlt2 : ∀ x ∈ p2, x.block < W.heap.size := fun x hx => by simpa using hW'.lt x (by simp [hx])
  clear hA0
  refine (c_HeapModes z0 v1 l1 hf1 hg1 v2 l2 W hr1 hr2).mono fun e W' ⟨he, hg⟩ => ?_
  subst he
  exact ⟨_, rfl, [d0, d1, d2], [], _, [], p0 ++ (p1 ++ (p2 ++ ([]))), [], by simpa using hW', trodAll_mk1 (shut_bool Tryz.underlying4 _), trodAll_cons_mk (Below.trod laidOut (by kernel_rfl) (of_decide_eq_true (by kernel_rfl)) h0 hg hlt0) (trodAll_cons_mk (Below.trod laidOut (by kernel_rfl) (of_decide_eq_true (by kernel_rfl)) h1 hg hlt1) (trodAll_cons_mk (Below.trod laidOut (by kernel_rfl) (of_decide_eq_true (by kernel_rfl)) h2 hg hlt2) trodAll_mk0)), rfl, hg.frame _, fun h => by cases h⟩
set_option maxRecDepth 100000 in
theorem lifted (os : Os) (started : os.Started) (H : Type) (enc : TypeId × Value → H) (F : Stop.Interp) :
    ReturnsInHanded {} Tryz.checked os 4 .any ((Rows.OpenSpec.upto Rows.heapModesSpec).pre6 enc Tryz.prog Tryz.f4 Rows.heapModesUptoRow.domain false) (((Rows.OpenSpec.upto Rows.heapModesSpec).at F).post enc Tryz.prog Tryz.f4 false true false false) := by
  refine returnsInHanded_of_cond (C := Tryz.checked) (s := Rows.OpenSpec.upto Rows.heapModesSpec) (k := Rows.uptoSmall) rfl own started (by kernel_rfl) Tryz.func4
    (OpenSpec.witness (enc := enc) (C := Tryz.checked) (s := Rows.OpenSpec.upto Rows.heapModesSpec) (k := Rows.uptoSmall) rfl false ⟨#[], #[.int .i64 0, .slice none 0 0, .slice none 0 0], []⟩ 8 (by kernel_rfl) (by kernel_rfl) (by kernel_rfl)
      (x := ([.lit (.int .i64 0), .nil, .nil], [], [])) (by kernel_rfl) rfl (by kernel_rfl)) ?_
  intro W base args ds gs before hval hW _ hk _
  exact contract H enc W base args ds gs before hval hW hk
theorem over : Rows.heapModesUptoRow.holds Tryz.pinned (Rows.OpenSpec.upto Rows.heapModesSpec) :=
  OpenClaim.holds_of_cond 4 Tryz.f4 rfl rfl rfl rfl rfl rfl rfl ⟨rfl, rfl, rfl, rfl, rfl⟩ rfl rfl rfl rfl rfl (by kernel_rfl) Tryz.func4 (by kernel_rfl)
    (of_decide_eq_true (by kernel_rfl)) (by unfold Func.isWrapper; first | (rw [if_pos (by decide +kernel)]; kernel_rfl) | (rw [if_neg (by decide +kernel)]; exact ⟨rfl, rfl⟩))
    (fun os started H enc _ F => lifted os started H enc F)
theorem proved : Rows.HeapModesUptoSaid :=
  over
end Go.Proofs.YtoccmiinkfhohaaGreat.heapModes

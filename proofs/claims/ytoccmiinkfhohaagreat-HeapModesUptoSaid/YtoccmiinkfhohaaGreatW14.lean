/-
  Contracts: A law for a region that draws its order and ends with a store: what yields under S is taken first; behind the operation n, for which what is taken is waited, S is not asked. The reference's heap: Put of a new key. The reference's heap: Put, all ways; Drop. The reference's heap: its contracts joined. An operation of the laws; a list of them in memory.
-/
import Derived.Deep.RegionHeld
import Derived.Test.YtoccmiinkfhohaaGreatProg
import Derived.Test.YtoccmiinkfhohaaGreatW13
import Derived.Test.YtoccmiinkfhohaaGreatW8
namespace Go.Proofs.YtoccmiinkfhohaaGreat
open Go
set_option maxHeartbeats 400000

section
variable {P : Program} {ops : Array Oper} {Q : Exit → Act → World → Prop} {md : Region.Mode} {S : World → Prop} {n : Nat}
/-- whatever comes up next: S holds behind it, unless it is the operation n -/
def AnyK (P : Program) (md : Region.Mode) (ops : Array Oper) (Q : Exit → Act → World → Prop) (S : World → Prop) (n : Nat) : Nat → Array Bool → Act → World → Prop
  | 0, ls, a, w => Region.ready md ops ls = [] ∧ Q .normal a w
  | k + 1, ls, a, w => (Region.ready md ops ls = [] → Q .normal a w) ∧
    ∀ i ∈ Region.ready md ops ls, wpOp P ops Q i (fun a' w' => (i ≠ n → S w') ∧ AnyK P md ops Q S n k (ls.setIfInBounds i true) a' w') a w
theorem AnyK.any : ∀ (k : Nat) (ls : Array Bool) (a : Act) (w : World), AnyK P md ops Q S n k ls a w → wpAny P md ops Q k ls a w
  | 0, _, _, _, h => h
  | k + 1, _, _, _, h => ⟨h.1, fun i hi => wpOp_mono (fun a' w' g => AnyK.any k _ a' w' g.2) (h.2 i hi)⟩
/-- the operation n waits for i -/
def waitsK (md : Region.Mode) (ops : Array Oper) (n i : Nat) : Bool := match ops[n]? with | some o => o.after.any fun e => Region.binds md e && e.on == i | none => false
theorem AnyK.first {i : Nat} {o : Oper} {v : Value} (hi : ops[i]? = some o) (hsel : ∀ (j : Nat) (o : Oper) cs b, ops[j]? = some o → o.op ≠ .select cs b)
    (hQ : ∀ c a w, Q (.panic c) (a.put o.dst v) w → Q (.panic c) a w) (hw : waitsK md ops n i = true) : ∀ (k : Nat) (ls : Array Bool) (a : Act) (w : World),
      (∀ j oj, ops[j]? = some oj → j ≠ i → ls.getD j true = false → (∀ e ∈ oj.after, Region.binds md e = true → e.on ≠ i) → o.apart ops oj = true) →
      i ∈ Region.ready md ops ls → YieldsIf P ops S o v a → S w → AnyK P md ops Q S n k (ls.setIfInBounds i true) (a.put o.dst v) w → AnyK P md ops Q S n (k + 1) ls a w
  | 0, ls, a, w, _, hr, hy, hS, H => by
    refine ⟨fun h => absurd hr (by rw [h]; simp), fun j hj => ?_⟩
    by_cases e : j = i
    · subst e; exact hy.wpOp hi hS ⟨fun _ => hS, H⟩
    · have h1 := ready_mono hj e
      rw [H.1] at h1
      cases h1
  | k + 1, ls, a, w, hf, hr, hy, hS, H => by
    refine ⟨fun h => absurd hr (by rw [h]; simp), fun j hj => ?_⟩
    by_cases e : j = i
    · subst e; exact hy.wpOp hi hS ⟨fun _ => hS, H⟩
    · obtain ⟨hju, oj, hoj, hall⟩ := mem_ready.1 hj
      have hiu := (mem_ready.1 hr).1
      have hno : ∀ e ∈ oj.after, Region.binds md e = true → e.on ≠ i := fun e he hb heq => by
        have h1 := hall e he hb
        rw [heq] at h1
        by_cases hlt : i < ls.size
        · simp [hlt] at hiu h1; rw [hiu] at h1; cases h1
        · simp [Array.getElem?_eq_none (Nat.le_of_not_lt hlt)] at h1
      have hjn : j ≠ n := fun hjn => by
        unfold waitsK at hw
        rw [← hjn, hoj] at hw
        simp only [Array.any_eq_true'] at hw
        obtain ⟨x, hx, h1⟩ := hw
        simp only [Bool.and_eq_true, beq_iff_eq] at h1
        exact hno x hx h1.1 h1.2
      have h2 := wpOp_putIf hoj (hf j oj hoj e hju hno) (fun cs b => hsel i o cs b hi) (fun cs b => hsel j oj cs b hoj) hQ hy (H.2 j (ready_mono hj e))
      refine wpOp_mono (fun a' w' g => ⟨fun _ => g.2.1 hjn, ?_⟩) h2
      refine AnyK.first hi hsel hQ hw k (ls.setIfInBounds j true) a' w' (fun q oq hq hqi hqu hqn => hf q oq hq hqi ?_ hqn) (ready_mono hr (Ne.symm e)) g.1 (g.2.1 hjn) ?_
      · by_cases hjq : j = q
        · subst hjq; exact hju
        · rw [getD_set_ne true hjq] at hqu; exact hqu
      · rw [Array.setIfInBounds_comm _ _ e]; exact g.2.2
theorem drop_at {i : Nat} {o : Oper} {r : List Oper} (h : ops.toList.drop i = o :: r) : ops[i]? = some o := by
  have h1 : (ops.toList.drop i)[0]? = some o := by rw [h]; rfl
  simpa using h1
theorem AnyK.take (i : Nat) {o : Oper} {r : List Oper} {v : Value} {k : Nat} {ls : Array Bool} {a : Act} {w : World} (hi : ops.toList.drop i = o :: r) (hs : Region.noSelect ops = true) (hf : Region.free md ops ls i = true) (hr : (Region.ready md ops ls).contains i = true) (hw : waitsK md ops n i = true)
    (hQ : ∀ c a w, Q (.panic c) (a.put o.dst v) w → Q (.panic c) a w) (hg : Region.wanted o (yielded ops a.tmps) = true) (hy : ∀ w, S w → (execOp a.eval o).run P w = .ok (.value v) w) (hS : S w) (h : AnyK P md ops Q S n k (ls.setIfInBounds i true) (a.put o.dst v) w) : AnyK P md ops Q S n (k + 1) ls a w :=
  AnyK.first (drop_at hi) (Region.noSelect_spec hs) hQ hw k ls a w (Region.free_spec (drop_at hi) hf) (by simpa using hr) (.inl ⟨hg, hy⟩) hS h
/-- one operation alone may come up -/
theorem AnyK.one (i : Nat) {o : Oper} {r : List Oper} {k : Nat} {ls : Array Bool} {a : Act} {w : World} (hi : ops.toList.drop i = o :: r) (hr : Region.ready md ops ls = [i])
    (h : ∀ K' : Act → World → Prop, Shut (∀ a' w', S w' → (S w' → AnyK P md ops Q S n k (ls.setIfInBounds i true) a' w') → K' a' w') → if Region.wanted o (yielded ops a.tmps) = true then Oper.wp P o a w K' Q else K' (a.put o.dst undef) w) : AnyK P md ops Q S n (k + 1) ls a w := by
  refine ⟨fun h0 => absurd (hr ▸ h0) (by simp), fun j hj => ?_⟩
  rw [hr] at hj
  obtain rfl : j = i := by simpa using hj
  exact wpOp_step (drop_at hi) (fun K' hK => h K' (fun a w hS hW => hK a w ⟨fun _ => hS, hW hS⟩))
/-- the operation n alone is left -/
theorem AnyK.last {o : Oper} {r : List Oper} {k : Nat} {ls : Array Bool} {a : Act} {w : World} (hi : ops.toList.drop n = o :: r) (hr : Region.ready md ops ls = [n])
    (h : ∀ K' : Act → World → Prop, Shut (∀ a' w', AnyK P md ops Q S n k (ls.setIfInBounds n true) a' w' → K' a' w') → if Region.wanted o (yielded ops a.tmps) = true then Oper.wp P o a w K' Q else K' (a.put o.dst undef) w) : AnyK P md ops Q S n (k + 1) ls a w := by
  refine ⟨fun h0 => absurd (hr ▸ h0) (by simp), fun j hj => ?_⟩
  rw [hr] at hj
  obtain rfl : j = n := by simpa using hj
  exact wpOp_step (drop_at hi) (fun K' hK => h K' (fun a w hW => hK a w ⟨fun hne => absurd rfl hne, hW⟩))
theorem AnyK.done {ls : Array Bool} {a : Act} {w : World} (hr : Region.ready md ops ls = []) (h : Q .normal a w) : ∀ k, AnyK P md ops Q S n k ls a w
  | 0 => ⟨hr, h⟩
  | _ + 1 => ⟨fun _ => h, by rw [hr]; simp⟩
theorem regionK (n : Nat) (S : World → Prop) {id : Nat} {a : Act} {w : World} (hm : P.follows .mixedOrders = true) (hS : S w.drew) (h : S w.drew → AnyK P .any ops Q S n ops.size (Array.replicate ops.size false) a w.drew) : (Code.region id ops true).wp P Q a w :=
  wp_region_any hm (AnyK.any _ _ _ _ (h hS))
end
end Go.Proofs.YtoccmiinkfhohaaGreat
namespace Go.Proofs.YtoccmiinkfhohaaGreat
open Go.RowKit Go.Shelf Go.Lib Go.Sort Go.Proofs Go.Maps
set_option maxHeartbeats 4000000
set_option maxRecDepth 100000

theorem onto_belowB {W y y' : World} (h : (∀ a : Addr, a.block < W.heap.size → y.cell? a = W.cell? a) ∧ (∀ b : Nat, b < W.heap.size → y.heap[b]? = W.heap[b]?) ∧ Below W.heap.size W y) (hb : Below W.heap.size y y') :
    (∀ a : Addr, a.block < W.heap.size → y'.cell? a = W.cell? a) ∧ (∀ b : Nat, b < W.heap.size → y'.heap[b]? = W.heap[b]?) ∧ Below W.heap.size W y' := by
  obtain ⟨h1, h2, h3⟩ := h
  have hk : ∀ b : Nat, b < W.heap.size → y'.heap[b]? = W.heap[b]? := fun b hb' => (hb.block b hb').trans (h2 b hb')
  exact ⟨fun a ha => World.cell?_of_block (hk a.block ha), hk, h3.trans hb⟩
theorem own_belowL {y y' : World} {B n : Nat} {v : Value} {xs : List Value} (h : y.ownsRow B 106 15 v n xs) (hb : Below y.heap.size y y') : y'.ownsRow B 106 15 v n xs := own_at h fun r hr => hb.block r (h.lt r hr).2
theorem src_block {y : World} {b : Nat} {t : TypeId} {cs : List Value} (h : y.heap[b]? = some (.cells cs.toArray t (0, 0))) : ∀ ad, some (⟨b, 0, none⟩ : Addr) = some ad → ∀ (j : Nat) u, cs[j]? = some u → y.cell? (ad.add j) = some u := by
  intro ad had
  injection had with had
  subst had
  exact World.news_of_block (cs := cs.toArray) (t := t) (fr := (0, 0)) h
/-- one slot behind a list, at a step of a region that draws its order -/
theorem slot_step {ops : Array Oper} {o : Oper} {a : Act} {y : World} {K : Act → World → Prop} {Q : Exit → Act → World → Prop} {E : Prop} (hgd : o.guard = none) (s x : Operand) (hop : o.op = .call { callee := .builtin .append, args := #[s, x], argTypes := #[107, 107] })
    (v : Value) (n : Nat) (hs : a.eval s = v) (b : Nat) (hx : a.eval x = .slice (some ⟨b, 0, none⟩) 1 1) (cs : List Value) (hcs : cs.length = 15) (h1 : ∀ u ∈ cs, u.oneCell' = true) (xs : List Value) (hm : n ≤ 100000) (B : Nat) (hB : B ≤ y.heap.size) (hr : y.ownsRow B 106 15 v n xs)
    (hblk : y.heap[b]? = some (.cells cs.toArray 106 (0, 0))) (hK : ∀ v' w', w'.ownsRow B 106 15 v' (n + 1) (xs ++ cs) → Below B y w' → K (a.put o.dst v') w') : if Region.wanted o (yielded ops a.tmps) = true then Oper.wp Tryz.prog o a y K Q else E :=
  slots_step hgd s x hop (q := some ⟨b, 0, none⟩) (m := 1) (c := 1) hs hx hr hB (fun h => by cases h) (src_block hblk) (by omega) h1 (by omega) hK
theorem rowSrcS {w y y' : World} {f : Nat → Nat} {q : Option Addr} {c g : Nat} {r : List (KK × PV)} (h : RowO w f 9 106 15 (.slice q r.length c) r.length (flatL r)) (fg : f g = 7) (hb : Below w.heap.size w y) (hc : ∀ a : Addr, a.block < y.heap.size → a.block ≠ g → y'.cell? a = y.cell? a) :
    (q = none → r.length = 0 ∧ c = 0) ∧ ∀ ad, q = some ad → ∀ j u, (flatL r)[j]? = some u → y'.cell? (ad.add j) = some u := by
  obtain ⟨h1, h2⟩ := rowSrc h hb
  refine ⟨h1, fun ad had j u hu => ?_⟩
  have h3 := h2 ad had j u hu
  subst had
  rcases h.1.2 with ⟨e, _⟩ | ⟨g2, cap, cur, e, _, hg, _⟩
  · cases e
  · injection e with e1 e2 e3
    injection e1 with e1
    subst e1
    rw [Addr.add_lit] at h3 ⊢
    have hg9 := h.2 g2 rfl
    rw [hc ⟨g2, 0 + j, none⟩ (Nat.lt_of_lt_of_le (heapH_lt hg) hb.size) (fun e => by have e' : g2 = g := e; rw [e', fg] at hg9; omega)]
    exact h3
theorem grownBy_size {W y : World} {k : Option Nat} (h : W.grownBy y k) : W.heap.size ≤ y.heap.size := h.size
theorem but_belowB {W y y' : World} {b : Nat} (h : (∀ a : Addr, a.block < W.heap.size → a.block ≠ b → y.cell? a = W.cell? a) ∧ W.grownBy y (some b)) (hb : Below W.heap.size y y') :
    (∀ a : Addr, a.block < W.heap.size → a.block ≠ b → y'.cell? a = W.cell? a) ∧ W.grownBy y' (some b) := by
  obtain ⟨h1, h2⟩ := h
  exact ⟨fun a ha hne => by rw [hb.cell ha]; exact h1 a ha hne, ⟨hb.os.trans h2.os, hb.tape.trans h2.tape, hb.output.trans h2.output, Nat.le_trans h2.size hb.size, fun r hr hne => (hb.block r hr).trans (h2.block r hr hne)⟩⟩
theorem but_set {W y : World} {b : Nat} (h : (∀ a : Addr, a.block < W.heap.size → a.block ≠ b → y.cell? a = W.cell? a) ∧ W.grownBy y (some b)) (i : Nat) (u : Value) :
    (∀ a : Addr, a.block < W.heap.size → a.block ≠ b → (y.setCell ⟨b, i, none⟩ u).cell? a = W.cell? a) ∧ W.grownBy (y.setCell ⟨b, i, none⟩ u) (some b) := by
  obtain ⟨h1, h2⟩ := h
  have hk : ∀ r, r ≠ b → (y.setCell ⟨b, i, none⟩ u).heap[r]? = y.heap[r]? := fun r hr => Below.heap_setCell _ _ _ _ hr
  exact ⟨fun a ha hne => (World.cell?_of_block (w := y) (hk a.block hne)).trans (h1 a ha hne), ⟨h2.os, h2.tape, h2.output, by simpa [World.setCell] using h2.size, fun r hr hne => (hk r (fun e => hne (by rw [e]))).trans (h2.block r hr hne)⟩⟩
theorem but_alloc {W y : World} {b : Nat} (h : (∀ a : Addr, a.block < W.heap.size → a.block ≠ b → y.cell? a = W.cell? a) ∧ W.grownBy y (some b)) (o : Obj) :
    (∀ a : Addr, a.block < W.heap.size → a.block ≠ b → (y.alloc o).cell? a = W.cell? a) ∧ W.grownBy (y.alloc o) (some b) := but_below h ((Below.refl _ y).alloc (Nat.le_refl _) o)
theorem c_RPutN {w : World} {f : Nat → Nat} {rb : Nat} {lim : Int} {R : List OB} (hN : Norm f w) (h : RefO w f rb lim R) (hR : ∀ a ∈ R, a.l.length ≤ 100000) (hu : usedH R ≤ 100000) (o : Nat) (a : OB) (h0 : 0 < o) (ho : R[o - 1]? = some a) (k : KK) (hk : okK k) (p : PV) (p0 : 0 ≤ p.fl) (p15 : p.fl ≤ 15) (hi : idx (gk a.l) (pk k) = none) :
    Calls Tryz.prog 26 #[ptrV rb, .int .i64 (o : Int), keyV k.1 k.2, propV p] w fun e w' => (lim ≤ (usedH R : Int) → e = .returned (.int .i64 150) ∧ Below w.heap.size w w') ∧
      ((usedH R : Int) < lim → e = .returned (.int .i64 0) ∧ RefT w f rb lim (R.set (o - 1) { a with l := putL a.l (pk k) (keptP p) }) w') := by
  obtain ⟨W2, hW2⟩ : ∃ W2, (w.alloc (.cells #[.string k.1, .int .i64 k.2] 31)).alloc (.cells (encP p).toArray 36) = W2 := ⟨_, rfl⟩
  have hb2 : Below w.heap.size w W2 := by rw [← hW2]; exact ((Below.refl _ w).alloc (Nat.le_refl _) _).alloc (by simp) _
  have hs2 : W2.heap.size = w.heap.size + 2 := by rw [← hW2]; simp
  have d0 : W2.heap[w.heap.size]? = some (.cells #[.string k.1, .int .i64 k.2] 31 (0, 0)) := by rw [← hW2, Below.heap_alloc _ _ _ (by simp)]; exact heap_alloc_new w _
  have z0 : W2.heap[w.heap.size + 1]? = some (.cells (encP p).toArray 36 (0, 0)) := by rw [← hW2]; exact heap_alloc2_new w _ _
  have kc0 : W2.cell? ⟨w.heap.size, 0, none⟩ = some (.string k.1) := by rw [cell_of_row _ _ 0 _ _ _ d0]; rfl
  have kc1 : W2.cell? ⟨w.heap.size, 1, none⟩ = some (.int .i64 k.2) := by rw [cell_of_row _ _ 1 _ _ _ d0]; rfl
  have zc : W2.cell? ⟨w.heap.size + 1, 12, none⟩ = some (.int .i64 p.fl) := by rw [cell_of_row _ _ 12 _ _ _ z0]; rfl
  have hN2 : Norm f W2 := fun r hr => hN r (Nat.le_trans hb2.size hr)
  have hH := c_RHas (h.below hN hb2) (o : Int)
  rw [hasH_of h0 ho] at hH
  have hBy := c_Rplace1 hN2 (h.below hN hb2) o a h0 ho (hR a (List.mem_of_getElem? ho)) k hk
  rw [hi] at hBy
  have hU := fun y (hy : Below w.heap.size w y) => c_RUsed (h.below hN hy) hu
  obtain ⟨g, c, sv, ⟨c0, c1⟩, ⟨l1, l2, ne0⟩, ⟨_, fg⟩, hs, ⟨p1, p2⟩, ⟨_, _, _, d3⟩, fz, hud⟩ := h.upd h0 ho
  obtain ⟨r, r1, r2, r3⟩ := hs
  have hrl : r.length ≤ 100000 := by rw [← List.length_map (f := fun x : KK × PV => (pk x.1, x.2)), r2]; exact hR a (List.mem_of_getElem? ho)
  obtain ⟨q, cp, rfl, _⟩ := SlotsO.form r1
  have hsrc := fun (y y' : World) (hb : Below w.heap.size w y) (hc : ∀ a : Addr, a.block < y.heap.size → a.block ≠ g → y'.cell? a = y.cell? a) => rowSrcS r1 fg hb hc
  have hKe := c_Rkept p p0 p15
  have hput := putL_rawN r2 hi (keptP p)
  have hset : flatL (r ++ [(k, keptP p)]) = flatL r ++ encL (k, keptP p) := by simp [flatL]
  have hokS : ∀ z ∈ r ++ [(k, keptP p)], okK z.1 := fun z hz => by
    rcases List.mem_append.1 hz with h | h
    · exact r3 z h
    · obtain rfl : z = (k, keptP p) := by simpa using h
      exact hk
  have hlen' : (r ++ [(k, keptP p)]).length = r.length + 1 := by simp
  have hdone := fun (y : World) (gg cap : Nat) hb hr hn => rput_done (y := y) (gg := gg) (cap := cap) (n := r.length + 1) (r' := r ++ [(k, keptP p)]) hN hud hb hr hn hokS
  rw [hput, hset, hlen'] at hdone
  obtain ⟨nR, hnR⟩ : ∃ nR, R.length + 1 = nR := ⟨_, rfl⟩
  rw [hnR] at c1 p2
  unfold placeV at hBy
  dsimp only at hBy
  have nf1 : ¬ p.fl < 0 := by omega
  have nf2 : ¬ 15 < p.fl := by omega
  have hfl := flatL_len r
  have hone := flatL_one r
  have fz3 := fz (o * 4 + 3)
  have hone2 := encL_one (k, keptP p)
  unfold ptrV keyV propV at *
  obtain ⟨k0, kn⟩ := k
  dsimp only at *
  generalize keptP p = P2 at *
  unfold encL at hdone hone2
  unfold encP at hKe hdone hone2
  replace hH := Lib.hid hH
  replace hBy := Lib.hid hBy
  replace hU := Lib.hid hU
  replace hb2 := Lib.hid hb2
  replace hs2 := Lib.hid hs2
  replace z0 := Lib.hid z0
  replace d0 := Lib.hid d0
  replace hsrc := Lib.hid hsrc
  replace hKe := Lib.hid hKe
  replace hdone := Lib.hid hdone
  replace hfl := Lib.hid hfl
  replace hone := Lib.hid hone
  replace hone2 := Lib.hid hone2
  replace hrl := Lib.hid hrl
  have c0w := Lib.hid c0
  have c1w := Lib.hid c1
  have d3w := Lib.hid d3
  have fz3w := Lib.hid fz3
  have l1w := Lib.hid l1
  have l2w := Lib.hid l2
  clear h hN hN2 hk hR ho hi r1 r2 r3 hput hokS hud fz fz3 c0 c1 d3 l1 l2 hset hlen' hu
  go_enter Tryz.func26, Tryz.ntmps26
  go_wp2_with (first | (go_at_call 32; refine hH.out.mono ?_; rintro e w1 ⟨rfl, e1⟩; cases e1) | (go_at_call 47; refine hBy.out.mono ?_; rintro e y2 ⟨rfl, hb5⟩; have hB5 := Lib.hid (hb2.out.trans (hb5.mono hb2.out.size)); have hb5' := Lib.hid hb5; clear kc0 kc1 zc hb5))
  have c0 := (hB5.out.cell (p := ⟨rb, 0, none⟩) l1w.out).trans c0w.out
  have l1 := Nat.lt_of_lt_of_le l1w.out hB5.out.size
  have hst := onto_drew y2
  go_region_held3 (fun y => (∀ a : Addr, a.block < y2.heap.size → y.cell? a = y2.cell? a) ∧ (∀ b : Nat, b < y2.heap.size → y.heap[b]? = y2.heap[b]?) ∧ Below y2.heap.size y2 y) (first | with_reducible assumption | with_reducible exact hst | with_reducible exact onto_below (by assumption) (by assumption)) (first | (go_at_call 33; refine (hU.out _ (hB5.out.trans (Below.mono (And.right (And.right (by assumption))) hB5.out.size))).mono ?_; rintro e y3 ⟨rfl, hb6⟩))
  have hb6' := Lib.hid ((Below.refl y2.heap.size y2).drew.trans (hb6.mono (Nat.le_refl _)))
  have hB6 := Lib.hid (hB5.out.trans (hb6'.out.mono hB5.out.size))
  clear hb6 hst c0 l1
  cases hdl : decide (lim ≤ (usedH R : Int)) with
  | true =>
    have hlim : lim ≤ (usedH R : Int) := of_decide_eq_true hdl
    replace hlim := Lib.hid hlim
    go_wp2_with fail
    go_ret
    exact ⟨fun _ => ⟨rfl, hB6.out⟩, fun h => by have := hlim.out; omega⟩
  | false =>
    have hlim : ¬ lim ≤ (usedH R : Int) := of_decide_eq_false hdl
    replace hlim := Lib.hid hlim
    have z6 := (hb6'.out.block _ (Nat.lt_of_lt_of_le (heapH_lt z0.out) hb5'.out.size)).trans ((hb5'.out.block _ (heapH_lt z0.out)).trans z0.out)
    have d6 := (hb6'.out.block _ (Nat.lt_of_lt_of_le (heapH_lt d0.out) hb5'.out.size)).trans ((hb5'.out.block _ (heapH_lt d0.out)).trans d0.out)
    have c1 := (hB6.out.cell (p := ⟨rb, 1, none⟩) l1w.out).trans c1w.out
    have d3 := (hB6.out.cell (p := ⟨g, o * 4 + 3, none⟩) l2w.out).trans d3w.out
    have kc0 : y3.cell? ⟨w.heap.size, 0, none⟩ = some (.string k0) := by rw [cell_of_row _ _ 0 _ _ _ d6]; rfl
    have kc1 : y3.cell? ⟨w.heap.size, 1, none⟩ = some (.int .i64 kn) := by rw [cell_of_row _ _ 1 _ _ _ d6]; rfl
    obtain ⟨v0, v1, v2, v3, v4, v5, v6, v7, v8, v9, v10, v11, v12⟩ := cells13 z6
    have l1 := Nat.lt_of_lt_of_le l1w.out hB6.out.size
    have l2 := Nat.lt_of_lt_of_le l2w.out hB6.out.size
    have l3 := heapH_lt z6
    have l4 := heapH_lt d6
    have hst := onto_drew y3
    have hsrc' := hsrc.out y3.drew y3.drew hB6.out.drew (fun _ _ _ => rfl)
    replace hsrc' := Lib.hid hsrc'
    replace z6 := Lib.hid z6
    replace d6 := Lib.hid d6
    clear hsrc
    go_wp2_with fail
    refine regionK 22 (fun y => (∀ a : Addr, a.block < y3.heap.size → y.cell? a = y3.cell? a) ∧ (∀ b : Nat, b < y3.heap.size → y.heap[b]? = y3.heap[b]?) ∧ Below y3.heap.size y3 y) (by kernel_rfl) hst (fun hHeld => ?_)
    simp only [List.size_toArray, List.length_cons, List.length_nil, Nat.reduceAdd, Array.replicate_succ]
    refine AnyK.take 0 (v := ?_) rfl (by kernel_rfl) (by kernel_rfl) (by kernel_rfl) (by kernel_rfl) (fun _ _ _ h => h) (by rfl) ?_ (by assumption) ?_
    rotate_left
    · intro y hSy; (try dsimp only at hSy); go_simp; (try with_reducible rfl)
    try simp only [Act.put, List.setIfInBounds_toArray, List.set_cons_zero, List.set_cons_succ]
    refine AnyK.take 1 (v := ?_) rfl (by kernel_rfl) (by kernel_rfl) (by kernel_rfl) (by kernel_rfl) (fun _ _ _ h => h) (by rfl) ?_ (by assumption) ?_
    rotate_left
    · intro y hSy; (try dsimp only at hSy); go_simp; (try with_reducible rfl)
    try simp only [Act.put, List.setIfInBounds_toArray, List.set_cons_zero, List.set_cons_succ]
    refine AnyK.take 2 (v := ?_) rfl (by kernel_rfl) (by kernel_rfl) (by kernel_rfl) (by kernel_rfl) (fun _ _ _ h => h) (by rfl) ?_ (by assumption) ?_
    rotate_left
    · intro y hSy; (try dsimp only at hSy); go_simp; (try with_reducible rfl)
    try simp only [Act.put, List.setIfInBounds_toArray, List.set_cons_zero, List.set_cons_succ]
    refine AnyK.take 3 (v := ?_) rfl (by kernel_rfl) (by kernel_rfl) (by kernel_rfl) (by kernel_rfl) (fun _ _ _ h => h) (by rfl) ?_ (by assumption) ?_
    rotate_left
    · intro y hSy; (try dsimp only at hSy); go_simp; (try with_reducible rfl)
    try simp only [Act.put, List.setIfInBounds_toArray, List.set_cons_zero, List.set_cons_succ]
    refine AnyK.take 4 (v := ?_) rfl (by kernel_rfl) (by kernel_rfl) (by kernel_rfl) (by kernel_rfl) (fun _ _ _ h => h) (by rfl) ?_ (by assumption) ?_
    rotate_left
    · intro y hSy; (try dsimp only at hSy); go_simp; (try with_reducible rfl)
    try simp only [Act.put, List.setIfInBounds_toArray, List.set_cons_zero, List.set_cons_succ]
    refine AnyK.take 5 (v := ?_) rfl (by kernel_rfl) (by kernel_rfl) (by kernel_rfl) (by kernel_rfl) (fun _ _ _ h => h) (by rfl) ?_ (by assumption) ?_
    rotate_left
    · intro y hSy; (try dsimp only at hSy); go_simp; (try with_reducible rfl)
    try simp only [Act.put, List.setIfInBounds_toArray, List.set_cons_zero, List.set_cons_succ]
    refine AnyK.take 6 (v := ?_) rfl (by kernel_rfl) (by kernel_rfl) (by kernel_rfl) (by kernel_rfl) (fun _ _ _ h => h) (by rfl) ?_ (by assumption) ?_
    rotate_left
    · intro y hSy; (try dsimp only at hSy); go_simp; (try with_reducible rfl)
    try simp only [Act.put, List.setIfInBounds_toArray, List.set_cons_zero, List.set_cons_succ]
    refine AnyK.take 7 (v := ?_) rfl (by kernel_rfl) (by kernel_rfl) (by kernel_rfl) (by kernel_rfl) (fun _ _ _ h => h) (by rfl) ?_ (by assumption) ?_
    rotate_left
    · intro y hSy; (try dsimp only at hSy); go_simp; (try with_reducible rfl)
    try simp only [Act.put, List.setIfInBounds_toArray, List.set_cons_zero, List.set_cons_succ]
    refine AnyK.take 8 (v := ?_) rfl (by kernel_rfl) (by kernel_rfl) (by kernel_rfl) (by kernel_rfl) (fun _ _ _ h => h) (by rfl) ?_ (by assumption) ?_
    rotate_left
    · intro y hSy; (try dsimp only at hSy); go_simp; (try with_reducible rfl)
    try simp only [Act.put, List.setIfInBounds_toArray, List.set_cons_zero, List.set_cons_succ]
    refine AnyK.take 9 (v := ?_) rfl (by kernel_rfl) (by kernel_rfl) (by kernel_rfl) (by kernel_rfl) (fun _ _ _ h => h) (by rfl) ?_ (by assumption) ?_
    rotate_left
    · intro y hSy; (try dsimp only at hSy); go_simp; (try with_reducible rfl)
    try simp only [Act.put, List.setIfInBounds_toArray, List.set_cons_zero, List.set_cons_succ]
    refine AnyK.take 10 (v := ?_) rfl (by kernel_rfl) (by kernel_rfl) (by kernel_rfl) (by kernel_rfl) (fun _ _ _ h => h) (by rfl) ?_ (by assumption) ?_
    rotate_left
    · intro y hSy; (try dsimp only at hSy); go_simp; (try with_reducible rfl)
    try simp only [Act.put, List.setIfInBounds_toArray, List.set_cons_zero, List.set_cons_succ]
    refine AnyK.take 11 (v := ?_) rfl (by kernel_rfl) (by kernel_rfl) (by kernel_rfl) (by kernel_rfl) (fun _ _ _ h => h) (by rfl) ?_ (by assumption) ?_
    rotate_left
    · intro y hSy; (try dsimp only at hSy); go_simp; (try with_reducible rfl)
    try simp only [Act.put, List.setIfInBounds_toArray, List.set_cons_zero, List.set_cons_succ]
    refine AnyK.take 12 (v := ?_) rfl (by kernel_rfl) (by kernel_rfl) (by kernel_rfl) (by kernel_rfl) (fun _ _ _ h => h) (by rfl) ?_ (by assumption) ?_
    rotate_left
    · intro y hSy; (try dsimp only at hSy); go_simp; (try with_reducible rfl)
    try simp only [Act.put, List.setIfInBounds_toArray, List.set_cons_zero, List.set_cons_succ]
    refine AnyK.take 14 (v := ?_) rfl (by kernel_rfl) (by kernel_rfl) (by kernel_rfl) (by kernel_rfl) (fun _ _ _ h => h) (by rfl) ?_ (by assumption) ?_
    rotate_left
    · intro y hSy; (try dsimp only at hSy); go_simp; (try with_reducible rfl)
    try simp only [Act.put, List.setIfInBounds_toArray, List.set_cons_zero, List.set_cons_succ]
    refine AnyK.take 15 (v := ?_) rfl (by kernel_rfl) (by kernel_rfl) (by kernel_rfl) (by kernel_rfl) (fun _ _ _ h => h) (by rfl) ?_ (by assumption) ?_
    rotate_left
    · intro y hSy; (try dsimp only at hSy); go_simp; (try with_reducible rfl)
    try simp only [Act.put, List.setIfInBounds_toArray, List.set_cons_zero, List.set_cons_succ]
    refine AnyK.one 13 rfl (by kernel_rfl) (fun K' hK => ?_)
    refine slots_step rfl _ _ rfl (v := .slice none 0 0) (n := 0) (m := r.length) (xs := []) (news := flatL r) rfl rfl (World.ownsRow_nil y3.drew y3.heap.size _ _) (Nat.le_refl _) hsrc'.out.1 hsrc'.out.2 hfl.out hone.out (by have := hrl.out; omega) ?_
    intro u1 w7 hown7 hbe7
    rw [Nat.zero_add, List.nil_append] at hown7
    refine hK.out _ _ (onto_belowB hHeld hbe7) (fun hHeld7 => ?_)
    clear hK K'
    try simp only [Act.put, List.setIfInBounds_toArray, List.set_cons_zero, List.set_cons_succ]
    clear hHeld hst
    refine AnyK.one 16 rfl (by kernel_rfl) (fun K' hK => ?_)
    go_simp
    refine (hKe.out _).mono ?_
    rintro e y4 ⟨rfl, hb7⟩
    have hown4 := own_belowL hown7 hb7
    go_simp
    refine hK.out _ _ (onto_below hHeld7 hb7) (fun hHeld8 => ?_)
    clear hK K'
    try simp only [Act.put, List.setIfInBounds_toArray, List.set_cons_zero, List.set_cons_succ]
    clear hHeld7
    refine AnyK.take 17 (v := ?_) rfl (by kernel_rfl) (by kernel_rfl) (by kernel_rfl) (by kernel_rfl) (fun _ _ _ h => h) (by rfl) ?_ (by assumption) ?_
    rotate_left
    · intro y hSy; (try dsimp only at hSy); go_simp; (try with_reducible rfl)
    try simp only [Act.put, List.setIfInBounds_toArray, List.set_cons_zero, List.set_cons_succ]
    refine AnyK.one 18 rfl (by kernel_rfl) (fun K' hK => ?_)
    go_simp
    refine hK.out _ _ (onto_alloc hHeld8 _) (fun hHeld9 => ?_)
    clear hK K'
    try simp only [Act.put, List.setIfInBounds_toArray, List.set_cons_zero, List.set_cons_succ]
    refine AnyK.one 19 rfl (by kernel_rfl) (fun K' hK => ?_)
    refine slot_step rfl _ _ rfl u1 r.length rfl _ rfl [.string k0, .int .i64 kn, .int .i64 P2.v.k, .float .f64 P2.v.x, .string P2.v.s, .int .i64 P2.v.r, .int .i64 P2.g.k, .float .f64 P2.g.x, .string P2.g.s, .int .i64 P2.g.r, .int .i64 P2.t.k, .float .f64 P2.t.x, .string P2.t.s, .int .i64 P2.t.r, .int .i64 P2.fl] rfl hone2.out (flatL r) hrl.out y3.heap.size hHeld9.2.2.size (hown4.alloc _) (heap_alloc_new _ _) ?_
    intro u2 w8 hown8 hbe8
    obtain ⟨gg, cap, rfl, hBg, hltg⟩ := hown8.form (by omega)
    refine hK.out _ _ (onto_belowB hHeld9 hbe8) (fun hHeld10 => ?_)
    clear hK K'
    try simp only [Act.put, List.setIfInBounds_toArray, List.set_cons_zero, List.set_cons_succ]
    clear hHeld8 hHeld9
    refine AnyK.one 20 rfl (by kernel_rfl) (fun K' hK => ?_)
    go_simp
    refine hK.out _ _ hHeld10 (fun hHeld11 => ?_)
    clear hK K'
    try simp only [Act.put, List.setIfInBounds_toArray, List.set_cons_zero, List.set_cons_succ]
    refine AnyK.one 21 rfl (by kernel_rfl) (fun K' hK => ?_)
    go_simp
    refine hK.out _ _ hHeld10 (fun hHeld12 => ?_)
    clear hK K'
    try simp only [Act.put, List.setIfInBounds_toArray, List.set_cons_zero, List.set_cons_succ]
    have hB8 := hB6.out.trans (hHeld10.2.2.mono hB6.out.size)
    have d8 := (hB8.cell (p := ⟨g, o * 4 + 3, none⟩) l2w.out).trans d3w.out
    have f8 := (World.frozen?_of_block (w := w) (a := ⟨g, o * 4 + 3, none⟩) (hB8.block g l2w.out)).trans fz3w.out
    refine AnyK.last rfl (by kernel_rfl) (fun K' hK => ?_)
    go_simp
    refine hK.out _ _ ?_
    clear hK K'
    try simp only [Act.put, List.setIfInBounds_toArray, List.set_cons_zero, List.set_cons_succ]
    refine AnyK.done (by kernel_rfl) ?_ _
    go_wp2
    go_ret
    exact ⟨fun h => absurd h (by have := hlim.out; omega), fun _ => ⟨rfl, hdone.out w8 gg cap hB8 (row_lower hown8 hB6.out.size) trivial⟩⟩
end Go.Proofs.YtoccmiinkfhohaaGreat
namespace Go.Proofs.YtoccmiinkfhohaaGreat
open Go.RowKit Go.Shelf Go.Lib Go.Sort Go.Proofs Go.Maps
set_option maxHeartbeats 4000000
set_option maxRecDepth 100000

def rputA (K : KK) (p : PV) (a : OB) : OB := { a with l := putL a.l K (keptP p) }
def rputH (R : List OB) (lim o : Int) (K : KK) (p : PV) : List OB := if putE R lim o K p = 0 then updH R o (rputA K p) else R
def rdropA (K : KK) (a : OB) : OB := match idx (gk a.l) K with | some j => { a with l := a.l.eraseIdx j } | none => a
theorem c_RPut {w : World} {f : Nat → Nat} {rb : Nat} {lim : Int} {R : List OB} (hN : Norm f w) (h : RefO w f rb lim R) (hR : ∀ a ∈ R, a.l.length ≤ 100000) (hu : usedH R ≤ 100000) (o : Int) (k : KK) (hk : okK k) (p : PV) :
    Calls Tryz.prog 26 #[ptrV rb, .int .i64 o, keyV k.1 k.2, propV p] w fun e w' => e = .returned (.int .i64 (putE R lim o (pk k) p)) ∧ RefT w f rb lim (rputH R lim o (pk k) p) w' := by
  unfold rputH
  rcases objH_cases R o with ⟨h1, h2⟩ | ⟨n, a, rfl, h0, ha, h3, h4⟩
  · have e1 : putE R lim o (pk k) p = 151 := by unfold putE; rw [if_pos h1]
    rw [e1]
    refine (c_RPut0 hN h o k p h1).mono ?_
    rintro e w' ⟨rfl, hb⟩
    exact ⟨rfl, RefT.same hN h hb⟩
  · by_cases hf : p.fl < 0 ∨ 15 < p.fl
    · have e1 : putE R lim (n : Int) (pk k) p = 1 := by unfold putE; rw [if_neg (by rw [h4]; decide), if_pos hf]
      rw [e1]
      refine (c_RPutR hN h n k p h4 hf).mono ?_
      rintro e w' ⟨rfl, hb⟩
      exact ⟨rfl, RefT.same hN h hb⟩
    · have e0 : putE R lim (n : Int) (pk k) p = if (getL a.l (pk k)).isSome = false ∧ lim ≤ (usedH R : Int) then 150 else 0 := by
        unfold putE
        rw [if_neg (by rw [h4]; decide), if_neg hf, own_some h0 ha]
      rw [e0, getL_idx]
      cases hi : idx (gk a.l) (pk k) with
      | some i =>
        rw [if_neg (fun h => by cases h.1), if_pos rfl, updH_at h0 ha]
        exact c_RPutS hN h hR n a h0 ha k hk p (by omega) (by omega) i hi
      | none =>
        by_cases hl : lim ≤ (usedH R : Int)
        · rw [if_pos ⟨rfl, hl⟩]
          refine (c_RPutN hN h hR hu n a h0 ha k hk p (by omega) (by omega) hi).mono ?_
          rintro e w' ⟨q1, q2⟩
          obtain ⟨rfl, hb⟩ := q1 hl
          exact ⟨rfl, RefT.same hN h hb⟩
        · rw [if_neg (fun h => hl h.2), if_pos rfl, updH_at h0 ha]
          refine (c_RPutN hN h hR hu n a h0 ha k hk p (by omega) (by omega) hi).mono ?_
          rintro e w' ⟨q1, q2⟩
          exact q2 (by omega)
theorem c_RDropN {w : World} {f : Nat → Nat} {rb : Nat} {lim : Int} {R : List OB} (hN : Norm f w) (h : RefO w f rb lim R) (hR : ∀ a ∈ R, a.l.length ≤ 100000) (o : Int) (k : KK) (hk : okK k) (hp : placeH R o (pk k) = none) :
    Calls Tryz.prog 27 #[ptrV rb, .int .i64 o, keyV k.1 k.2] w fun e w' => e = .returned (.bool false) ∧ Below w.heap.size w w' := by
  obtain ⟨W1, hW1⟩ : ∃ W1, w.alloc (.cells #[.string k.1, .int .i64 k.2] 31) = W1 := ⟨_, rfl⟩
  have hb1 : Below w.heap.size w W1 := by rw [← hW1]; exact (Below.refl _ w).alloc (Nat.le_refl _) _
  have d0 : W1.heap[w.heap.size]? = some (.cells #[.string k.1, .int .i64 k.2] 31 (0, 0)) := by rw [← hW1]; exact heap_alloc_new w _
  have kc0 : W1.cell? ⟨w.heap.size, 0, none⟩ = some (.string k.1) := by rw [cell_of_row _ _ 0 _ _ _ d0]; rfl
  have kc1 : W1.cell? ⟨w.heap.size, 1, none⟩ = some (.int .i64 k.2) := by rw [cell_of_row _ _ 1 _ _ _ d0]; rfl
  have hBy := c_Rplace (fun r hr => hN r (Nat.le_trans hb1.size hr)) (h.below hN hb1) hR o k hk
  rw [hp] at hBy
  unfold placeV at hBy
  dsimp only at hBy
  obtain ⟨k0, kn⟩ := k
  unfold ptrV keyV at *
  dsimp only at *
  replace hBy := Lib.hid hBy
  replace hb1 := Lib.hid hb1
  replace d0 := Lib.hid d0
  clear hk hN h hR hp
  go_enter Tryz.func27, Tryz.ntmps27
  go_wp2_with (first | (go_at_call 47; refine hBy.out.mono ?_; rintro e w2 ⟨rfl, hb2⟩; clear kc0 kc1; replace hb2 := Lib.hid hb2))
  go_ret
  exact ⟨rfl, hb1.out.trans (hb2.out.mono hb1.out.size)⟩
/-- the two parts of a list round a slot -/
theorem eraseIdx_parts {α : Type} (l : List α) (i : Nat) : l.eraseIdx i = l.take i ++ l.drop (i + 1) := List.eraseIdx_eq_take_drop_succ ..
theorem flatL_take (r : List (KK × PV)) (i : Nat) : flatL (r.take i) ++ flatL (r.drop (i + 1)) = flatL (r.eraseIdx i) := by
  rw [eraseIdx_parts]; unfold flatL; rw [List.flatMap_append]
theorem flatL_split (r : List (KK × PV)) (i : Nat) : flatL r = flatL (r.take i) ++ flatL (r.drop i) := by
  unfold flatL
  rw [← List.flatMap_append, List.take_append_drop]
theorem flatL_takeAt {r : List (KK × PV)} {i j : Nat} {u : Value} (h : (flatL (r.take i))[j]? = some u) : (flatL r)[j]? = some u := by
  rw [flatL_split r i, List.getElem?_append_left (List.getElem?_eq_some_iff.1 h).1]; exact h
theorem flatL_dropAt {r : List (KK × PV)} {i j : Nat} {u : Value} (hi : i ≤ r.length) (h : (flatL (r.drop i))[j]? = some u) : (flatL r)[i * 15 + j]? = some u := by
  have hl : (flatL (r.take i)).length = i * 15 := by rw [flatL_len, List.length_take, Nat.min_eq_left hi]
  rw [flatL_split r i, List.getElem?_append_right (by omega), hl, Nat.add_sub_cancel_left]; exact h
theorem eraseIdx_map {r : List (KK × PV)} (i : Nat) : (r.eraseIdx i).map (fun x => (pk x.1, x.2)) = (r.map (fun x => (pk x.1, x.2))).eraseIdx i := by
  rw [eraseIdx_parts, eraseIdx_parts, List.map_append, List.map_take, List.map_drop]
theorem rput_any {w y : World} {f : Nat → Nat} {rb o : Nat} {lim : Int} {R : List OB} {a : OB} {sv v : Value} {r' : List (KK × PV)} {g : Nat} (hN : Norm f w) (hu : ∀ (f1 : Nat → Nat) (w1 : World) (j : Nat) (v : Value) (a' : OB) (sv' : Value), Turn (fun _ => False) f f1 w w1 → j < 4 → (encR (a, sv)).set j v = encR (a', sv') → SlotsO w1 f1 sv' a'.l → RefT w f rb lim (R.set (o - 1) a') (w1.setCell ⟨g, o * 4 + j, none⟩ v))
    (hb : Below w.heap.size w y) (hr : y.ownsRow w.heap.size 106 15 v r'.length (flatL r')) (hok : ∀ x ∈ r', okK x.1) :
    RefT w f rb lim (R.set (o - 1) { a with l := r'.map (fun x => (pk x.1, x.2)) }) (y.setCell ⟨g, o * 4 + 3, none⟩ v) := by
  have t : Turn (fun _ => False) f (give f w y (fun r => if v.ownBlock = some r then 9 else 0)) w y := (Turn.refl _ hN).give _ hb.os hb.tape hb.output hb.size (fun r hr _ => hb.block r hr)
  refine hu _ y 3 _ { a with l := r'.map (fun x => (pk x.1, x.2)) } v t (by omega) rfl ⟨r', ⟨row_base hr, fun k hk => ?_⟩, rfl, hok⟩
  obtain ⟨h1, h2⟩ := hr.lt k hk
  rw [give_new h1 h2, if_pos hk]
theorem rowL_form {y : World} {B n : Nat} {v : Value} {xs : List Value} (h : y.ownsRow B 106 15 v n xs) : ∃ q c, v = .slice q n c := by
  rcases h.2 with ⟨e, h⟩ | ⟨g, cap, cur, e, _⟩
  · rw [h]; exact ⟨_, _, e⟩
  · exact ⟨_, _, e⟩
theorem c_RDropT {w : World} {f : Nat → Nat} {rb : Nat} {lim : Int} {R : List OB} (hN : Norm f w) (h : RefO w f rb lim R) (hR : ∀ a ∈ R, a.l.length ≤ 100000) (o : Nat) (a : OB) (h0 : 0 < o) (ho : R[o - 1]? = some a) (k : KK) (hk : okK k) (i : Nat) (hi : idx (gk a.l) (pk k) = some i) :
    Calls Tryz.prog 27 #[ptrV rb, .int .i64 (o : Int), keyV k.1 k.2] w fun e w' => e = .returned (.bool true) ∧ RefT w f rb lim (R.set (o - 1) { a with l := a.l.eraseIdx i }) w' := by
  obtain ⟨W1, hW1⟩ : ∃ W1, w.alloc (.cells #[.string k.1, .int .i64 k.2] 31) = W1 := ⟨_, rfl⟩
  have hb1 : Below w.heap.size w W1 := by rw [← hW1]; exact (Below.refl _ w).alloc (Nat.le_refl _) _
  have d0 : W1.heap[w.heap.size]? = some (.cells #[.string k.1, .int .i64 k.2] 31 (0, 0)) := by rw [← hW1]; exact heap_alloc_new w _
  have kc0 : W1.cell? ⟨w.heap.size, 0, none⟩ = some (.string k.1) := by rw [cell_of_row _ _ 0 _ _ _ d0]; rfl
  have kc1 : W1.cell? ⟨w.heap.size, 1, none⟩ = some (.int .i64 k.2) := by rw [cell_of_row _ _ 1 _ _ _ d0]; rfl
  have hBy := c_Rplace1 (fun r hr => hN r (Nat.le_trans hb1.size hr)) (h.below hN hb1) o a h0 ho (hR a (List.mem_of_getElem? ho)) k hk
  rw [hi] at hBy
  obtain ⟨g, c, sv, ⟨c0, c1⟩, ⟨l1, l2, ne0⟩, ⟨_, fg⟩, hs, ⟨p1, p2⟩, ⟨_, _, _, d3⟩, fz, hud⟩ := h.upd h0 ho
  obtain ⟨r, r1, r2, r3⟩ := hs
  have hrl : r.length ≤ 100000 := by rw [← List.length_map (f := fun x : KK × PV => (pk x.1, x.2)), r2]; exact hR a (List.mem_of_getElem? ho)
  have hil : i < r.length := by rw [← List.length_map (f := fun x : KK × PV => (pk x.1, x.2)), r2]; have := idx_lt hi; simpa [gk] using this
  obtain ⟨gq, cp, rfl, hlt, hcap⟩ := r1.1.form (by omega)
  have hn : r.length ≤ cp := by
    rcases r1.1.2 with ⟨e, _⟩ | ⟨g2, cap, cur, e, _, hg, q1, q2, _⟩
    · cases e
    · injection e with e1 e2 e3; omega
  have hsrc := fun (y : World) (hy : Below w.heap.size w y) => (rowSrc r1 hy).2 _ rfl
  have e1 : (r.eraseIdx i).map (fun x => (pk x.1, x.2)) = a.l.eraseIdx i := by rw [eraseIdx_map, r2]
  have hok : ∀ z ∈ r.eraseIdx i, okK z.1 := fun z hz => r3 z (List.mem_of_mem_eraseIdx hz)
  have hlen : (r.eraseIdx i).length = i + (r.length - (i + 1)) := by rw [List.length_eraseIdx, if_pos hil]; omega
  have hdone := fun (y : World) (v : Value) hb hr => rput_any (y := y) (v := v) (r' := r.eraseIdx i) hN hud hb hr hok
  rw [e1, ← flatL_take, hlen] at hdone
  have hf1 : (flatL (r.take i)).length = i * 15 := by rw [flatL_len, List.length_take, Nat.min_eq_left (by omega)]
  have hf2 : (flatL (r.drop (i + 1))).length = (r.length - (i + 1)) * 15 := by rw [flatL_len, List.length_drop]
  have hone1 := flatL_one (r.take i)
  have hone2 := flatL_one (r.drop (i + 1))
  have hs1 : ∀ y : World, Below w.heap.size w y → ∀ ad, some (⟨gq, 0, none⟩ : Addr) = some ad → ∀ j u, (flatL (r.take i))[j]? = some u → y.cell? (ad.add j) = some u := fun y hy ad had j u hu => by
    injection had with had; subst had
    exact hsrc y hy j u (flatL_takeAt hu)
  have hs2 : ∀ y : World, Below w.heap.size w y → ∀ ad, some (⟨gq, (i + 1) * 15, none⟩ : Addr) = some ad → ∀ j u, (flatL (r.drop (i + 1)))[j]? = some u → y.cell? (ad.add j) = some u := fun y hy ad had j u hu => by
    injection had with had; subst had
    have h1 := hsrc y hy _ u (flatL_dropAt (by omega) hu)
    rw [Addr.add_lit] at h1 ⊢
    rw [Nat.zero_add] at h1
    exact h1
  have hs3 : cp = i + 1 → ∀ y : World, ∀ ad, some (⟨gq, 0, none⟩ : Addr) = some ad → ∀ j u, (flatL (r.drop (i + 1)))[j]? = some u → y.cell? (ad.add j) = some u := fun he y ad had j u hu => by
    rw [List.drop_eq_nil_of_le (by omega)] at hu
    cases hu
  unfold placeV at hBy
  dsimp only at hBy
  have q1 : (0 : Int) ≤ (i : Int) := by omega
  have q2 : (i : Int) ≤ (cp : Int) := by omega
  have q3 : (0 : Int) ≤ (i : Int) + 1 := by omega
  have q7 : (i : Int) ≤ (i : Int) + 1 := by omega
  have q4 : (i : Int) + 1 ≤ (r.length : Int) := by omega
  have q5 : ((i : Int) + 1).toNat = i + 1 := by omega
  have q6 : IntKind.i64.wrap ((i : Int) + 1) = (i : Int) + 1 := by rw [IntKind.wrap_i64]; omega
  have nneg : ¬ ((i : Int) < 0) := by omega
  have fz3 := fz (o * 4 + 3)
  unfold ptrV keyV at *
  obtain ⟨k0, kn⟩ := k
  dsimp only at *
  generalize R.length + 1 = nR at *
  replace hBy := Lib.hid hBy
  replace hb1 := Lib.hid hb1
  replace hdone := Lib.hid hdone
  replace hf1 := Lib.hid hf1
  replace hf2 := Lib.hid hf2
  replace hone1 := Lib.hid hone1
  replace hone2 := Lib.hid hone2
  replace hs1 := Lib.hid hs1
  replace hs2 := Lib.hid hs2
  replace hs3 := Lib.hid hs3
  replace hrl := Lib.hid hrl
  have c1w := Lib.hid c1
  have d3w := Lib.hid d3
  have fz3w := Lib.hid fz3
  have l1w := Lib.hid l1
  have l2w := Lib.hid l2
  have hcpB : cp = i + 1 ∨ ¬ cp = i + 1 := by omega
  clear h hN hk hR ho hi r1 r2 r3 hok hud fz fz3 c0 c1 d3 l1 l2 hsrc e1 hlen hlt hcap d0 hn
  go_enter Tryz.func27, Tryz.ntmps27
  go_wp2_with (first | (go_at_call 47; refine hBy.out.mono ?_; rintro e y2 ⟨rfl, hb2⟩; clear kc0 kc1))
  have hB6 := hb1.out.trans (hb2.mono hb1.out.size)
  have c1 := (hB6.cell (p := ⟨rb, 1, none⟩) l1w.out).trans c1w.out
  have d3 := (hB6.cell (p := ⟨g, o * 4 + 3, none⟩) l2w.out).trans d3w.out
  have l1 := Nat.lt_of_lt_of_le l1w.out hB6.size
  have l2 := Nat.lt_of_lt_of_le l2w.out hB6.size
  have hst := onto_drew y2
  have hB6d := Lib.hid hB6.drew
  replace hB6 := Lib.hid hB6
  clear hb2
  rcases hcpB with rfl | hcp
  · skip
    refine regionK 30 (fun y => (∀ a : Addr, a.block < y2.heap.size → y.cell? a = y2.cell? a) ∧ (∀ b : Nat, b < y2.heap.size → y.heap[b]? = y2.heap[b]?) ∧ Below y2.heap.size y2 y) (by kernel_rfl) hst (fun hHeld => ?_)
    simp only [List.size_toArray, List.length_cons, List.length_nil, Nat.reduceAdd, Array.replicate_succ]
    refine AnyK.take 0 (v := ?_) rfl (by kernel_rfl) (by kernel_rfl) (by kernel_rfl) (by kernel_rfl) (fun _ _ _ h => h) (by rfl) ?_ (by assumption) ?_
    rotate_left
    · intro y hSy; (try dsimp only at hSy); go_simp; (try with_reducible rfl)
    try simp only [Act.put, List.setIfInBounds_toArray, List.set_cons_zero, List.set_cons_succ]
    refine AnyK.take 1 (v := ?_) rfl (by kernel_rfl) (by kernel_rfl) (by kernel_rfl) (by kernel_rfl) (fun _ _ _ h => h) (by rfl) ?_ (by assumption) ?_
    rotate_left
    · intro y hSy; (try dsimp only at hSy); go_simp; (try with_reducible rfl)
    try simp only [Act.put, List.setIfInBounds_toArray, List.set_cons_zero, List.set_cons_succ]
    refine AnyK.take 2 (v := ?_) rfl (by kernel_rfl) (by kernel_rfl) (by kernel_rfl) (by kernel_rfl) (fun _ _ _ h => h) (by rfl) ?_ (by assumption) ?_
    rotate_left
    · intro y hSy; (try dsimp only at hSy); go_simp; (try with_reducible rfl)
    try simp only [Act.put, List.setIfInBounds_toArray, List.set_cons_zero, List.set_cons_succ]
    refine AnyK.take 3 (v := ?_) rfl (by kernel_rfl) (by kernel_rfl) (by kernel_rfl) (by kernel_rfl) (fun _ _ _ h => h) (by rfl) ?_ (by assumption) ?_
    rotate_left
    · intro y hSy; (try dsimp only at hSy); go_simp; (try with_reducible rfl)
    try simp only [Act.put, List.setIfInBounds_toArray, List.set_cons_zero, List.set_cons_succ]
    refine AnyK.take 4 (v := ?_) rfl (by kernel_rfl) (by kernel_rfl) (by kernel_rfl) (by kernel_rfl) (fun _ _ _ h => h) (by rfl) ?_ (by assumption) ?_
    rotate_left
    · intro y hSy; (try dsimp only at hSy); go_simp; (try with_reducible rfl)
    try simp only [Act.put, List.setIfInBounds_toArray, List.set_cons_zero, List.set_cons_succ]
    refine AnyK.take 5 (v := ?_) rfl (by kernel_rfl) (by kernel_rfl) (by kernel_rfl) (by kernel_rfl) (fun _ _ _ h => h) (by rfl) ?_ (by assumption) ?_
    rotate_left
    · intro y hSy; (try dsimp only at hSy); go_simp; (try with_reducible rfl)
    try simp only [Act.put, List.setIfInBounds_toArray, List.set_cons_zero, List.set_cons_succ]
    refine AnyK.take 6 (v := ?_) rfl (by kernel_rfl) (by kernel_rfl) (by kernel_rfl) (by kernel_rfl) (fun _ _ _ h => h) (by rfl) ?_ (by assumption) ?_
    rotate_left
    · intro y hSy; (try dsimp only at hSy); go_simp; (try with_reducible rfl)
    try simp only [Act.put, List.setIfInBounds_toArray, List.set_cons_zero, List.set_cons_succ]
    refine AnyK.take 7 (v := ?_) rfl (by kernel_rfl) (by kernel_rfl) (by kernel_rfl) (by kernel_rfl) (fun _ _ _ h => h) (by rfl) ?_ (by assumption) ?_
    rotate_left
    · intro y hSy; (try dsimp only at hSy); go_simp; (try with_reducible rfl)
    try simp only [Act.put, List.setIfInBounds_toArray, List.set_cons_zero, List.set_cons_succ]
    refine AnyK.take 8 (v := ?_) rfl (by kernel_rfl) (by kernel_rfl) (by kernel_rfl) (by kernel_rfl) (fun _ _ _ h => h) (by rfl) ?_ (by assumption) ?_
    rotate_left
    · intro y hSy; (try dsimp only at hSy); go_simp; (try with_reducible rfl)
    try simp only [Act.put, List.setIfInBounds_toArray, List.set_cons_zero, List.set_cons_succ]
    refine AnyK.take 9 (v := ?_) rfl (by kernel_rfl) (by kernel_rfl) (by kernel_rfl) (by kernel_rfl) (fun _ _ _ h => h) (by rfl) ?_ (by assumption) ?_
    rotate_left
    · intro y hSy; (try dsimp only at hSy); go_simp; (try with_reducible rfl)
    try simp only [Act.put, List.setIfInBounds_toArray, List.set_cons_zero, List.set_cons_succ]
    refine AnyK.take 10 (v := ?_) rfl (by kernel_rfl) (by kernel_rfl) (by kernel_rfl) (by kernel_rfl) (fun _ _ _ h => h) (by rfl) ?_ (by assumption) ?_
    rotate_left
    · intro y hSy; (try dsimp only at hSy); go_simp; (try with_reducible rfl)
    try simp only [Act.put, List.setIfInBounds_toArray, List.set_cons_zero, List.set_cons_succ]
    refine AnyK.take 11 (v := ?_) rfl (by kernel_rfl) (by kernel_rfl) (by kernel_rfl) (by kernel_rfl) (fun _ _ _ h => h) (by rfl) ?_ (by assumption) ?_
    rotate_left
    · intro y hSy; (try dsimp only at hSy); go_simp; (try with_reducible rfl)
    try simp only [Act.put, List.setIfInBounds_toArray, List.set_cons_zero, List.set_cons_succ]
    refine AnyK.take 12 (v := ?_) rfl (by kernel_rfl) (by kernel_rfl) (by kernel_rfl) (by kernel_rfl) (fun _ _ _ h => h) (by rfl) ?_ (by assumption) ?_
    rotate_left
    · intro y hSy; (try dsimp only at hSy); go_simp; (try with_reducible rfl)
    try simp only [Act.put, List.setIfInBounds_toArray, List.set_cons_zero, List.set_cons_succ]
    refine AnyK.take 13 (v := ?_) rfl (by kernel_rfl) (by kernel_rfl) (by kernel_rfl) (by kernel_rfl) (fun _ _ _ h => h) (by rfl) ?_ (by assumption) ?_
    rotate_left
    · intro y hSy; (try dsimp only at hSy); go_simp; (try with_reducible rfl)
    try simp only [Act.put, List.setIfInBounds_toArray, List.set_cons_zero, List.set_cons_succ]
    refine AnyK.take 14 (v := ?_) rfl (by kernel_rfl) (by kernel_rfl) (by kernel_rfl) (by kernel_rfl) (fun _ _ _ h => h) (by rfl) ?_ (by assumption) ?_
    rotate_left
    · intro y hSy; (try dsimp only at hSy); go_simp; (try with_reducible rfl)
    try simp only [Act.put, List.setIfInBounds_toArray, List.set_cons_zero, List.set_cons_succ]
    refine AnyK.take 16 (v := ?_) rfl (by kernel_rfl) (by kernel_rfl) (by kernel_rfl) (by kernel_rfl) (fun _ _ _ h => h) (by rfl) ?_ (by assumption) ?_
    rotate_left
    · intro y hSy; (try dsimp only at hSy); go_simp; (try with_reducible rfl)
    try simp only [Act.put, List.setIfInBounds_toArray, List.set_cons_zero, List.set_cons_succ]
    refine AnyK.take 17 (v := ?_) rfl (by kernel_rfl) (by kernel_rfl) (by kernel_rfl) (by kernel_rfl) (fun _ _ _ h => h) (by rfl) ?_ (by assumption) ?_
    rotate_left
    · intro y hSy; (try dsimp only at hSy); go_simp; (try with_reducible rfl)
    try simp only [Act.put, List.setIfInBounds_toArray, List.set_cons_zero, List.set_cons_succ]
    refine AnyK.take 18 (v := ?_) rfl (by kernel_rfl) (by kernel_rfl) (by kernel_rfl) (by kernel_rfl) (fun _ _ _ h => h) (by rfl) ?_ (by assumption) ?_
    rotate_left
    · intro y hSy; (try dsimp only at hSy); go_simp; (try with_reducible rfl)
    try simp only [Act.put, List.setIfInBounds_toArray, List.set_cons_zero, List.set_cons_succ]
    refine AnyK.take 19 (v := ?_) rfl (by kernel_rfl) (by kernel_rfl) (by kernel_rfl) (by kernel_rfl) (fun _ _ _ h => h) (by rfl) ?_ (by assumption) ?_
    rotate_left
    · intro y hSy; (try dsimp only at hSy); go_simp; (try with_reducible rfl)
    try simp only [Act.put, List.setIfInBounds_toArray, List.set_cons_zero, List.set_cons_succ]
    refine AnyK.take 20 (v := ?_) rfl (by kernel_rfl) (by kernel_rfl) (by kernel_rfl) (by kernel_rfl) (fun _ _ _ h => h) (by rfl) ?_ (by assumption) ?_
    rotate_left
    · intro y hSy; (try dsimp only at hSy); go_simp; (try with_reducible rfl)
    try simp only [Act.put, List.setIfInBounds_toArray, List.set_cons_zero, List.set_cons_succ]
    refine AnyK.take 21 (v := ?_) rfl (by kernel_rfl) (by kernel_rfl) (by kernel_rfl) (by kernel_rfl) (fun _ _ _ h => h) (by rfl) ?_ (by assumption) ?_
    rotate_left
    · intro y hSy; (try dsimp only at hSy); go_simp; (try with_reducible rfl)
    try simp only [Act.put, List.setIfInBounds_toArray, List.set_cons_zero, List.set_cons_succ]
    refine AnyK.take 22 (v := ?_) rfl (by kernel_rfl) (by kernel_rfl) (by kernel_rfl) (by kernel_rfl) (fun _ _ _ h => h) (by rfl) ?_ (by assumption) ?_
    rotate_left
    · intro y hSy; (try dsimp only at hSy); go_simp; (try with_reducible rfl)
    try simp only [Act.put, List.setIfInBounds_toArray, List.set_cons_zero, List.set_cons_succ]
    refine AnyK.take 23 (v := ?_) rfl (by kernel_rfl) (by kernel_rfl) (by kernel_rfl) (by kernel_rfl) (fun _ _ _ h => h) (by rfl) ?_ (by assumption) ?_
    rotate_left
    · intro y hSy; (try dsimp only at hSy); go_simp; (try with_reducible rfl)
    try simp only [Act.put, List.setIfInBounds_toArray, List.set_cons_zero, List.set_cons_succ]
    refine AnyK.take 24 (v := ?_) rfl (by kernel_rfl) (by kernel_rfl) (by kernel_rfl) (by kernel_rfl) (fun _ _ _ h => h) (by rfl) ?_ (by assumption) ?_
    rotate_left
    · intro y hSy; (try dsimp only at hSy); go_simp; (try with_reducible rfl)
    try simp only [Act.put, List.setIfInBounds_toArray, List.set_cons_zero, List.set_cons_succ]
    refine AnyK.take 25 (v := ?_) rfl (by kernel_rfl) (by kernel_rfl) (by kernel_rfl) (by kernel_rfl) (fun _ _ _ h => h) (by rfl) ?_ (by assumption) ?_
    rotate_left
    · intro y hSy; (try dsimp only at hSy); go_simp; (try with_reducible rfl)
    try simp only [Act.put, List.setIfInBounds_toArray, List.set_cons_zero, List.set_cons_succ]
    refine AnyK.take 26 (v := ?_) rfl (by kernel_rfl) (by kernel_rfl) (by kernel_rfl) (by kernel_rfl) (fun _ _ _ h => h) (by rfl) ?_ (by assumption) ?_
    rotate_left
    · intro y hSy; (try dsimp only at hSy); go_simp; (try with_reducible rfl)
    try simp only [Act.put, List.setIfInBounds_toArray, List.set_cons_zero, List.set_cons_succ]
    refine AnyK.one 15 rfl (by kernel_rfl) (fun K' hK => ?_)
    refine slots_step rfl _ _ rfl (v := .slice none 0 0) (n := 0) (m := i) (xs := []) (news := flatL (r.take i)) rfl rfl (World.ownsRow_nil y2.drew y2.heap.size _ _) (Nat.le_refl _) (fun h => by cases h) (hs1.out _ hB6d.out) hf1.out hone1.out (by have := hrl.out; omega) ?_
    intro u1 w7 hown7 hbe7
    rw [Nat.zero_add, List.nil_append] at hown7
    refine hK.out _ _ (onto_belowB hHeld hbe7) (fun hHeld7 => ?_)
    clear hK K'
    try simp only [Act.put, List.setIfInBounds_toArray, List.set_cons_zero, List.set_cons_succ]
    have hB7 := hB6.out.trans (hHeld7.2.2.mono hB6.out.size)
    refine AnyK.one 27 rfl (by kernel_rfl) (fun K' hK => ?_)
    refine slots_step rfl _ _ rfl (v := u1) (n := i) (m := r.length - (i + 1)) (xs := flatL (r.take i)) (news := flatL (r.drop (i + 1))) rfl rfl hown7 hHeld7.2.2.size (fun h => by cases h) (hs3.out rfl _) hf2.out hone2.out (by have := hrl.out; omega) ?_
    intro u2 w8 hown8 hbe8
    obtain ⟨qq, cc, rfl⟩ := rowL_form hown8
    refine hK.out _ _ (onto_belowB hHeld7 hbe8) (fun hHeld8 => ?_)
    clear hK K'
    try simp only [Act.put, List.setIfInBounds_toArray, List.set_cons_zero, List.set_cons_succ]
    refine AnyK.one 28 rfl (by kernel_rfl) (fun K' hK => ?_)
    go_simp
    refine hK.out _ _ hHeld8 (fun hHeld9 => ?_)
    clear hK K'
    try simp only [Act.put, List.setIfInBounds_toArray, List.set_cons_zero, List.set_cons_succ]
    refine AnyK.one 29 rfl (by kernel_rfl) (fun K' hK => ?_)
    go_simp
    refine hK.out _ _ hHeld8 (fun hHeld10 => ?_)
    clear hK K'
    try simp only [Act.put, List.setIfInBounds_toArray, List.set_cons_zero, List.set_cons_succ]
    have hB8 := hB6.out.trans (hHeld8.2.2.mono hB6.out.size)
    have d8 := (hB8.cell (p := ⟨g, o * 4 + 3, none⟩) l2w.out).trans d3w.out
    have f8 := (World.frozen?_of_block (w := w) (a := ⟨g, o * 4 + 3, none⟩) (hB8.block g l2w.out)).trans fz3w.out
    refine AnyK.last rfl (by kernel_rfl) (fun K' hK => ?_)
    go_simp
    refine hK.out _ _ ?_
    clear hK K'
    try simp only [Act.put, List.setIfInBounds_toArray, List.set_cons_zero, List.set_cons_succ]
    refine AnyK.done (by kernel_rfl) ?_ _
    go_wp2
    go_ret
    exact ⟨rfl, hdone.out w8 _ hB8 (row_lower hown8 hB6.out.size)⟩
  · skip
    refine regionK 30 (fun y => (∀ a : Addr, a.block < y2.heap.size → y.cell? a = y2.cell? a) ∧ (∀ b : Nat, b < y2.heap.size → y.heap[b]? = y2.heap[b]?) ∧ Below y2.heap.size y2 y) (by kernel_rfl) hst (fun hHeld => ?_)
    simp only [List.size_toArray, List.length_cons, List.length_nil, Nat.reduceAdd, Array.replicate_succ]
    refine AnyK.take 0 (v := ?_) rfl (by kernel_rfl) (by kernel_rfl) (by kernel_rfl) (by kernel_rfl) (fun _ _ _ h => h) (by rfl) ?_ (by assumption) ?_
    rotate_left
    · intro y hSy; (try dsimp only at hSy); go_simp; (try with_reducible rfl)
    try simp only [Act.put, List.setIfInBounds_toArray, List.set_cons_zero, List.set_cons_succ]
    refine AnyK.take 1 (v := ?_) rfl (by kernel_rfl) (by kernel_rfl) (by kernel_rfl) (by kernel_rfl) (fun _ _ _ h => h) (by rfl) ?_ (by assumption) ?_
    rotate_left
    · intro y hSy; (try dsimp only at hSy); go_simp; (try with_reducible rfl)
    try simp only [Act.put, List.setIfInBounds_toArray, List.set_cons_zero, List.set_cons_succ]
    refine AnyK.take 2 (v := ?_) rfl (by kernel_rfl) (by kernel_rfl) (by kernel_rfl) (by kernel_rfl) (fun _ _ _ h => h) (by rfl) ?_ (by assumption) ?_
    rotate_left
    · intro y hSy; (try dsimp only at hSy); go_simp; (try with_reducible rfl)
    try simp only [Act.put, List.setIfInBounds_toArray, List.set_cons_zero, List.set_cons_succ]
    refine AnyK.take 3 (v := ?_) rfl (by kernel_rfl) (by kernel_rfl) (by kernel_rfl) (by kernel_rfl) (fun _ _ _ h => h) (by rfl) ?_ (by assumption) ?_
    rotate_left
    · intro y hSy; (try dsimp only at hSy); go_simp; (try with_reducible rfl)
    try simp only [Act.put, List.setIfInBounds_toArray, List.set_cons_zero, List.set_cons_succ]
    refine AnyK.take 4 (v := ?_) rfl (by kernel_rfl) (by kernel_rfl) (by kernel_rfl) (by kernel_rfl) (fun _ _ _ h => h) (by rfl) ?_ (by assumption) ?_
    rotate_left
    · intro y hSy; (try dsimp only at hSy); go_simp; (try with_reducible rfl)
    try simp only [Act.put, List.setIfInBounds_toArray, List.set_cons_zero, List.set_cons_succ]
    refine AnyK.take 5 (v := ?_) rfl (by kernel_rfl) (by kernel_rfl) (by kernel_rfl) (by kernel_rfl) (fun _ _ _ h => h) (by rfl) ?_ (by assumption) ?_
    rotate_left
    · intro y hSy; (try dsimp only at hSy); go_simp; (try with_reducible rfl)
    try simp only [Act.put, List.setIfInBounds_toArray, List.set_cons_zero, List.set_cons_succ]
    refine AnyK.take 6 (v := ?_) rfl (by kernel_rfl) (by kernel_rfl) (by kernel_rfl) (by kernel_rfl) (fun _ _ _ h => h) (by rfl) ?_ (by assumption) ?_
    rotate_left
    · intro y hSy; (try dsimp only at hSy); go_simp; (try with_reducible rfl)
    try simp only [Act.put, List.setIfInBounds_toArray, List.set_cons_zero, List.set_cons_succ]
    refine AnyK.take 7 (v := ?_) rfl (by kernel_rfl) (by kernel_rfl) (by kernel_rfl) (by kernel_rfl) (fun _ _ _ h => h) (by rfl) ?_ (by assumption) ?_
    rotate_left
    · intro y hSy; (try dsimp only at hSy); go_simp; (try with_reducible rfl)
    try simp only [Act.put, List.setIfInBounds_toArray, List.set_cons_zero, List.set_cons_succ]
    refine AnyK.take 8 (v := ?_) rfl (by kernel_rfl) (by kernel_rfl) (by kernel_rfl) (by kernel_rfl) (fun _ _ _ h => h) (by rfl) ?_ (by assumption) ?_
    rotate_left
    · intro y hSy; (try dsimp only at hSy); go_simp; (try with_reducible rfl)
    try simp only [Act.put, List.setIfInBounds_toArray, List.set_cons_zero, List.set_cons_succ]
    refine AnyK.take 9 (v := ?_) rfl (by kernel_rfl) (by kernel_rfl) (by kernel_rfl) (by kernel_rfl) (fun _ _ _ h => h) (by rfl) ?_ (by assumption) ?_
    rotate_left
    · intro y hSy; (try dsimp only at hSy); go_simp; (try with_reducible rfl)
    try simp only [Act.put, List.setIfInBounds_toArray, List.set_cons_zero, List.set_cons_succ]
    refine AnyK.take 10 (v := ?_) rfl (by kernel_rfl) (by kernel_rfl) (by kernel_rfl) (by kernel_rfl) (fun _ _ _ h => h) (by rfl) ?_ (by assumption) ?_
    rotate_left
    · intro y hSy; (try dsimp only at hSy); go_simp; (try with_reducible rfl)
    try simp only [Act.put, List.setIfInBounds_toArray, List.set_cons_zero, List.set_cons_succ]
    refine AnyK.take 11 (v := ?_) rfl (by kernel_rfl) (by kernel_rfl) (by kernel_rfl) (by kernel_rfl) (fun _ _ _ h => h) (by rfl) ?_ (by assumption) ?_
    rotate_left
    · intro y hSy; (try dsimp only at hSy); go_simp; (try with_reducible rfl)
    try simp only [Act.put, List.setIfInBounds_toArray, List.set_cons_zero, List.set_cons_succ]
    refine AnyK.take 12 (v := ?_) rfl (by kernel_rfl) (by kernel_rfl) (by kernel_rfl) (by kernel_rfl) (fun _ _ _ h => h) (by rfl) ?_ (by assumption) ?_
    rotate_left
    · intro y hSy; (try dsimp only at hSy); go_simp; (try with_reducible rfl)
    try simp only [Act.put, List.setIfInBounds_toArray, List.set_cons_zero, List.set_cons_succ]
    refine AnyK.take 13 (v := ?_) rfl (by kernel_rfl) (by kernel_rfl) (by kernel_rfl) (by kernel_rfl) (fun _ _ _ h => h) (by rfl) ?_ (by assumption) ?_
    rotate_left
    · intro y hSy; (try dsimp only at hSy); go_simp; (try with_reducible rfl)
    try simp only [Act.put, List.setIfInBounds_toArray, List.set_cons_zero, List.set_cons_succ]
    refine AnyK.take 14 (v := ?_) rfl (by kernel_rfl) (by kernel_rfl) (by kernel_rfl) (by kernel_rfl) (fun _ _ _ h => h) (by rfl) ?_ (by assumption) ?_
    rotate_left
    · intro y hSy; (try dsimp only at hSy); go_simp; (try with_reducible rfl)
    try simp only [Act.put, List.setIfInBounds_toArray, List.set_cons_zero, List.set_cons_succ]
    refine AnyK.take 16 (v := ?_) rfl (by kernel_rfl) (by kernel_rfl) (by kernel_rfl) (by kernel_rfl) (fun _ _ _ h => h) (by rfl) ?_ (by assumption) ?_
    rotate_left
    · intro y hSy; (try dsimp only at hSy); go_simp; (try with_reducible rfl)
    try simp only [Act.put, List.setIfInBounds_toArray, List.set_cons_zero, List.set_cons_succ]
    refine AnyK.take 17 (v := ?_) rfl (by kernel_rfl) (by kernel_rfl) (by kernel_rfl) (by kernel_rfl) (fun _ _ _ h => h) (by rfl) ?_ (by assumption) ?_
    rotate_left
    · intro y hSy; (try dsimp only at hSy); go_simp; (try with_reducible rfl)
    try simp only [Act.put, List.setIfInBounds_toArray, List.set_cons_zero, List.set_cons_succ]
    refine AnyK.take 18 (v := ?_) rfl (by kernel_rfl) (by kernel_rfl) (by kernel_rfl) (by kernel_rfl) (fun _ _ _ h => h) (by rfl) ?_ (by assumption) ?_
    rotate_left
    · intro y hSy; (try dsimp only at hSy); go_simp; (try with_reducible rfl)
    try simp only [Act.put, List.setIfInBounds_toArray, List.set_cons_zero, List.set_cons_succ]
    refine AnyK.take 19 (v := ?_) rfl (by kernel_rfl) (by kernel_rfl) (by kernel_rfl) (by kernel_rfl) (fun _ _ _ h => h) (by rfl) ?_ (by assumption) ?_
    rotate_left
    · intro y hSy; (try dsimp only at hSy); go_simp; (try with_reducible rfl)
    try simp only [Act.put, List.setIfInBounds_toArray, List.set_cons_zero, List.set_cons_succ]
    refine AnyK.take 20 (v := ?_) rfl (by kernel_rfl) (by kernel_rfl) (by kernel_rfl) (by kernel_rfl) (fun _ _ _ h => h) (by rfl) ?_ (by assumption) ?_
    rotate_left
    · intro y hSy; (try dsimp only at hSy); go_simp; (try with_reducible rfl)
    try simp only [Act.put, List.setIfInBounds_toArray, List.set_cons_zero, List.set_cons_succ]
    refine AnyK.take 21 (v := ?_) rfl (by kernel_rfl) (by kernel_rfl) (by kernel_rfl) (by kernel_rfl) (fun _ _ _ h => h) (by rfl) ?_ (by assumption) ?_
    rotate_left
    · intro y hSy; (try dsimp only at hSy); go_simp; (try with_reducible rfl)
    try simp only [Act.put, List.setIfInBounds_toArray, List.set_cons_zero, List.set_cons_succ]
    refine AnyK.take 22 (v := ?_) rfl (by kernel_rfl) (by kernel_rfl) (by kernel_rfl) (by kernel_rfl) (fun _ _ _ h => h) (by rfl) ?_ (by assumption) ?_
    rotate_left
    · intro y hSy; (try dsimp only at hSy); go_simp; (try with_reducible rfl)
    try simp only [Act.put, List.setIfInBounds_toArray, List.set_cons_zero, List.set_cons_succ]
    refine AnyK.take 23 (v := ?_) rfl (by kernel_rfl) (by kernel_rfl) (by kernel_rfl) (by kernel_rfl) (fun _ _ _ h => h) (by rfl) ?_ (by assumption) ?_
    rotate_left
    · intro y hSy; (try dsimp only at hSy); go_simp; (try with_reducible rfl)
    try simp only [Act.put, List.setIfInBounds_toArray, List.set_cons_zero, List.set_cons_succ]
    refine AnyK.take 24 (v := ?_) rfl (by kernel_rfl) (by kernel_rfl) (by kernel_rfl) (by kernel_rfl) (fun _ _ _ h => h) (by rfl) ?_ (by assumption) ?_
    rotate_left
    · intro y hSy; (try dsimp only at hSy); go_simp; (try with_reducible rfl)
    try simp only [Act.put, List.setIfInBounds_toArray, List.set_cons_zero, List.set_cons_succ]
    refine AnyK.take 25 (v := ?_) rfl (by kernel_rfl) (by kernel_rfl) (by kernel_rfl) (by kernel_rfl) (fun _ _ _ h => h) (by rfl) ?_ (by assumption) ?_
    rotate_left
    · intro y hSy; (try dsimp only at hSy); go_simp; (try with_reducible rfl)
    try simp only [Act.put, List.setIfInBounds_toArray, List.set_cons_zero, List.set_cons_succ]
    refine AnyK.take 26 (v := ?_) rfl (by kernel_rfl) (by kernel_rfl) (by kernel_rfl) (by kernel_rfl) (fun _ _ _ h => h) (by rfl) ?_ (by assumption) ?_
    rotate_left
    · intro y hSy; (try dsimp only at hSy); go_simp; (try with_reducible rfl)
    try simp only [Act.put, List.setIfInBounds_toArray, List.set_cons_zero, List.set_cons_succ]
    refine AnyK.one 15 rfl (by kernel_rfl) (fun K' hK => ?_)
    refine slots_step rfl _ _ rfl (v := .slice none 0 0) (n := 0) (m := i) (xs := []) (news := flatL (r.take i)) rfl rfl (World.ownsRow_nil y2.drew y2.heap.size _ _) (Nat.le_refl _) (fun h => by cases h) (hs1.out _ hB6d.out) hf1.out hone1.out (by have := hrl.out; omega) ?_
    intro u1 w7 hown7 hbe7
    rw [Nat.zero_add, List.nil_append] at hown7
    refine hK.out _ _ (onto_belowB hHeld hbe7) (fun hHeld7 => ?_)
    clear hK K'
    try simp only [Act.put, List.setIfInBounds_toArray, List.set_cons_zero, List.set_cons_succ]
    have hB7 := hB6.out.trans (hHeld7.2.2.mono hB6.out.size)
    refine AnyK.one 27 rfl (by kernel_rfl) (fun K' hK => ?_)
    refine slots_step rfl _ _ rfl (v := u1) (n := i) (m := r.length - (i + 1)) (xs := flatL (r.take i)) (news := flatL (r.drop (i + 1))) rfl rfl hown7 hHeld7.2.2.size (fun h => by cases h) (hs2.out _ hB7) hf2.out hone2.out (by have := hrl.out; omega) ?_
    intro u2 w8 hown8 hbe8
    obtain ⟨qq, cc, rfl⟩ := rowL_form hown8
    refine hK.out _ _ (onto_belowB hHeld7 hbe8) (fun hHeld8 => ?_)
    clear hK K'
    try simp only [Act.put, List.setIfInBounds_toArray, List.set_cons_zero, List.set_cons_succ]
    refine AnyK.one 28 rfl (by kernel_rfl) (fun K' hK => ?_)
    go_simp
    refine hK.out _ _ hHeld8 (fun hHeld9 => ?_)
    clear hK K'
    try simp only [Act.put, List.setIfInBounds_toArray, List.set_cons_zero, List.set_cons_succ]
    refine AnyK.one 29 rfl (by kernel_rfl) (fun K' hK => ?_)
    go_simp
    refine hK.out _ _ hHeld8 (fun hHeld10 => ?_)
    clear hK K'
    try simp only [Act.put, List.setIfInBounds_toArray, List.set_cons_zero, List.set_cons_succ]
    have hB8 := hB6.out.trans (hHeld8.2.2.mono hB6.out.size)
    have d8 := (hB8.cell (p := ⟨g, o * 4 + 3, none⟩) l2w.out).trans d3w.out
    have f8 := (World.frozen?_of_block (w := w) (a := ⟨g, o * 4 + 3, none⟩) (hB8.block g l2w.out)).trans fz3w.out
    refine AnyK.last rfl (by kernel_rfl) (fun K' hK => ?_)
    go_simp
    refine hK.out _ _ ?_
    clear hK K'
    try simp only [Act.put, List.setIfInBounds_toArray, List.set_cons_zero, List.set_cons_succ]
    refine AnyK.done (by kernel_rfl) ?_ _
    go_wp2
    go_ret
    exact ⟨rfl, hdone.out w8 _ hB8 (row_lower hown8 hB6.out.size)⟩
end Go.Proofs.YtoccmiinkfhohaaGreat
namespace Go.Proofs.YtoccmiinkfhohaaGreat
open Go.RowKit Go.Shelf Go.Lib Go.Sort Go.Proofs Go.Maps
set_option maxHeartbeats 400000
set_option maxRecDepth 8000

theorem updH_id (H : List OB) (o : Int) (g : OB → OB) (hg : ∀ a, objH H o = some a → g a = a) : updH H o g = H := by
  unfold updH
  rcases objH_cases H o with ⟨_, h2⟩ | ⟨n, a, rfl, h0, ha, h3, _⟩
  · rw [h2]
  · rw [h3]
    show H.set _ (g a) = H
    rw [hg a h3]
    exact set_same ha
theorem c_RDrop {w : World} {f : Nat → Nat} {rb : Nat} {lim : Int} {R : List OB} (hN : Norm f w) (h : RefO w f rb lim R) (hR : ∀ a ∈ R, a.l.length ≤ 100000) (o : Int) (k : KK) (hk : okK k) :
    Calls Tryz.prog 27 #[ptrV rb, .int .i64 o, keyV k.1 k.2] w fun e w' => e = .returned (.bool (dropB R o (pk k))) ∧ RefT w f rb lim (updH R o (rdropA (pk k))) w' := by
  have hB : dropB R o (pk k) = (placeH R o (pk k)).isSome := (place_own R o (pk k)).symm
  rw [hB]
  cases hp : placeH R o (pk k) with
  | none =>
    have e1 : updH R o (rdropA (pk k)) = R := updH_id _ _ _ fun a ha => by
      unfold rdropA
      unfold placeH at hp
      rw [ha] at hp
      have hp' : idx (gk a.l) (pk k) = none := hp
      rw [hp']
    rw [e1]
    refine (c_RDropN hN h hR o k hk hp).mono ?_
    rintro e w' ⟨rfl, hb⟩
    exact ⟨rfl, RefT.same hN h hb⟩
  | some i =>
    rcases objH_cases R o with ⟨h1, h2⟩ | ⟨n, a, rfl, h0, ha, h3, h4⟩
    · unfold placeH at hp; rw [h2] at hp; cases hp
    · unfold placeH at hp
      rw [h3] at hp
      have hp' : idx (gk a.l) (pk k) = some i := hp
      have e1 : rdropA (pk k) a = { a with l := a.l.eraseIdx i } := by unfold rdropA; rw [hp']
      rw [updH_at h0 ha, e1]
      exact c_RDropT hN h hR n a h0 ha k hk i hp'
theorem c_RSetProto {w : World} {f : Nat → Nat} {rb : Nat} {lim : Int} {R : List OB} (hN : Norm f w) (h : RefO w f rb lim R) (o pro : Int) :
    Calls Tryz.prog 29 #[ptrV rb, .int .i64 o, .int .i64 pro] w fun e w' => e = .returned (.int .i64 (setE R o pro)) ∧ RefT w f rb lim (setH R o pro) w' := by
  rcases objH_cases R o with ⟨h1, h2⟩ | ⟨n, a, rfl, h0, ha, h3, h4⟩
  · have e1 : setE R o pro = 151 := by unfold setE; rw [if_pos (.inl h1)]
    unfold setH
    rw [e1]
    refine (c_RSetProto0 h o pro h1).mono ?_
    rintro e w' ⟨rfl, rfl⟩
    exact ⟨rfl, RefT.same hN h (Below.refl _ _)⟩
  · by_cases h5 : pro ≠ 0 ∧ hasH R pro = false
    · have e1 : setE R (n : Int) pro = 151 := by unfold setE; rw [if_pos (.inr h5)]
      unfold setH
      rw [e1]
      refine (c_RSetProtoN h n pro h4 h5.1 h5.2).mono ?_
      rintro e w' ⟨rfl, rfl⟩
      exact ⟨rfl, RefT.same hN h (Below.refl _ _)⟩
    · have e1 : setE R (n : Int) pro = 0 := by
        unfold setE
        rw [if_neg]
        rintro (h | h)
        · rw [h4] at h; cases h
        · exact h5 h
      have hp : pro = 0 ∨ hasH R pro = true := by
        by_cases e : pro = 0
        · exact .inl e
        · exact .inr (by cases hh : hasH R pro; exact absurd ⟨e, hh⟩ h5; rfl)
      unfold setH
      rw [e1, if_pos rfl, updH_at h0 ha]
      exact c_RSetProto1 hN h n a h0 ha pro hp
theorem c_RShut {w : World} {f : Nat → Nat} {rb : Nat} {lim : Int} {R : List OB} (hN : Norm f w) (h : RefO w f rb lim R) (o : Int) :
    Calls Tryz.prog 31 #[ptrV rb, .int .i64 o] w fun e w' => e = .returned (.int .i64 (hasE R o)) ∧ RefT w f rb lim (updH R o (fun a => { a with shut := true })) w' := by
  unfold hasE
  rcases objH_cases R o with ⟨h1, h2⟩ | ⟨n, a, rfl, h0, ha, h3, h4⟩
  · unfold updH
    rw [h1, h2]
    refine (c_RShut0 h o h1).mono ?_
    rintro e w' ⟨rfl, rfl⟩
    exact ⟨rfl, RefT.same hN h (Below.refl _ _)⟩
  · rw [h4, updH_at h0 ha]
    exact c_RShut1 hN h n a h0 ha
theorem c_RProto {w : World} {f : Nat → Nat} {rb : Nat} {lim : Int} {R : List OB} (h : RefO w f rb lim R) (o : Int) :
    Calls Tryz.prog 39 #[ptrV rb, .int .i64 o] w fun e w' => e = .returned (.int .i64 (match objH R o with | some a => a.pro | none => 0)) ∧ w' = w := by
  rcases objH_cases R o with ⟨h1, h2⟩ | ⟨n, a, rfl, h0, ha, h3, h4⟩
  · rw [h2]; exact c_RProto0 h o h1
  · rw [h3]; exact c_RProto1 h n a h0 ha
theorem c_RClass {w : World} {f : Nat → Nat} {rb : Nat} {lim : Int} {R : List OB} (h : RefO w f rb lim R) (o : Int) :
    Calls Tryz.prog 37 #[ptrV rb, .int .i64 o] w fun e w' => e = .returned (.int .i64 (match objH R o with | some a => a.cls | none => 0)) ∧ w' = w := by
  rcases objH_cases R o with ⟨h1, h2⟩ | ⟨n, a, rfl, h0, ha, h3, h4⟩
  · rw [h2]; exact c_RClass0 h o h1
  · rw [h3]; exact c_RClass1 h n a h0 ha
theorem c_ROpen {w : World} {f : Nat → Nat} {rb : Nat} {lim : Int} {R : List OB} (h : RefO w f rb lim R) (o : Int) :
    Calls Tryz.prog 41 #[ptrV rb, .int .i64 o] w fun e w' => e = .returned (.bool (match objH R o with | some a => !a.shut | none => false)) ∧ w' = w := by
  rcases objH_cases R o with ⟨h1, h2⟩ | ⟨n, a, rfl, h0, ha, h3, h4⟩
  · rw [h2]; exact c_ROpen0 h o h1
  · rw [h3]; exact c_ROpen1 h n a h0 ha
end Go.Proofs.YtoccmiinkfhohaaGreat
namespace Go.Proofs.YtoccmiinkfhohaaGreat
open Go.RowKit Go.Shelf Go.Lib Go.Sort Go.Proofs Go.Maps
set_option maxHeartbeats 400000
set_option maxRecDepth 8000

theorem mem_le_sum {l : List Nat} {x : Nat} (h : x ∈ l) : x ≤ l.sum := by
  induction l with
  | nil => cases h
  | cons a l ih =>
    rw [List.sum_cons]
    rcases List.mem_cons.1 h with rfl | h
    · omega
    · have := ih h; omega
/-- an operation -/
structure OP where
  kd : Int
  o : Int
  n : Int
  k : KK
  p : PV
instance : Inhabited OP := ⟨⟨0, 0, 0, (⟨#[]⟩, 0), zeroPV⟩⟩
def encO (x : OP) : List Value := [.int .i64 x.kd, .int .i64 x.o, .int .i64 x.n, .string x.k.1, .int .i64 x.k.2] ++ encP x.p
def opV (x : OP) : Value := .agg (encO x).toArray
theorem encO_one (x : OP) : ∀ u ∈ encO x, u.oneCell' = true := by simp [encO, encP, Value.oneCell']
theorem infoOp : (Tryz.prog.info? 38).map (·.size) = some 18 := by kernel_rfl
/-- v reads as the list l -/
def RdO (w : World) (v : Value) (l : List OP) : Prop :=
  (v = .slice none 0 0 ∧ l = []) ∨ ∃ p c, v = .slice (some p) l.length c ∧ l.length ≤ c ∧ ∀ k x, l[k]? = some x → p.spot = none ∧ w.rangeAt p.block (p.off + k * 18) (encO x)
theorem RdO.form {w : World} {v : Value} {l : List OP} (h : RdO w v l) : ∃ p c, v = .slice p l.length c ∧ l.length ≤ c ∧
    ∀ k x, l[k]? = some x → ∃ b o, p = some ⟨b, o, none⟩ ∧ b < w.heap.size ∧ ∀ y, Below w.heap.size w y → y.rangeAt b (o + k * 18) (encO x) := by
  rcases h with ⟨rfl, rfl⟩ | ⟨p, c, rfl, hl, hc⟩
  · exact ⟨none, 0, rfl, Nat.le_refl _, fun k x hx => by simp at hx⟩
  · refine ⟨some p, c, rfl, hl, fun k x hx => ?_⟩
    obtain ⟨h1, h2⟩ := hc k x hx
    obtain ⟨b, o, sp⟩ := p
    dsimp only at *
    subst h1
    have hlt : b < w.heap.size := cell_lt (h2 0 _ rfl)
    exact ⟨b, o, rfl, hlt, fun y hy => range_at h2 (hy.block b hlt)⟩
def fewS (x : OP) : Nat := (x.k.1.size + x.p.v.s.size) / 20
def fewO (l : List OP) (k : Nat) : Nat := l.length + ((l.take k).map fewS).sum
theorem fewO_next {l : List OP} {k : Nat} {x : OP} (h : l[k]? = some x) : fewO l (k + 1) = fewO l k + fewS x := by
  unfold fewO
  have hlt : k < l.length := (List.getElem?_eq_some_iff.1 h).1
  rw [List.take_succ_eq_append_getElem hlt, List.map_append, List.sum_append]
  have : l[k] = x := (List.getElem?_eq_some_iff.1 h).2
  simp [this]
  omega
theorem fewO_mono (l : List OP) {j k : Nat} (h : j ≤ k) : fewO l j ≤ fewO l k := by
  unfold fewO
  obtain ⟨d, rfl⟩ := Nat.exists_eq_add_of_le h
  rw [List.take_add, List.map_append, List.sum_append]
  omega
end Go.Proofs.YtoccmiinkfhohaaGreat

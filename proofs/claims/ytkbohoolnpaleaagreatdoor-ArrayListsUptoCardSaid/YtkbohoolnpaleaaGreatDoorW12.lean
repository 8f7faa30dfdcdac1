/-
  Contracts: A dictionary drops a property: what a map's operations do; what is left of the list. A dictionary's list is made anew: what holds at each round. A dictionary drops a property: the walk, up to the loop. Objects and heaps. What a heap tells of an object, and what is laid into one. A heap of which one object has turned; SetProto, Shut, Fast.
-/
import Derived.Test.YtkbohoolnpaleaaGreatDoorW11
namespace Go.Proofs.YtkbohoolnpaleaaGreatDoor
open Go.RowKit Go.Shelf Go.Lib Go.Sort Go.Proofs Go.Maps
set_option maxHeartbeats 2000000
set_option maxRecDepth 100000

/-- a look-up of a key that is there, without a second answer -/
theorem look_K1 {w : World} {f : Nat → Nat} {c b n : Nat} {g : Lit → Option Int} (h : MapO w f c 43 b n g) (x : KK) (hx : okK x) (i : Int) (hi : g (klK x) = some i) :
    ∀ y : World, y.heap[b]? = w.heap[b]? → (Instr.lookup 75 (.map (some b)) (keyV x.1 x.2) false).run Tryz.prog y = .ok (.int .i64 i) y := by
  obtain ⟨⟨D, ⟨es, cl, h1, h2⟩, h3, h4⟩, h5⟩ := h
  intro y hy
  have hm : y.ownsMap Tryz.prog 43 (plainElem (H := Unit) Tryz.prog 3) b (Maps.size D) D := ⟨es, cl, hy.trans h1, h2⟩
  obtain ⟨c, hr, hat, _⟩ := hm.lookup_int lawKey Tryz.underlying75 Tryz.underlying3 (zeroIntH y) (keyOf_K x hx)
  have := (h3 (klK x)).2 i hi
  rw [hat] at this
  injection this with this
  injection this with _ this
  rw [hr, this]
/-- the map as it was, or with a key deleted -/
def MapV (y : World) (k : TypeId) (b n : Nat) (g : Lit → Option Int) (kl : Lit) : Prop :=
  MapG y k b n g ∨ ∃ g', MapG y k b n g' ∧ g' kl = none ∧ ∀ l, l ≠ kl → g' l = g l
theorem step_del {ops : Array Oper} {o : Oper} {a : Act} {w : World} {K : Act → World → Prop} {Q : Exit → Act → World → Prop} {E : Prop} (hg : o.guard = none) (m x : Operand) (t k : TypeId) (hop : o.op = Op.call { callee := Callee.builtin Builtin.delete, args := #[m, x], argTypes := #[t, k] })
    (Kd : Keyed Tryz.prog k) (ht : Tryz.prog.underlying t = some (.map k 3)) (b n : Nat) (g : Lit → Option Int) (hm : a.eval m = .map (some b)) (key : Value) (kl : Lit) (hx : a.eval x = key) (hkey : keyOf Tryz.prog k key = some kl) (hV : MapV w k b n g kl)
    (hK : ∀ w', (∃ g', MapG w' k b n g' ∧ g' kl = none ∧ ∀ l, l ≠ kl → g' l = g l) → w.mapTurned w' b → K (a.put o.dst (.tuple #[])) w') :
    if Region.wanted o (yielded ops a.tmps) = true then Oper.wp Tryz.prog o a w K Q else E := by
  have hw : Region.wanted o (yielded ops a.tmps) = true := by simp [Region.wanted, hg]
  rw [if_pos hw]
  have go : ∀ g0, MapG w k b n g0 → (∀ l, l ≠ kl → g0 l = g l) → Oper.wp Tryz.prog o a w K Q := by
    rintro g0 ⟨D, h1, h2, h3⟩ hg0
    obtain ⟨w', hrun, r1, r2⟩ := h1.drop Kd ht hkey o.type
    obtain ⟨g', q1, q2, q3⟩ := tellsL_del h2 kl
    have r1' := r1
    obtain ⟨es, cl, a1, a2, a3, a4⟩ := r1
    have hsz : Maps.size (D.del kl) ≤ Maps.size D := by
      have e1 : Maps.size (D.del kl) = es.size := by rw [a4]; simp [Maps.size, length_sorted]
      rw [e1]; exact a3
    unfold Oper.wp
    simp [execOp, hop, resolve, invoke, builtin, hm, hx, hrun, Result.andThen]
    refine hK w' ⟨g', ⟨_, ⟨es, cl, a1, a2, ?_, a4⟩, q1, Nat.le_trans hsz h3⟩, q2, fun l hl => (q3 l hl).trans (hg0 l hl)⟩ r2
    rw [a4]; simp [Maps.size, length_sorted]
  rcases hV with h | ⟨g0, h, _, h2⟩
  · exact go g h (fun _ _ => rfl)
  · exact go g0 h h2
/-- S of a region in which a key is deleted -/
theorem butV_start {W : World} {k : TypeId} {b n : Nat} {g : Lit → Option Int} {kl : Lit} (h : MapG W k b n g) :
    ((∀ a : Addr, a.block < W.heap.size → a.block ≠ b → W.drew.cell? a = W.cell? a) ∧ W.grownBy W.drew (some b)) ∧ MapV W.drew k b n g kl ∧ b < W.heap.size := ⟨but_drew W b, .inl (h.at rfl), h.lt⟩
theorem MapV.at {w w' : World} {k : TypeId} {b n : Nat} {g : Lit → Option Int} {kl : Lit} (h : MapV w k b n g kl) (hb : w'.heap[b]? = w.heap[b]?) : MapV w' k b n g kl := by
  rcases h with h | ⟨g', h, r⟩
  · exact .inl (h.at hb)
  · exact .inr ⟨g', h.at hb, r⟩
theorem MapV.lt {w : World} {k : TypeId} {b n : Nat} {g : Lit → Option Int} {kl : Lit} (h : MapV w k b n g kl) : b < w.heap.size := by
  rcases h with h | ⟨g', h, r⟩
  · exact h.lt
  · exact h.lt
theorem butV_below {W y y' : World} {k : TypeId} {b n : Nat} {g : Lit → Option Int} {kl : Lit} (h : ((∀ a : Addr, a.block < W.heap.size → a.block ≠ b → y.cell? a = W.cell? a) ∧ W.grownBy y (some b)) ∧ MapV y k b n g kl ∧ b < W.heap.size) (hb : Below y.heap.size y y') :
    ((∀ a : Addr, a.block < W.heap.size → a.block ≠ b → y'.cell? a = W.cell? a) ∧ W.grownBy y' (some b)) ∧ MapV y' k b n g kl ∧ b < W.heap.size := ⟨but_below h.1 hb, h.2.1.at (hb.block b h.2.1.lt), h.2.2⟩
theorem butV_turn {W y y' : World} {k : TypeId} {b n : Nat} {g : Lit → Option Int} {kl : Lit} (h : ((∀ a : Addr, a.block < W.heap.size → a.block ≠ b → y.cell? a = W.cell? a) ∧ W.grownBy y (some b)) ∧ MapV y k b n g kl ∧ b < W.heap.size)
    (hU : ∃ g', MapG y' k b n g' ∧ g' kl = none ∧ ∀ l, l ≠ kl → g' l = g l) (ht : y.mapTurned y' b) :
    ((∀ a : Addr, a.block < W.heap.size → a.block ≠ b → y'.cell? a = W.cell? a) ∧ W.grownBy y' (some b)) ∧ MapV y' k b n g kl ∧ b < W.heap.size := ⟨but_turned h.1 ht, .inr hU, h.2.2⟩
/-- a store at a key that is there -/
def MapX (y : World) (k : TypeId) (b n : Nat) (g : Lit → Option Int) (kl : Lit) (v : Int) : Prop :=
  MapG y k b n g ∨ ∃ g', MapG y k b n g' ∧ g' kl = some v ∧ ∀ l, l ≠ kl → g' l = g l
theorem store_X {k t : TypeId} (K : Keyed Tryz.prog k) (ht : Tryz.prog.underlying t = some (.map k 3)) {b n : Nat} {g : Lit → Option Int} {key : Value} {kl : Lit} (hkey : keyOf Tryz.prog k key = some kl) (hl : WideAt.IsKeyLit kl) {v : Int} (hv : (Lit.int .i64 v).wf = true) (hn : n < maxLen) (hin : (g kl).isSome = true) :
    ∃ U : World → World, ∀ y, MapX y k b n g kl v → (Instr.mapUpdate t (.map (some b)) key (.int .i64 v)).run Tryz.prog y = .ok () (U y) ∧ (∃ g', MapG (U y) k b n g' ∧ g' kl = some v ∧ ∀ l, l ≠ kl → g' l = g l) ∧ y.mapTurned (U y) b := by
  have key : ∀ y : World, ∃ y' : World, MapX y k b n g kl v → (Instr.mapUpdate t (.map (some b)) key (.int .i64 v)).run Tryz.prog y = .ok () y' ∧ (∃ g', MapG y' k b n g' ∧ g' kl = some v ∧ ∀ l, l ≠ kl → g' l = g l) ∧ y.mapTurned y' b := by
    intro y
    by_cases hU : MapX y k b n g kl v
    · have go : ∀ (g0 : Lit → Option Int), MapG y k b n g0 → (g0 kl).isSome = true → (∀ l, l ≠ kl → g0 l = g l) → ∃ y' : World, (Instr.mapUpdate t (.map (some b)) key (.int .i64 v)).run Tryz.prog y = .ok () y' ∧ (∃ g', MapG y' k b n g' ∧ g' kl = some v ∧ ∀ l, l ≠ kl → g' l = g l) ∧ y.mapTurned y' b := by
        intro g0 hG hsm hg0
        obtain ⟨D, h1, h2, h3⟩ := hG
        have hval : plainElem (H := Unit) Tryz.prog 3 (.int .i64 v) = some (.lit (.int .i64 v), []) := plainElem_int Tryz.underlying3 hv
        obtain ⟨y', r1, r2, r3⟩ := h1.store K ht (Nat.lt_of_le_of_lt h3 hn) hkey hval
        obtain ⟨g', q1, q2, q3⟩ := tellsL_put h1.isMap h2 kl hl v
        have hs := size_put (k := kl) (h1.tidy K) (.lit (.int .i64 v))
        rw [(h2 kl).1, hsm] at hs
        refine ⟨y', r1, ⟨g', ⟨_, ?_, q1, ?_⟩, q2, fun l hl' => (q3 l hl').trans (hg0 l hl')⟩, r3⟩
        · obtain ⟨es, cl, a1, a2, a3, a4⟩ := r2
          refine ⟨es, cl, a1, a2, ?_, a4⟩
          rw [a4]
          simp [Maps.size, length_sorted]
        · simp at hs; omega
      rcases hU with hU | ⟨g1, hU, hk1, hk2⟩
      · obtain ⟨y', h⟩ := go g hU hin (fun _ _ => rfl)
        exact ⟨y', fun _ => h⟩
      · obtain ⟨y', h⟩ := go g1 hU (by rw [hk1]; rfl) hk2
        exact ⟨y', fun _ => h⟩
    · exact ⟨y, fun h => absurd h hU⟩
  obtain ⟨U, hU⟩ := Classical.axiomOfChoice key
  exact ⟨U, hU⟩
theorem MapX.at {w w' : World} {k : TypeId} {b n : Nat} {g : Lit → Option Int} {kl : Lit} {v : Int} (h : MapX w k b n g kl v) (hb : w'.heap[b]? = w.heap[b]?) : MapX w' k b n g kl v := by
  rcases h with h | ⟨g', h, r⟩
  · exact .inl (h.at hb)
  · exact .inr ⟨g', h.at hb, r⟩
theorem MapX.lt {w : World} {k : TypeId} {b n : Nat} {g : Lit → Option Int} {kl : Lit} {v : Int} (h : MapX w k b n g kl v) : b < w.heap.size := by
  rcases h with h | ⟨g', h, r⟩
  · exact h.lt
  · exact h.lt
theorem butX_start {W : World} {k : TypeId} {b n : Nat} {g : Lit → Option Int} {kl : Lit} {v : Int} (h : MapG W k b n g) :
    ((∀ a : Addr, a.block < W.heap.size → a.block ≠ b → W.drew.cell? a = W.cell? a) ∧ W.grownBy W.drew (some b)) ∧ MapX W.drew k b n g kl v ∧ b < W.heap.size := ⟨but_drew W b, .inl (h.at rfl), h.lt⟩
theorem butX_below {W y y' : World} {k : TypeId} {b n : Nat} {g : Lit → Option Int} {kl : Lit} {v : Int} (h : ((∀ a : Addr, a.block < W.heap.size → a.block ≠ b → y.cell? a = W.cell? a) ∧ W.grownBy y (some b)) ∧ MapX y k b n g kl v ∧ b < W.heap.size) (hb : Below y.heap.size y y') :
    ((∀ a : Addr, a.block < W.heap.size → a.block ≠ b → y'.cell? a = W.cell? a) ∧ W.grownBy y' (some b)) ∧ MapX y' k b n g kl v ∧ b < W.heap.size := ⟨but_below h.1 hb, h.2.1.at (hb.block b h.2.1.lt), h.2.2⟩
theorem butX_turn {W y y' : World} {k : TypeId} {b n : Nat} {g : Lit → Option Int} {kl : Lit} {v : Int} (h : ((∀ a : Addr, a.block < W.heap.size → a.block ≠ b → y.cell? a = W.cell? a) ∧ W.grownBy y (some b)) ∧ MapX y k b n g kl v ∧ b < W.heap.size)
    (hU : (∃ g', MapG y' k b n g' ∧ g' kl = some v ∧ ∀ l, l ≠ kl → g' l = g l) ∧ y.mapTurned y' b) :
    ((∀ a : Addr, a.block < W.heap.size → a.block ≠ b → y'.cell? a = W.cell? a) ∧ W.grownBy y' (some b)) ∧ MapX y' k b n g kl v ∧ b < W.heap.size := ⟨but_turned h.1 hU.2, .inr hU.1, h.2.2⟩
/-- those that are not gone -/
def alive (l : List EN) : List EN := l.filter fun e => !e.gone
theorem alive_snoc (l : List EN) (e : EN) : alive (l ++ [e]) = if e.gone then alive l else alive l ++ [e] := by
  unfold alive
  cases h : e.gone <;> simp [h]
theorem live_alive (l : List EN) : live (alive l) = live l := by
  induction l with
  | nil => rfl
  | cons e l ih =>
    unfold alive at *
    cases h : e.gone
    · simp only [List.filter_cons, h]; simp [live_cons, h, ih]
    · simp only [List.filter_cons, h]; simp [live_cons, h, ih]
theorem lidx_alive (l : List EN) (x : KK) : lidx (alive l) x = idx (gk (live l)) x := by
  induction l with
  | nil => rfl
  | cons e l ih =>
    unfold alive at *
    rw [live_cons]
    cases h : e.gone
    · simp only [List.filter_cons, h]
      by_cases hx : pk e.k = x <;> simp [lidx, gk, idx, h, hx]
      simpa [gk] using congrArg (Option.map (· + 1)) ih
    · simp only [List.filter_cons, h]
      simpa using ih
theorem alive_len (l : List EN) : (alive l).length ≤ l.length := List.length_filter_le _ _
theorem flatN_drop {es : List EN} {i : Nat} {e : EN} (hi : es[i]? = some e) : (flatN es).set (i * 16 + 15) (.bool true) = flatN (es.set i { e with gone := true }) := by
  have h := setL_mid (enc := encN) (k := 16) (fun _ => rfl) (a := [.string e.k.1, .int .i64 e.k.2] ++ encP e.p) (x := [.bool e.gone]) (x' := [.bool true]) (e' := { e with gone := true }) hi ⟨[], rfl, rfl⟩ rfl
  exact h
/-- len of a map -/
theorem len_of {k t : TypeId} {w : World} {b n : Nat} {g : Lit → Option Int} (h : MapG w k b n g) (ht : Tryz.prog.underlying t = some (.map k 3)) : ∃ sz : Nat, sz ≤ n ∧ ∀ y : World, y.heap[b]? = w.heap[b]? → (Builtin.len_ #[t] 3 #[.map (some b)]).run Tryz.prog y = .ok (.int .i64 (sz : Int)) y := by
  obtain ⟨D, ⟨es, cl, h1, h2⟩, h3, h4⟩ := h
  refine ⟨Maps.size D, h4, fun y hy => ?_⟩
  have hm : y.ownsMap Tryz.prog k (plainElem (H := Unit) Tryz.prog 3) b (Maps.size D) D := ⟨es, cl, hy.trans h1, h2⟩
  exact hm.len ht 3
theorem onto_blk {W y : World} (h : (∀ a : Addr, a.block < W.heap.size → y.cell? a = W.cell? a) ∧ (∀ b : Nat, b < W.heap.size → y.heap[b]? = W.heap[b]?) ∧ Below W.heap.size W y) (b : Nat) (hb : b < W.heap.size) : y.heap[b]? = W.heap[b]? := h.2.1 b hb
theorem set_gone_mem {es : List EN} {i : Nat} {e : EN} (hi : es[i]? = some e) (h : ∀ e ∈ es, okK e.k) : ∀ x ∈ es.set i { e with gone := true }, okK x.k := mem_set_k (e' := { e with gone := true }) hi rfl h
theorem slow_gone {w y w4 : World} {f : Nat → Nat} {c db b g cap mb n i j : Nat} {gm : Lit → Option Int} {es : List EN} {e : EN} {K : KK}
    (hTw : Turn (fun x => x = c) f f w y) (h1 : y.heap[db]? = some (.cells #[.map (some mb), .slice (some ⟨g, 0, none⟩) es.length cap] 145 (0, 0)) ∧ f db = c) (h2 : RowO y f c 166 16 (.slice (some ⟨g, 0, none⟩) es.length cap) es.length (flatN es))
    (h3 : f mb = c) (lm : mb < y.heap.size) (nm : mb ≠ g) (ndm : db ≠ mb) (h4 : n ≤ b ∧ es.length ≤ b) (h5 : ∀ e ∈ es, okK e.k) (h6 : (gk (live es)).Nodup) (h7 : ∀ x, okK x → gm (klK x) = (lidx es x).map Int.ofNat) (hi : es[i]? = some e) (hg0 : e.gone = false) (hK : pk e.k = K) (hl : live (es.set i { e with gone := true }) = (live es).eraseIdx j)
    (hg : (y.setCell ⟨g, i * 16 + 15, none⟩ (.bool true)).grownBy w4 (some mb)) (hm : ∃ gd, MapG w4 43 mb n gd ∧ gd (klK K) = none ∧ ∀ l, l ≠ klK K → gd l = gm l) :
    ∃ f', Turn (fun x => x = c) f f' w w4 ∧ SlowO w4 f' c db b (es.set i { e with gone := true }) := by
  have ng : db ≠ g := fun e => row_not h2.1 h1.1 (by decide) (congrArg some e.symm)
  have lf := heapH_lt h1.1
  have lg := (h2.1.lt g rfl).2
  have sz : (y.setCell ⟨g, i * 16 + 15, none⟩ (.bool true)).heap.size = y.heap.size := by simp [World.setCell]
  have t1 : Turn (fun x => x = c) f f y (y.setCell ⟨g, i * 16 + 15, none⟩ (.bool true)) := (Turn.refl _ hTw.norm).set g _ _ (h2.2 g rfl)
  have t2 := t1.grown (fun _ => 0) hg (fun r hr => by obtain rfl := Option.some.inj hr; exact h3)
  have hlen : (es.set i { e with gone := true }).length = es.length := by simp
  obtain ⟨gd, m1, m2, m3⟩ := hm
  refine ⟨_, hTw.trans t2, mb, n, gd, .slice (some ⟨g, 0, none⟩) es.length cap, ⟨?_, ?_⟩, ⟨?_, ?_⟩, ⟨m1, ?_⟩, by rw [hlen]; exact h4, set_gone_mem hi h5, ?_, fun x hx => ?_⟩
  · rw [hg.block db (by rw [sz]; exact lf) (fun e => ndm (Option.some.inj e)), Below.heap_setCell _ _ _ _ ng]; exact h1.1
  · rw [give_old (by rw [sz]; exact lf)]; exact h1.2
  · rw [hlen, ← flatN_drop hi]
    exact own_at (row_set h2.1 (i * 16 + 15) (.bool true)) fun r hr => by
      obtain rfl := Option.some.inj hr
      exact hg.block _ (by rw [sz]; exact lg) (fun e => nm (Option.some.inj e).symm)
  · intro r hr
    obtain rfl := Option.some.inj hr
    rw [give_old (by rw [sz]; exact lg)]; exact h2.2 _ rfl
  · rw [give_old (by rw [sz]; exact lm)]; exact h3
  · rw [hl]
    exact h6.sublist ((List.eraseIdx_sublist _ _).map _)
  · rw [lidx_drop hi hg0 h6, hK]
    have hok := h5 e (List.mem_of_getElem? hi)
    by_cases e1 : K = x
    · subst e1; rw [m2]; simp
    · rw [m3 _ (fun h => e1 (klK_inj (by rw [← hK]; exact pk_ok hok) hx h.symm)), h7 x hx]
      simp [e1]
end Go.Proofs.YtkbohoolnpaleaaGreatDoor
namespace Go.Proofs.YtkbohoolnpaleaaGreatDoor
open Go.RowKit Go.Shelf Go.Lib Go.Sort Go.Proofs Go.Maps
set_option maxHeartbeats 2000000
set_option maxRecDepth 100000

theorem fold_set (vs : List Value) : ∀ (pre cs : List Value), cs.length = vs.length → List.foldl (fun (cs : Array Value) (x : Value × Nat) => cs.setIfInBounds x.snd x.fst) (pre ++ cs).toArray (vs.zipIdx pre.length) = (pre ++ vs).toArray := by
  induction vs with
  | nil => intro pre cs h; simp at h; simp [h]
  | cons v vs ih =>
    intro pre cs h
    cases cs with
    | nil => simp at h
    | cons c cs =>
      have h2 := ih (pre ++ [v]) cs (by simpa using h)
      rw [List.zipIdx_cons, List.foldl_cons]
      have e1 : ((pre ++ c :: cs).toArray).setIfInBounds pre.length v = (pre ++ [v] ++ cs).toArray := by
        apply Array.toList_inj.1
        rw [Array.toList_setIfInBounds]
        simp [List.set_append_right]
      dsimp only
      rw [e1]
      have e2 : (pre ++ [v]).length = pre.length + 1 := by simp
      rw [e2] at h2
      rw [h2]
      simp
theorem fold_encN (e : EN) : List.foldl (fun (cs : Array Value) (x : Value × Nat) => cs.setIfInBounds x.snd x.fst) #[.string ⟨#[]⟩, .int .i64 0, .int .i64 0, .float .f64 0, .string ⟨#[]⟩, .int .i64 0, .int .i64 0, .float .f64 0, .string ⟨#[]⟩, .int .i64 0, .int .i64 0, .float .f64 0, .string ⟨#[]⟩, .int .i64 0, .int .i64 0, .bool false] (encN e).zipIdx = (encN e).toArray :=
  fold_set (encN e) [] _ rfl
theorem own_slice {w : World} {B e size n : Nat} {v : Value} {xs : List Value} (h : w.ownsRow B e size v n xs) : ∃ p c, v = .slice p n c := by
  rcases h.2 with ⟨e, h⟩ | ⟨g, cap, cur, e, _⟩
  · rw [h]; exact ⟨_, _, e⟩
  · exact ⟨_, _, e⟩
/-- where a key stands while the list is made anew -/
def mixI (es : List EN) (i : Nat) (x : KK) : Option Nat := match idx (gk (live (es.take i))) x with | some j => some j | none => lidx es x
def DropI (w4 : World) (mb n : Nat) (es : List EN) (i : Nat) (v : Value) (wr : World) : Prop :=
  (wr.ownsRow w4.heap.size 166 16 v (alive (es.take i)).length (flatN (alive (es.take i))) ∧ w4.grownBy wr (some mb)) ∧ ∃ gi, MapG wr 43 mb n gi ∧ ∀ x, okK x → gi (klK x) = (mixI es i x).map Int.ofNat
theorem DropI.start {w4 : World} {mb n : Nat} {es : List EN} {g : Lit → Option Int} (hm : MapG w4 43 mb n g) (hg : ∀ x, okK x → g (klK x) = (lidx es x).map Int.ofNat) : DropI w4 mb n es 0 (.slice none 0 0) w4.drew :=
  ⟨⟨⟨rfl, .inl ⟨rfl, rfl⟩⟩, ⟨rfl, rfl, rfl, Nat.le_refl _, fun _ _ _ => rfl⟩⟩, g, hm.at rfl, fun x hx => by rw [hg x hx]; rfl⟩
theorem mixI_gone {es : List EN} {i : Nat} {e : EN} (hi : es[i]? = some e) (hg : e.gone = true) (x : KK) : mixI es (i + 1) x = mixI es i x := by
  unfold mixI
  rw [take_get hi, live_app]
  have : live [e] = [] := by simp [live, hg]
  rw [this, List.append_nil]
theorem lidx_has {es : List EN} : ∀ {i : Nat} {e : EN}, es[i]? = some e → e.gone = false → (lidx es (pk e.k)).isSome = true := by
  induction es with
  | nil => intro i e h; simp at h
  | cons a l ih =>
    intro i e h hg
    by_cases ha : a.gone = false ∧ pk a.k = pk e.k
    · simp [lidx, ha]
    · cases i with
      | zero => simp at h; subst h; exact absurd ⟨hg, rfl⟩ ha
      | succ i =>
        simp only [lidx, ha, if_false, Option.isSome_map]
        exact ih (by simpa using h) hg
theorem gk_live_len (l : List EN) : (gk (live l)).length = (alive l).length := by
  rw [← live_alive]
  have : ∀ l : List EN, (∀ e ∈ l, e.gone = false) → (gk (live l)).length = l.length := by
    intro l
    induction l with
    | nil => intro _; rfl
    | cons e l ih =>
      intro h
      rw [live_cons]
      have h1 := h e (by simp)
      have h2 := ih fun x hx => h x (by simp [hx])
      simp [gk, h1] at h2 ⊢
      exact h2
  refine this _ fun e he => ?_
  have := (List.mem_filter.1 he).2
  simpa using this
theorem mixI_live {es : List EN} {i : Nat} {e : EN} (hi : es[i]? = some e) (hg : e.gone = false) (hn : (gk (live es)).Nodup) (x : KK) : mixI es (i + 1) x = if pk e.k = x then some (alive (es.take i)).length else mixI es i x := by
  unfold mixI
  have e1 : live [e] = [(pk e.k, e.p)] := by simp [live, hg]
  have e2 : gk (live (es.take i) ++ live [e]) = gk (live (es.take i)) ++ [pk e.k] := by rw [e1]; simp [gk]
  rw [take_get hi, live_app, e2, idx_snoc]
  have hnot : idx (gk (live (es.take i))) (pk e.k) = none := by
    rw [idx_none]
    intro hm
    have e3 : gk (live es) = gk (live (es.take i)) ++ gk (live (es.drop i)) := by
      unfold gk; rw [← List.map_append, ← live_app, List.take_append_drop]
    rw [e3, List.nodup_append] at hn
    have hd : pk e.k ∈ gk (live (es.drop i)) := by
      have h0 : (es.drop i)[0]? = some e := by simpa using hi
      unfold gk live
      exact List.mem_map.2 ⟨(pk e.k, e.p), List.mem_filterMap.2 ⟨e, List.mem_of_getElem? h0, by simp [hg]⟩, rfl⟩
    exact hn.2.2 _ hm _ hd rfl
  by_cases hx : pk e.k = x
  · subst hx
    rw [hnot]
    simp [gk_live_len]
  · cases idx (gk (live (es.take i))) x <;> simp [hx]
theorem DropI.skip {w4 wr y : World} {mb n : Nat} {es : List EN} {i : Nat} {v : Value} {e : EN} (h : DropI w4 mb n es i v wr) (hi : es[i]? = some e) (hg : e.gone = true) (hb : Below wr.heap.size wr y) : DropI w4 mb n es (i + 1) v y := by
  obtain ⟨⟨h1, h2⟩, gi, h3, h4⟩ := h
  have ha : alive (es.take (i + 1)) = alive (es.take i) := by rw [take_get hi, alive_snoc, if_pos hg]
  refine ⟨⟨?_, ⟨hb.os.trans h2.os, hb.tape.trans h2.tape, hb.output.trans h2.output, Nat.le_trans h2.size hb.size, fun r hr hne => (hb.block r (Nat.lt_of_lt_of_le hr h2.size)).trans (h2.block r hr hne)⟩⟩, gi, h3.at (hb.block mb h3.lt), fun x hx => by rw [h4 x hx, mixI_gone hi hg]⟩
  rw [ha]
  exact own_at h1 fun r hr => hb.block r (h1.lt r hr).2
theorem DropI.step {w4 wr W4 y w5 : World} {mb n : Nat} {es : List EN} {i : Nat} {v v' : Value} {e : EN} {gi : Lit → Option Int} {o : Obj} (h1 : wr.ownsRow w4.heap.size 166 16 v (alive (es.take i)).length (flatN (alive (es.take i)))) (h2 : w4.grownBy wr (some mb)) (h4 : ∀ x, okK x → gi (klK x) = (mixI es i x).map Int.ofNat)
    (hi : es[i]? = some e) (hg : e.gone = false) (hn : (gk (live es)).Nodup) (hok : okK e.k) (hlm : mb < w4.heap.size) (hb : Below wr.heap.size wr W4) (hgr : W4.grownBy y (some mb)) (hm : ∃ g', MapG y 43 mb n g' ∧ g' (klK (pk e.k)) = some ((alive (es.take i)).length : Int) ∧ ∀ l, l ≠ klK (pk e.k) → g' l = gi l)
    (hg5 : (y.alloc o).grownBy w5 v.ownBlock) (hown : w5.ownsRow w4.heap.size 166 16 v' ((alive (es.take i)).length + 1) (flatN (alive (es.take i)) ++ encN e)) : DropI w4 mb n es (i + 1) v' w5 := by
  have ha : alive (es.take (i + 1)) = alive (es.take i) ++ [e] := by rw [take_get hi, alive_snoc, if_neg (by simp [hg])]
  obtain ⟨g', m1, m2, m3⟩ := hm
  have sz : (y.alloc o).heap.size = y.heap.size + 1 := by simp
  have s1 := h2.size
  have s2 := hb.size
  have s3 := hgr.size
  have s5 := hg5.size
  refine ⟨⟨?_, ⟨?_, ?_, ?_, by omega, fun r hr hne => ?_⟩⟩, g', m1.at ?_, fun x hx => ?_⟩
  · rw [ha]
    simpa [flatN] using hown
  · exact hg5.os.trans (hgr.os.trans (hb.os.trans h2.os))
  · exact hg5.tape.trans (hgr.tape.trans (hb.tape.trans h2.tape))
  · exact hg5.output.trans (hgr.output.trans (hb.output.trans h2.output))
  · rw [hg5.block r (by omega) (fun e => by have := (h1.lt r e.symm).1; omega), Below.heap_alloc _ _ _ (by omega), hgr.block r (by omega) hne, hb.block r (by omega)]
    exact h2.block r hr hne
  · rw [hg5.block mb (by omega) (fun e => by have := (h1.lt mb e.symm).1; omega), Below.heap_alloc _ _ _ (by omega)]
  · rw [mixI_live hi hg hn]
    by_cases hx2 : pk e.k = x
    · subst hx2; rw [m2]; simp
    · rw [m3 _ (fun h => hx2 (klK_inj (pk_ok hok) hx h.symm)), h4 x hx]
      simp [hx2]
theorem DropI.done {w4 wr : World} {f : Nat → Nat} {c db b mb n : Nat} {g : Lit → Option Int} {lv v : Value} {es : List EN} (hN : Norm f w4) (h1 : w4.heap[db]? = some (.cells #[.map (some mb), lv] 145 (0, 0)) ∧ f db = c) (h3 : MapO w4 f c 43 mb n g) (h4 : n ≤ b ∧ es.length ≤ b)
    (h5 : ∀ e ∈ es, okK e.k) (h6 : (gk (live es)).Nodup) (h : DropI w4 mb n es es.length v wr) : ∃ f', Turn (fun x => x = c) f f' w4 (wr.setCell ⟨db, 1, none⟩ v) ∧ SlowO (wr.setCell ⟨db, 1, none⟩ v) f' c db b (alive es) := by
  obtain ⟨⟨q1, q2⟩, gi, q3, q4⟩ := h
  rw [List.take_length] at q1
  have lf := heapH_lt h1.1
  have lm := h3.lt
  have ndm : db ≠ mb := fun e => by
    obtain ⟨D, ⟨es', cl, hm, _⟩, _⟩ := h3.1
    rw [← e, h1.1] at hm
    cases hm
  have t1 := (Turn.refl (fun x => x = c) hN).grown (fun _ => c) q2 (fun r hr => by obtain rfl := Option.some.inj hr; exact h3.2)
  have t2 := t1.set db 1 v (by rw [give_old lf]; exact h1.2)
  have e5 : wr.heap[db]? = some (.cells #[.map (some mb), lv] 145 (0, 0)) := (q2.block db lf (fun e => ndm (Option.some.inj e))).trans h1.1
  have hal := alive_len es
  refine ⟨_, t2, mb, n, gi, v, ⟨?_, ?_⟩, ⟨?_, ?_⟩, ⟨q3.at ?_, ?_⟩, ⟨h4.1, by omega⟩, fun e he => h5 e (List.mem_filter.1 he).1, by rw [live_alive]; exact h6, fun x hx => ?_⟩
  · rw [heap_setCell_same wr db 1 _ _ _ e5]; rfl
  · rw [give_old lf]; exact h1.2
  · have hr0 : wr.ownsRow 0 166 16 v (alive es).length (flatN (alive es)) := by
      refine ⟨q1.1, ?_⟩
      rcases q1.2 with h | ⟨g, cap, cur, e, _, r⟩
      · exact .inl h
      · exact .inr ⟨g, cap, cur, e, Nat.zero_le _, r⟩
    exact own_at hr0 fun r hr => Below.heap_setCell _ _ _ _ (fun e => by have := (q1.lt r hr).1; have : r = db := e; omega)
  · intro r hr
    have := q1.lt r hr
    rw [give_new this.1 this.2]
  · exact Below.heap_setCell _ _ _ _ ndm.symm
  · rw [give_old lm]; exact h3.2
  · rw [q4 x hx, lidx_alive]
    unfold mixI
    rw [List.take_length]
    cases hq : idx (gk (live es)) x with
    | some j => rfl
    | none => dsimp only; rw [lidx_none.2 hq]
end Go.Proofs.YtkbohoolnpaleaaGreatDoor
namespace Go.Proofs.YtkbohoolnpaleaaGreatDoor
open Go.RowKit Go.Shelf Go.Lib Go.Sort Go.Proofs Go.Maps
set_option maxHeartbeats 2000000
set_option maxRecDepth 100000

/-- a dictionary has dropped a property -/
def DropD (w : World) (f : Nat → Nat) (c db b : Nat) (l : List (KK × PV)) (w' : World) : Prop := ∃ (f' : Nat → Nat) (es' : List EN), Turn (fun x => x = c) f f' w w' ∧ SlowO w' f' c db b es' ∧ live es' = l
theorem c_SWdrop {w : World} {f : Nat → Nat} {c db b : Nat} {es : List EN} (hN : Norm f w) (h : SlowO w f c db b es) (hbb : b ≤ 100000) (k : KK) (hk : okK k) (j : Nat) (hj : idx (gk (live es)) (pk k) = some j) :
    Calls Tryz.prog 109 #[.pointer (some ⟨db, 0, none⟩), keyV k.1 k.2] w fun e w' => e = .returned (.tuple #[]) ∧ DropD w f c db b ((live es).eraseIdx j) w' := by
  obtain ⟨mb, n, g, lv, h1, h2, h3, h4, h5, h6, h7⟩ := h
  have hel : es.length ≤ 100000 := by omega
  have hnl : n ≤ 100000 := by omega
  have hP := Lib.hid (c_Hplain k hk.1)
  have hP1 := fun x (hx : okK x) => c_Hplain x hx.1
  have lm := h3.lt
  obtain ⟨i, hli⟩ : ∃ i, lidx es (pk k) = some i := by
    cases hq : lidx es (pk k) with
    | none => rw [lidx_none.1 hq] at hj; cases hj
    | some i => exact ⟨i, rfl⟩
  have hlk := look_K1 h3 (pk k) (pk_ok hk) (i : Int) (by rw [h7 _ (pk_ok hk), hli]; rfl)
  have hkey := keyOf_K (pk k) (pk_ok hk)
  have hil := lidx_lt hli
  obtain ⟨en, j', e1, e2, e3, e4, e5, e6, e7⟩ := lidx_some hli
  obtain rfl : j' = j := by rw [hj] at e4; exact (Option.some.inj e4).symm
  unfold keyV at *
  obtain ⟨k0, kn⟩ := k
  dsimp only at *
  generalize hK : pk (k0, kn) = K at *
  obtain ⟨W2, hW2⟩ : ∃ W2, w.alloc (.cells #[.string k0, .int .i64 kn] 43) = W2 := ⟨_, rfl⟩
  have hb2 : Below w.heap.size w W2 := by rw [← hW2]; exact (Below.refl _ w).alloc (Nat.le_refl _) _
  have hs2 : W2.heap.size = w.heap.size + 1 := by rw [← hW2]; simp
  have d0 : W2.heap[w.heap.size]? = some (.cells #[.string k0, .int .i64 kn] 43 (0, 0)) := by rw [← hW2]; exact heap_alloc_new w _
  have kc0 : W2.cell? ⟨w.heap.size, 0, none⟩ = some (.string k0) := by rw [cell_of_row _ _ 0 _ _ _ d0]; rfl
  have kc1 : W2.cell? ⟨w.heap.size, 1, none⟩ = some (.int .i64 kn) := by rw [cell_of_row _ _ 1 _ _ _ d0]; rfl
  have lf := heapH_lt h1.1
  have c0 : W2.cell? ⟨db, 0, none⟩ = some (.map (some mb)) := by rw [hb2.cell (p := ⟨db, 0, none⟩) lf, cell_of_row _ _ 0 _ _ _ h1.1]; rfl
  rw [← hb2.block mb lm] at hlk
  have t1 : w.heap.size < W2.heap.size := by omega
  have t2 : db < W2.heap.size := by omega
  have t3 : mb < W2.heap.size := by omega
  obtain ⟨g', cap, rfl, g1, g2⟩ := h2.1.form (by omega)
  have hg := (h2.1.lt g' rfl).2
  have ng : db ≠ g' := fun e => row_not h2.1 h1.1 (by decide) (congrArg some e.symm)
  obtain ⟨cur, hcur⟩ := row_type h2.1 (r := g') rfl
  have nm : mb ≠ g' := fun e => by
    subst e
    obtain ⟨D, ⟨es', cl, hm, _⟩, _⟩ := h3.1
    rw [hcur] at hm
    cases hm
  have ndm : db ≠ mb := fun e => by
    obtain ⟨D, ⟨es', cl, hm, _⟩, _⟩ := h3.1
    rw [← e, h1.1] at hm
    cases hm
  have p3 : (0 : Int) ≤ (i : Int) := by omega
  have p4 : (i : Int) < (es.length : Int) := by omega
  replace hs2 := Lib.hid hs2
  replace h1 := Lib.hid h1
  replace h4 := Lib.hid h4
  replace h2 := Lib.hid h2
  replace h3 := Lib.hid h3
  replace h5 := Lib.hid h5
  replace h6 := Lib.hid h6
  replace h7 := Lib.hid h7
  replace hN := Lib.hid hN
  replace e1 := Lib.hid e1
  replace e2 := Lib.hid e2
  replace e3 := Lib.hid e3
  replace e7 := Lib.hid e7
  replace hcur := Lib.hid hcur
  replace hK := Lib.hid hK
  replace d0 := Lib.hid d0
  replace hkey := Lib.hid hkey
  replace hP1 := Lib.hid hP1
  replace hli := Lib.hid hli
  clear hk e4 e5 e6 hj
  go_enter Tryz.func109, Tryz.ntmps109
  go_wp2_with fail
  go_region_held3 (fun y => (∀ a : Addr, a.block < W2.heap.size → y.cell? a = W2.cell? a) ∧ (∀ b : Nat, b < W2.heap.size → y.heap[b]? = W2.heap[b]?) ∧ Below W2.heap.size W2 y) (first | assumption | exact onto_drew W2 | exact onto_below (by assumption) (by assumption)) (first | (go_at_call 92; refine (hP.out _).mono ?_; rintro e y' ⟨rfl, hb⟩))
  have hO := onto_below (onto_drew W2) hb
  clear kc0 kc1 c0
  have hbw := hb2.trans (hO.2.2.mono hb2.size)
  have d1 : y'.heap[w.heap.size]? = some (.cells #[.string k0, .int .i64 kn] 43 (0, 0)) := (hO.2.1 _ t1).trans d0.out
  have k1 : y'.heap[db]? = some (.cells #[.map (some mb), .slice (some ⟨g', 0, none⟩) es.length cap] 145 (0, 0)) := (hbw.block db lf).trans h1.out.1
  have k2 : y'.heap[g']? = some (.cells cur 166 (0, 0)) := (hbw.block g' hg).trans hcur.out
  clear hO hb t1 t2 t3 hlk
  have c0 : y'.cell? ⟨db, 0, none⟩ = some (.map (some mb)) := by rw [cell_of_row _ _ 0 _ _ _ k1]; rfl
  have c1 : y'.cell? ⟨db, 1, none⟩ = some (.slice (some ⟨g', 0, none⟩) es.length cap) := by rw [cell_of_row _ _ 1 _ _ _ k1]; rfl
  have u15 : y'.cell? ⟨g', i * 16 + 15, none⟩ = some (.bool en.gone) := by
    have := h2.out.1.cells (g := g') rfl _ _ (flatN_get e1.out (j := 15) (v := .bool en.gone) rfl)
    rw [Addr.add_lit, Nat.zero_add] at this
    rw [World.cell?_of_block (w := w) (a := ⟨g', i * 16 + 15, none⟩) (hbw.block g' hg)]
    exact this
  have fz : ∀ o, y'.frozen? ⟨g', o, none⟩ = false := fun o => by simp [World.frozen?, k2]
  replace hbw := Lib.hid hbw
  replace k1 := Lib.hid k1
  replace k2 := Lib.hid k2
  replace d1 := Lib.hid d1
  go_wp2_with fail
  have hT1 : Turn (fun x => x = c) f f w y' := Turn.of_below _ hN.out hbw.out
  have hT0 : Turn (fun _ => False) f f w y' := Turn.of_below _ hN.out hbw.out
  have hgone := fun (w4 : World) hg hm => slow_gone (w4 := w4) (e := en) hT1 ⟨k1.out, h1.out.2⟩ (h2.out.turn hT0 id) h3.out.2 (Nat.lt_of_lt_of_le lm hbw.out.size) nm ndm h4.out h5.out h6.out h7.out e1.out e2.out e3.out e7.out hg hm
  obtain ⟨W3, hW3⟩ : ∃ W3, y'.setCell ⟨g', i * 16 + 15, none⟩ (.bool true) = W3 := ⟨_, rfl⟩
  have s3 : W3.heap.size = y'.heap.size := by rw [← hW3]; simp [World.setCell]
  have q1 : W3.heap[db]? = some (.cells #[.map (some mb), .slice (some ⟨g', 0, none⟩) es.length cap] 145 (0, 0)) := by rw [← hW3, Below.heap_setCell _ _ _ _ ng]; exact k1.out
  have q2 : W3.heap[w.heap.size]? = some (.cells #[.string k0, .int .i64 kn] 43 (0, 0)) := by rw [← hW3, Below.heap_setCell _ _ _ _ (show w.heap.size ≠ g' by omega)]; exact d1.out
  have q3 : MapG W3 43 mb n g := h3.out.1.at (by rw [← hW3, Below.heap_setCell _ _ _ _ nm]; exact hbw.out.block mb lm)
  rw [hW3] at hgone ⊢
  replace hgone := Lib.hid hgone
  have a0 : W3.cell? ⟨db, 0, none⟩ = some (.map (some mb)) := by rw [cell_of_row _ _ 0 _ _ _ q1]; rfl
  have b0 : W3.cell? ⟨w.heap.size, 0, none⟩ = some (.string k0) := by rw [cell_of_row _ _ 0 _ _ _ q2]; rfl
  have b1 : W3.cell? ⟨w.heap.size, 1, none⟩ = some (.int .i64 kn) := by rw [cell_of_row _ _ 1 _ _ _ q2]; rfl
  have r1 := heapH_lt q1
  have r2 := heapH_lt q2
  have hm2 := butV_start (kl := klK K) q3
  have r3 : w.heap.size ≠ mb := by omega
  clear hW3 hT1 hT0 c0 c1 u15 fz q1 q2 q3 s3
  go_region_held3 (fun y => ((∀ a : Addr, a.block < W3.heap.size → a.block ≠ mb → y.cell? a = W3.cell? a) ∧ W3.grownBy y (some mb)) ∧ MapV y 43 mb n g (klK K) ∧ mb < W3.heap.size) (first | assumption | exact hm2 | exact butV_below (by assumption) (by assumption) | exact butV_turn (by assumption) (by assumption) (by assumption)) (first | (go_at_call 92; refine (hP.out _).mono ?_; rintro e y2 ⟨rfl, hb⟩) | (refine step_del rfl _ _ _ _ rfl lawKey Tryz.underlying75 mb n g rfl _ _ rfl hkey.out (And.left (And.right (by assumption))) ?_; intro w4 hm4 ht4))
  have hbT := butV_turn (butV_below hm2 hb) hm4 ht4
  obtain ⟨f2, T4, S4⟩ := hgone.out w4 hbT.1.2 hm4
  have hl4 := e7.out
  obtain ⟨es2, hes2⟩ : ∃ es2, es.set i { en with gone := true } = es2 := ⟨_, rfl⟩
  rw [hes2] at S4 hl4
  replace T4 := Lib.hid T4
  replace hl4 := Lib.hid hl4
  clear hbT hm4 ht4 hb hm2 a0 b0 b1 r1 r2 r3 h1 h2 h3 h4 h5 h6 h7 e1 e2 e3 e7 hgone hes2 hN hcur hP hkey hli hbw k1 k2 d1 nm ndm p3 p4 hil ng lm lf hg g1 g2 hel hnl
  obtain ⟨mb, n, g, lv, h1, h2, h3, h4, h5, h6, h7⟩ := S4
  have hlf : ∃ q cp, lv = .slice q es2.length cp := by
    rcases h2.1.2 with ⟨e, h⟩ | ⟨g, cap, cur, e, _⟩
    · rw [h]; exact ⟨_, _, e⟩
    · exact ⟨_, _, e⟩
  obtain ⟨q, cp, rfl⟩ := hlf
  have a0 : w4.cell? ⟨db, 0, none⟩ = some (.map (some mb)) := by rw [cell_of_row _ _ 0 _ _ _ h1.1]; rfl
  have a1 : w4.cell? ⟨db, 1, none⟩ = some (.slice q es2.length cp) := by rw [cell_of_row _ _ 1 _ _ _ h1.1]; rfl
  have f1 : w4.frozen? ⟨db, 1, none⟩ = false := by simp [World.frozen?, h1.1]
  obtain ⟨sz, hsz, hlen⟩ := len_of h3.1 Tryz.underlying75
  have lm4 := h3.lt
  have lf4 := heapH_lt h1.1
  have hel2 := h4.2
  replace h1 := Lib.hid h1
  replace h2 := Lib.hid h2
  replace h3 := Lib.hid h3
  replace h4 := Lib.hid h4
  replace h5 := Lib.hid h5
  replace h6 := Lib.hid h6
  replace h7 := Lib.hid h7
  go_wp2_with fail
  by_cases hsm : es2.length < 16
  · have hsm' : decide ((es2.length : Int) < 16) = true := decide_eq_true (by omega)
    go_quiet (fail)
    go_wp2
    refine bodyPost_ret (results_none rfl _ _ _) rfl ?_
    exact ⟨rfl, f2, es2, T4.out.then (below_drewN (Below.refl _ w4) _), SlowO.turn ⟨mb, n, g, _, h1.out, h2.out, h3.out, h4.out, h5.out, h6.out, h7.out⟩ (Turn.of_below (fun _ => False) T4.out.norm (below_drewN (Below.refl _ w4) _)) id, hl4.out⟩
  · have hsm' : decide ((es2.length : Int) < 16) = false := decide_eq_false (by omega)
    have hst := Lib.hid (DropI.start h3.out.1 h7.out)
    obtain ⟨i0, hi0, hz0, hz1, hz2⟩ := info_parts infoEntry
    obtain ⟨m2, hm2⟩ : ∃ m2, IntKind.i64.wrap ((es2.length : Int) / 2) = m2 := ⟨_, rfl⟩
    cases hbq : decide (m2 < (sz : Int)) with
    | true =>
      go_region_held3 (fun y => (∀ a : Addr, a.block < w4.heap.size → y.cell? a = w4.cell? a) ∧ (∀ b : Nat, b < w4.heap.size → y.heap[b]? = w4.heap[b]?) ∧ Below w4.heap.size w4 y) (first | assumption | exact onto_drew w4) (fail)
      go_wp2
      refine bodyPost_ret (results_none rfl _ _ _) rfl ?_
      exact ⟨rfl, f2, es2, T4.out.drew, SlowO.turn ⟨mb, n, g, _, h1.out, h2.out, h3.out, h4.out, h5.out, h6.out, h7.out⟩ (Turn.of_below (fun _ => False) T4.out.norm (Below.refl _ w4).drew) id, hl4.out⟩
    | false =>
      go_region_held3 (fun y => (∀ a : Addr, a.block < w4.heap.size → y.cell? a = w4.cell? a) ∧ (∀ b : Nat, b < w4.heap.size → y.heap[b]? = w4.heap[b]?) ∧ Below w4.heap.size w4 y) (first | assumption | exact onto_drew w4) (fail)
      go_wp2
      clear hlen hsz hbq hm2
      generalize w4.drew = wd at *
      go_loopw [5, 53] (fun v vi wr => ∃ i : Nat, i ≤ es2.length ∧ vi = .int .i64 (i : Int) ∧ DropI w4 mb n es2 i v wr) (fun _ vi _ => es2.length - (intOf vi).toNat)
      case atStart => exact ⟨0, by omega, rfl, hst.out⟩
      case round =>
        obtain ⟨i, hi, rfl, hD⟩ := hrel
        obtain ⟨p5, c5, rfl⟩ := own_slice hD.1.1
        rcases Nat.lt_or_ge i es2.length with hlt | hge
        · obtain ⟨⟨hown, hbu⟩, gi, hmi, hgi⟩ := hD
          obtain ⟨g', cap, heq, g1, g2⟩ := h2.out.1.form (by omega)
          injection heq with e1 e2 e3
          subst e1
          subst e3
          clear e2
          obtain ⟨en, hen⟩ : ∃ en, es2[i]? = some en := ⟨_, List.getElem?_eq_getElem hlt⟩
          have hgm : g' ≠ mb := fun e => by
            obtain ⟨cur, hc⟩ := row_type h2.out.1 (r := g') rfl
            obtain ⟨D, ⟨es', cl, hm, _⟩, _⟩ := h3.out.1
            rw [← e, hc] at hm
            cases hm
          have ndm : db ≠ mb := fun e => by
            obtain ⟨D, ⟨es', cl, hm, _⟩, _⟩ := h3.out.1
            rw [← e, h1.out.1] at hm
            cases hm
          have hrg := range_at (rangeE h2.out.1 hen) (hbu.block g' g2 (fun e => hgm (Option.some.inj e)))
          have k1 : wr.heap[db]? = some (.cells #[.map (some mb), .slice (some ⟨g', 0, none⟩) es2.length cp] 145 (0, 0)) := (hbu.block db lf4 (fun e => ndm (Option.some.inj e))).trans h1.out.1
          have hi16 : (Tryz.prog.info? 166).map (·.size) = some (encN en).length := infoEntryS
          have hj16 : (Tryz.prog.info? 166).map (·.size) = some (encN en).toArray.size := infoEntryS
          have ho16 := all_oneCell_toArray (encN_one en)
          have hon := encN_one en
          have hl16 : (encN en).length = 1 * 16 := rfl
          have q1 : (0 : Int) ≤ (i : Int) := by omega
          have q2 : (i : Int) < (es2.length : Int) := by omega
          have hfs := fresh_cells (w := wr) en
          have hfb := (fresh_set (w := wr) (o := zeroN) (t := 166) (vs := encN en) rfl).2.1
          have hth : (wr.alloc (.cells zeroN 166)).there wr.heap.size 0 (encN en).toArray.size := zeroN_there wr
          have hal := alive_len (es2.take i)
          have hlt2 : (es2.take i).length ≤ i := List.length_take_le _ _
          have hsz := hbu.size
          have hok := h5.out en (List.mem_of_getElem? hen)
          have hlm := hmi.lt
          have tokA : True := trivial
          have tokB : True := trivial
          cases hgn : en.gone with
          | true =>
            have hsk := fun y hb => DropI.skip (y := y) ⟨⟨hown, hbu⟩, gi, hmi, hgi⟩ hen hgn hb
            rw [hgn] at hfs
            replace hsk := Lib.hid hsk
            replace hfs := Lib.hid hfs
            replace hfb := Lib.hid hfb
            replace hgn := Lib.hid hgn
            replace hen := Lib.hid hen
            generalize encN en = E at *
            clear k1 hown hbu hmi hgi hon hl16 hok
            go_wp2_with (first | (clear tokA; refine wpList_load_mid rfl 166 (.tmp 55) rfl g' (i * 16) rfl E _ hrg Tryz.underlying166 rfl hi16 ?_) | (clear tokB; refine wpList_store_mid rfl 166 (.tmp 7) (.tmp 56) rfl wr.heap.size 0 E.toArray rfl rfl hth hj16 ho16 ?_; obtain ⟨hb4, d0, d1, d2⟩ := hfs.out; generalize hW4 : World.setCells _ _ _ _ = W4; rw [show (wr.alloc (.cells zeroN 166)).setCells wr.heap.size 0 E = W4 from hW4] at hb4 d0 d1 d2; clear hW4 hth hrg; replace hb4 := Lib.hid hb4))
            go_roundw
            case rel => exact ⟨i + 1, by omega, by go_num, hsk.out _ hb4.out⟩
            case measure => simp [intOf]; omega
          | false =>
            have hP2 := hP1.out en.k hok
            have hfold := fold_encN en
            have hE16 : (encN en).length = 16 := rfl
            have hi1 : ∃ z, mixI es2 i (pk en.k) = some z := by
              unfold mixI
              cases idx (gk (live (es2.take i))) (pk en.k) with
              | some z => exact ⟨z, rfl⟩
              | none => exact Option.isSome_iff_exists.1 (lidx_has hen hgn)
            obtain ⟨Um, hU⟩ := store_X lawKey Tryz.underlying75 (b := mb) (n := n) (g := gi) (keyOf_K (pk en.k) (pk_ok hok)) (isKey_klK _) (v := ((alive (es2.take i)).length : Int)) (WalkArith.wf_i64 (by omega)) (by have := h4.out; unfold maxLen; omega) (by obtain ⟨z, hz⟩ := hi1; rw [hgi _ (pk_ok hok), hz]; rfl)
            have hstp := fun (W4 y w5 : World) (v' : Value) (o : Obj) hb hgr hm hg5 hown5 => DropI.step (n := n) (W4 := W4) (y := y) (w5 := w5) (v' := v') (o := o) hown hbu hgi hen hgn h6.out hok h3.lt hb hgr hm hg5 hown5
            rw [hgn] at hfs
            have hUr := fun y h => (hU y h).1
            have hUt := Lib.hid (fun y h => (hU y h).2)
            have hm1 : (alive (es2.take i)).length + 1 ≤ maxLen ∧ ((alive (es2.take i)).length + 1) * 160 ≤ 140737488355328 := by unfold maxLen; omega
            have hown' := Lib.hid hown
            have hsv : w4.heap.size ≤ wr.heap.size := hbu.size
            obtain ⟨⟨ek0, ekn⟩, ep, egn⟩ := en
            unfold keyV at hUr
            dsimp only at *
            generalize pk (ek0, ekn) = EK at *
            generalize encN ⟨(ek0, ekn), ep, egn⟩ = E at *
            generalize (alive (es2.take i)).length = m5 at *
            generalize flatN (alive (es2.take i)) = F5 at *
            replace hstp := Lib.hid hstp
            replace hfs := Lib.hid hfs
            replace hfb := Lib.hid hfb
            replace hgn := Lib.hid hgn
            replace hen := Lib.hid hen
            replace hP2 := Lib.hid hP2
            replace hUr := Lib.hid hUr
            replace hm1 := Lib.hid hm1
            replace k1 := Lib.hid k1
            replace hmi := Lib.hid hmi
            replace hon := Lib.hid hon
            replace hl16 := Lib.hid hl16
            clear hown hgi hok hi1 hU hal hlt2 hbu
            go_wp2_with (first | (clear tokA; refine wpList_load_mid rfl 166 (.tmp 55) rfl g' (i * 16) rfl E _ hrg Tryz.underlying166 rfl hi16 ?_) | (clear tokB; refine wpList_store_mid rfl 166 (.tmp 7) (.tmp 56) rfl wr.heap.size 0 E.toArray rfl rfl hth hj16 ho16 ?_; obtain ⟨hb4, d0, d1, d2⟩ := hfs.out; have d3 := hfb.out; generalize hW4 : World.setCells _ _ _ _ = W4; rw [show (wr.alloc (.cells zeroN 166)).setCells wr.heap.size 0 E = W4 from hW4] at hb4 d0 d1 d2 d3; clear hW4 hth hrg; replace hb4 := Lib.hid hb4; replace d3 := Lib.hid d3))
            have k2 : W4.heap[db]? = some (.cells #[.map (some mb), .slice (some ⟨g', 0, none⟩) es2.length cp] 145 (0, 0)) := (hb4.out.block db (Nat.lt_of_lt_of_le lf4 hsv)).trans k1.out
            have c0 : W4.cell? ⟨db, 0, none⟩ = some (.map (some mb)) := by rw [cell_of_row _ _ 0 _ _ _ k2]; rfl
            have hm2 := butX_start (kl := klK EK) (v := (m5 : Int)) (hmi.out.at (hb4.out.block mb hlm))
            have r1 := heapH_lt k2
            have r2 := heapH_lt d3.out
            have r3 : wr.heap.size ≠ mb := by omega
            have hUr2 := hUr.out
            have r4 : (0 : Int) ≤ (m5 : Int) := by omega
            clear d2
            go_region_held3 (fun y => ((∀ a : Addr, a.block < W4.heap.size → a.block ≠ mb → y.cell? a = W4.cell? a) ∧ W4.grownBy y (some mb)) ∧ MapX y 43 mb n gi (klK EK) (m5 : Int) ∧ mb < W4.heap.size) (first | assumption | exact hm2 | exact butX_below (by assumption) (by assumption) | exact butX_turn (by assumption) (hUt.out _ (And.left (And.right (by assumption))))) (first | (go_at_call 92; refine (hP2.out _).mono ?_; rintro e y2 ⟨rfl, hb⟩))
            have hbX := butX_below hm2 hb
            have hbT := butX_turn hbX (hUt.out _ hbX.2.1)
            have hfin := (hUt.out y2 hbX.2.1).1
            have hg5 := hbT.1.2
            generalize Um y2 = y5 at *
            have d5 : y5.heap[wr.heap.size]? = some (.cells E.toArray 166 (0, 0)) := (hg5.block _ r2 (fun e => r3 (Option.some.inj e))).trans d3.out
            have hr5 : y5.rangeAt wr.heap.size 0 E := fun j v hv => by rw [cell_of_row _ _ (0 + j) _ _ _ d5]; simpa using hv
            have nv : ∀ r, (Value.slice p5 m5 c5).ownBlock = some r → r < w4.heap.size → False := fun r hr hlt => by have := (hown'.out.lt r hr).1; omega
            have hown5 : y5.ownsRow w4.heap.size 166 16 (.slice p5 m5 c5) m5 F5 := own_at hown'.out fun r hr => by
              have hl := hown'.out.lt r hr
              rw [hg5.block r (Nat.lt_of_lt_of_le hl.2 hb4.out.size) (fun e => by have := Option.some.inj e; have := h3.out.lt; omega)]
              exact hb4.out.block r hl.2
            have hsz5 : w4.heap.size ≤ y5.heap.size := Nat.le_trans hsv (Nat.le_trans hb4.out.size hg5.size)
            have hstp2 := fun (w5 : World) (v' : Value) (o : Obj) hq5 hown6 => hstp.out W4 y5 w5 v' o hb4.out hg5 hfin hq5 hown6
            replace hstp2 := Lib.hid hstp2
            replace d5 := Lib.hid d5
            replace hfin := Lib.hid hfin
            have tokC : True := trivial
            clear hbX hbT hb hUr hUt hUr2 hm2 c0 d0 d1 r1 r2 hg5 k2
            go_wp2_with (first | (clear tokC; refine wpList_load_mid rfl 166 (.tmp 7) rfl wr.heap.size 0 rfl E _ hr5 Tryz.underlying166 rfl hi16 ?_) | (at_builtin; refine wpList_append_lies _ (by rfl) _ _ _ (by rfl) w4.heap.size 166 i0 _ 16 160 Tryz.underlying143 hi0 hz0 hz1 hz2 rfl (by omega) (.slice p5 m5 c5) m5 F5 (by rfl) (hown5.alloc _) ⟨_, 0, none⟩ 1 1 E (by rfl) hl16.out (World.news_of_block (cs := E.toArray) (t := 166) (fr := (0, 0)) (by exact heap_alloc_new _ _)) hon.out (by omega) hm1.out.1 hm1.out.2 (by simp; omega) _ rfl ?_; intro gg cap w7 hown7 hgrow hat hlt7; have hfin2 := Lib.hid (hstp2.out _ _ _ hgrow hown7); clear hgrow hat hlt7 hown7))
            go_roundw
            case rel => exact ⟨i + 1, by omega, by go_num, hfin2.out⟩
            case measure => simp [intOf]; omega
        · obtain rfl : i = es2.length := by omega
          obtain ⟨f3, T5, S5⟩ := DropI.done T4.out.norm h1.out h3.out h4.out h5.out h6.out hD
          have ndm : db ≠ mb := fun e => by
            obtain ⟨D, ⟨es', cl, hm, _⟩, _⟩ := h3.out.1
            rw [← e, h1.out.1] at hm
            cases hm
          have k1 : wr.heap[db]? = some (.cells #[.map (some mb), .slice q es2.length cp] 145 (0, 0)) := (hD.1.2.block db lf4 (fun e => ndm (Option.some.inj e))).trans h1.out.1
          have c1 : wr.cell? ⟨db, 1, none⟩ = some (.slice q es2.length cp) := by rw [cell_of_row _ _ 1 _ _ _ k1]; rfl
          have f1 : wr.frozen? ⟨db, 1, none⟩ = false := by simp [World.frozen?, k1]
          replace hD := Lib.hid hD
          replace k1 := Lib.hid k1
          replace T5 := Lib.hid T5
          replace S5 := Lib.hid S5
          go_wp2
          go_end0
          exact ⟨rfl, f3, alive es2, by have := T4.out.trans T5.out; rwa [List.take_length] at this, by have := S5.out; rwa [List.take_length] at this, by rw [live_alive]; exact hl4.out⟩
end Go.Proofs.YtkbohoolnpaleaaGreatDoor
namespace Go.Proofs.YtkbohoolnpaleaaGreatDoor
open Go.RowKit Go.Shelf Go.Lib Go.Sort Go.Proofs Go.Maps
set_option maxHeartbeats 2000000
set_option maxRecDepth 100000

/-- an object, as it tells itself -/
structure OB where
  cls : Int
  pro : Int
  shut : Bool
  fast : Bool
  l : List (KK × PV)
def ptrV (b : Nat) : Value := .pointer (some ⟨b, 0, none⟩)
/-- how an object keeps its properties -/
def ModeO (w : World) (f : Nat → Nat) (c : Nat) (L : List (List KK)) (B : Nat) (mv : Value) (fast : Bool) (l : List (KK × PV)) : Prop :=
  (fast = true ∧ ∃ fb ks ps, mv = .iface 108 (ptrV fb) ∧ FastO w f c fb L ks ps ∧ ks.length ≤ 128 ∧ l = ks.zip ps) ∨
  (fast = false ∧ ∃ db es, mv = .iface 142 (ptrV db) ∧ SlowO w f c db B es ∧ l = live es)
theorem ModeO.keep {C : Nat → Prop} {f f' : Nat → Nat} {w w' : World} {c B B' : Nat} {L L' : List (List KK)} {mv : Value} {fast : Bool} {l : List (KK × PV)} (h : ModeO w f c L B mv fast l) (ht : Turn C f f' w w') (hc : ¬ C c) (hL : ∀ (i : Nat) ks, L[i]? = some ks → L'[i]? = some ks) (hB : B ≤ B') : ModeO w' f' c L' B' mv fast l := by
  rcases h with ⟨h1, fb, ks, ps, h2, h3, h4⟩ | ⟨h1, db, es, h2, h3, h4⟩
  · exact .inl ⟨h1, fb, ks, ps, h2, h3.turn ht hc hL, h4⟩
  · exact .inr ⟨h1, db, es, h2, (h3.turn ht hc).mono hB, h4⟩
/-- an object in memory -/
def ObjO (w : World) (f : Nat → Nat) (c ob : Nat) (L : List (List KK)) (B : Nat) (a : OB) : Prop :=
  ∃ (many : Int) (mv : Value), (w.heap[ob]? = some (.cells #[.int .i64 a.cls, .int .i64 a.pro, .bool a.shut, .int .i64 many, mv] 94 (0, 0)) ∧ f ob = c + 1) ∧ ModeO w f c L B mv a.fast a.l
theorem ObjO.keep {C : Nat → Prop} {f f' : Nat → Nat} {w w' : World} {c ob B B' : Nat} {L L' : List (List KK)} {a : OB} (h : ObjO w f c ob L B a) (ht : Turn C f f' w w') (hc : ¬ C c) (hc1 : ¬ C (c + 1)) (hL : ∀ (i : Nat) ks, L[i]? = some ks → L'[i]? = some ks) (hB : B ≤ B') : ObjO w' f' c ob L' B' a := by
  obtain ⟨many, mv, h1, h2⟩ := h
  exact ⟨many, mv, blk_turn h1 ht hc1, h2.keep ht hc hL hB⟩
/-- the cells that are taken -/
def usedH (H : List OB) : Nat := H.length + (H.map fun a => a.l.length).sum
def objRow (obs : List Nat) : List Value := .pointer none :: obs.map ptrV
theorem objRow_len (obs : List Nat) : (objRow obs).length = obs.length + 1 := by simp [objRow]
theorem objRow_get {obs : List Nat} {i ob : Nat} (h : obs[i]? = some ob) : (objRow obs)[i + 1]? = some (ptrV ob) := by simp [objRow, h]
/-- a heap -/
def HeapO (w : World) (f : Nat → Nat) (hb : Nat) (lim : Int) (u B : Nat) (H : List OB) : Prop :=
  ∃ (tb : Nat) (L : List (List KK)) (rv : Value) (obs : List Nat), (w.heap[hb]? = some (.cells #[.int .i64 1, .int .i64 lim, .int .i64 (u : Int), ptrV tb, rv] 57 (0, 0)) ∧ f hb = 1) ∧ (TreeO w f tb L ∧ L.length ≤ B) ∧
    RowO w f 2 95 1 rv (H.length + 1) (objRow obs) ∧ (obs.length = H.length ∧ L[0]? = some []) ∧ ∀ (i : Nat) a, H[i]? = some a → ∃ ob, obs[i]? = some ob ∧ ObjO w f (10 + 2 * i) ob L B a
theorem HeapO.turn {C : Nat → Prop} {f f' : Nat → Nat} {w w' : World} {hb B u : Nat} {lim : Int} {H : List OB} (h : HeapO w f hb lim u B H) (ht : Turn C f f' w w') (hC : ∀ c, C c → c = 0) : HeapO w' f' hb lim u B H := by
  obtain ⟨tb, L, rv, obs, h1, h2, h3, h4, h5⟩ := h
  have hn : ∀ c, 0 < c → ¬ C c := fun c hc h => by have := hC c h; omega
  exact ⟨tb, L, rv, obs, blk_turn h1 ht (hn _ (by omega)), ⟨h2.1.turn ht (hn _ (by omega)) (hn _ (by omega)) (hn _ (by omega)) (hn _ (by omega)), h2.2⟩, h3.turn ht (hn _ (by omega)), h4, fun i a hi => by
    obtain ⟨ob, q1, q2⟩ := h5 i a hi
    exact ⟨ob, q1, q2.keep ht (hn _ (by omega)) (hn _ (by omega)) (fun _ _ h => h) (Nat.le_refl _)⟩⟩
theorem HeapO.below {f : Nat → Nat} {w w' : World} {hb B u : Nat} {lim : Int} {H : List OB} (h : HeapO w f hb lim u B H) (hN : Norm f w) (hb' : Below w.heap.size w w') : HeapO w' f hb lim u B H := h.turn (Turn.of_below (fun _ => False) hN hb') (fun _ h => h.elim)
/-- a heap's cells -/
theorem HeapO.form {f : Nat → Nat} {w : World} {hb B u : Nat} {lim : Int} {H : List OB} (h : HeapO w f hb lim u B H) :
    ∃ rb c tb, w.cell? ⟨hb, 0, none⟩ = some (.int .i64 1) ∧ w.cell? ⟨hb, 1, none⟩ = some (.int .i64 lim) ∧ w.cell? ⟨hb, 2, none⟩ = some (.int .i64 (u : Int)) ∧ w.cell? ⟨hb, 3, none⟩ = some (ptrV tb) ∧ w.cell? ⟨hb, 4, none⟩ = some (.slice (some ⟨rb, 0, none⟩) (H.length + 1) c) ∧ hb < w.heap.size ∧ rb < w.heap.size ∧
      ∀ (i : Nat) a, H[i]? = some a → ∃ ob many mv, w.cell? ⟨rb, i + 1, none⟩ = some (.pointer (some ⟨ob, 0, none⟩)) ∧ ob < w.heap.size ∧ w.heap[ob]? = some (.cells #[.int .i64 a.cls, .int .i64 a.pro, .bool a.shut, .int .i64 many, mv] 94 (0, 0)) := by
  obtain ⟨tb, L, rv, obs, h1, h2, h3, h4, h5⟩ := h
  obtain ⟨rb, c, rfl, _, hlt⟩ := h3.1.form (by omega)
  have hc := h3.1.cells (g := rb) rfl
  refine ⟨rb, c, tb, ?_, ?_, ?_, ?_, ?_, heapH_lt h1.1, hlt, fun i a hi => ?_⟩
  · rw [cell_of_row _ _ 0 _ _ _ h1.1]; rfl
  · rw [cell_of_row _ _ 1 _ _ _ h1.1]; rfl
  · rw [cell_of_row _ _ 2 _ _ _ h1.1]; rfl
  · rw [cell_of_row _ _ 3 _ _ _ h1.1]; rfl
  · rw [cell_of_row _ _ 4 _ _ _ h1.1]; rfl
  · obtain ⟨ob, q1, many, mv, q2, _⟩ := h5 i a hi
    have := hc (i + 1) _ (objRow_get q1)
    rw [Addr.add_lit, Nat.zero_add] at this
    exact ⟨ob, many, mv, this, heapH_lt q2.1, q2.1⟩
/-- is there such an object? -/
def hasH (H : List OB) (o : Int) : Bool := decide (0 < o) && decide (o < ((H.length + 1 : Nat) : Int))
theorem c_HHas {w : World} {f : Nat → Nat} {hb B u : Nat} {lim : Int} {H : List OB} (h : HeapO w f hb lim u B H) (o : Int) :
    Calls Tryz.prog 20 #[ptrV hb, .int .i64 o] w fun e w' => e = .returned (.bool (hasH H o)) ∧ w' = w := by
  obtain ⟨rb, c, tb, c0, c1, c2, c3, c4, l1, l2, _⟩ := h.form
  unfold ptrV at *
  cases h1 : decide (0 < o) with
  | false =>
    have e : hasH H o = false := by unfold hasH; rw [h1]; rfl
    rw [e]
    go_enter Tryz.func20, Tryz.ntmps20
    go_wp2
    go_ret
    exact ⟨rfl, rfl⟩
  | true =>
    have e : hasH H o = decide (o < ((H.length + 1 : Nat) : Int)) := by unfold hasH; rw [h1]; rfl
    rw [e]
    clear e
    generalize H.length + 1 = n at *
    go_enter Tryz.func20, Tryz.ntmps20
    go_wp2
    go_ret
    exact ⟨rfl, rfl⟩
end Go.Proofs.YtkbohoolnpaleaaGreatDoor
namespace Go.Proofs.YtkbohoolnpaleaaGreatDoor
open Go.RowKit Go.Shelf Go.Lib Go.Sort Go.Proofs Go.Maps
set_option maxHeartbeats 2000000
set_option maxRecDepth 100000

theorem hasH_of {H : List OB} {o : Nat} {a : OB} (h0 : 0 < o) (h : H[o - 1]? = some a) : hasH H (o : Int) = true := by
  have := (List.getElem?_eq_some_iff.1 h).1
  unfold hasH
  simp; omega
/-- an object's cells -/
theorem HeapO.obj {f : Nat → Nat} {w : World} {hb B u : Nat} {lim : Int} {H : List OB} (h : HeapO w f hb lim u B H) {o : Nat} {a : OB} (h0 : 0 < o) (ha : H[o - 1]? = some a) :
    ∃ rb c ob many mv n, w.cell? ⟨hb, 4, none⟩ = some (.slice (some ⟨rb, 0, none⟩) n c) ∧ (0 : Int) ≤ (o : Int) ∧ (o : Int) < (n : Int) ∧ w.cell? ⟨rb, o, none⟩ = some (.pointer (some ⟨ob, 0, none⟩)) ∧
      w.cell? ⟨ob, 0, none⟩ = some (.int .i64 a.cls) ∧ w.cell? ⟨ob, 1, none⟩ = some (.int .i64 a.pro) ∧ w.cell? ⟨ob, 2, none⟩ = some (.bool a.shut) ∧ w.cell? ⟨ob, 3, none⟩ = some (.int .i64 many) ∧ w.cell? ⟨ob, 4, none⟩ = some mv ∧ (∀ j, w.frozen? ⟨ob, j, none⟩ = false) ∧ (hb < w.heap.size ∧ rb < w.heap.size ∧ ob < w.heap.size) := by
  obtain ⟨rb, c, tb, c0, c1, c2, c3, c4, l1, l2, l3⟩ := h.form
  obtain ⟨ob, many, mv, q1, q2, q3⟩ := l3 (o - 1) a ha
  have e : o - 1 + 1 = o := by omega
  rw [e] at q1
  have := (List.getElem?_eq_some_iff.1 ha).1
  refine ⟨rb, c, ob, many, mv, _, c4, by omega, by omega, q1, ?_, ?_, ?_, ?_, ?_, fun j => by simp [World.frozen?, q3], l1, l2, q2⟩
  · rw [cell_of_row _ _ 0 _ _ _ q3]; rfl
  · rw [cell_of_row _ _ 1 _ _ _ q3]; rfl
  · rw [cell_of_row _ _ 2 _ _ _ q3]; rfl
  · rw [cell_of_row _ _ 3 _ _ _ q3]; rfl
  · rw [cell_of_row _ _ 4 _ _ _ q3]; rfl
theorem c_HClass0 {w : World} {f : Nat → Nat} {hb B u : Nat} {lim : Int} {H : List OB} (h : HeapO w f hb lim u B H) (o : Int) (ho : hasH H o = false) :
    Calls Tryz.prog 21 #[ptrV hb, .int .i64 o] w fun e w' => e = .returned (.int .i64 0) ∧ w' = w := by
  have hH := c_HHas h o
  rw [ho] at hH
  replace hH := Lib.hid hH
  clear h ho
  go_enter Tryz.func21, Tryz.ntmps21
  go_wp2_with (go_at_call 20; refine hH.out.mono ?_; rintro e w1 ⟨rfl, rfl⟩)
  go_ret
  exact ⟨rfl, rfl⟩
theorem c_HClass1 {w : World} {f : Nat → Nat} {hb B u : Nat} {lim : Int} {H : List OB} (h : HeapO w f hb lim u B H) (o : Nat) (a : OB) (h0 : 0 < o) (ho : H[o - 1]? = some a) :
    Calls Tryz.prog 21 #[ptrV hb, .int .i64 (o : Int)] w fun e w' => e = .returned (.int .i64 a.cls) ∧ w' = w := by
  have hH := c_HHas h (o : Int)
  rw [hasH_of h0 ho] at hH
  obtain ⟨rb, c, ob, many, mv, n, c4, p1, p2, q0, q1, q2, q3, q4, q5, _, _⟩ := h.obj h0 ho
  unfold ptrV at *
  replace hH := Lib.hid hH
  clear h ho
  go_enter Tryz.func21, Tryz.ntmps21
  go_wp2_with (go_at_call 20; refine hH.out.mono ?_; rintro e w1 ⟨rfl, rfl⟩)
  go_ret
  exact ⟨rfl, rfl⟩
theorem c_HOpen0 {w : World} {f : Nat → Nat} {hb B u : Nat} {lim : Int} {H : List OB} (h : HeapO w f hb lim u B H) (o : Int) (ho : hasH H o = false) :
    Calls Tryz.prog 45 #[ptrV hb, .int .i64 o] w fun e w' => e = .returned (.bool false) ∧ w' = w := by
  have hH := c_HHas h o
  rw [ho] at hH
  replace hH := Lib.hid hH
  clear h ho
  go_enter Tryz.func45, Tryz.ntmps45
  go_wp2_with (go_at_call 20; refine hH.out.mono ?_; rintro e w1 ⟨rfl, rfl⟩)
  go_ret
  exact ⟨rfl, rfl⟩
theorem c_HOpen1 {w : World} {f : Nat → Nat} {hb B u : Nat} {lim : Int} {H : List OB} (h : HeapO w f hb lim u B H) (o : Nat) (a : OB) (h0 : 0 < o) (ho : H[o - 1]? = some a) :
    Calls Tryz.prog 45 #[ptrV hb, .int .i64 (o : Int)] w fun e w' => e = .returned (.bool (!a.shut)) ∧ w' = w := by
  have hH := c_HHas h (o : Int)
  rw [hasH_of h0 ho] at hH
  obtain ⟨rb, c, ob, many, mv, n, c4, p1, p2, q0, q1, q2, q3, q4, q5, _, _⟩ := h.obj h0 ho
  unfold ptrV at *
  replace hH := Lib.hid hH
  clear h ho
  go_enter Tryz.func45, Tryz.ntmps45
  go_wp2_with (go_at_call 20; refine hH.out.mono ?_; rintro e w1 ⟨rfl, rfl⟩)
  go_ret
  exact ⟨rfl, rfl⟩
theorem c_HUsed {w : World} {f : Nat → Nat} {hb B u : Nat} {lim : Int} {H : List OB} (h : HeapO w f hb lim u B H) :
    Calls Tryz.prog 14 #[ptrV hb] w fun e w' => e = .returned (.int .i64 (u : Int)) ∧ w' = w := by
  obtain ⟨rb, c, tb, c0, c1, c2, c3, c4, l1, l2, _⟩ := h.form
  unfold ptrV at *
  clear h
  go_enter Tryz.func14, Tryz.ntmps14
  go_wp2
  go_ret
  exact ⟨rfl, rfl⟩
end Go.Proofs.YtkbohoolnpaleaaGreatDoor
namespace Go.Proofs.YtkbohoolnpaleaaGreatDoor
open Go.RowKit Go.Shelf Go.Lib Go.Sort Go.Proofs Go.Maps
set_option maxHeartbeats 2000000
set_option maxRecDepth 100000

/-- a heap, of which all is named -/
def HeapX (w : World) (f : Nat → Nat) (hb : Nat) (lim : Int) (u B : Nat) (H : List OB) (tb : Nat) (L : List (List KK)) (rv : Value) (obs : List Nat) : Prop :=
  (w.heap[hb]? = some (.cells #[.int .i64 1, .int .i64 lim, .int .i64 (u : Int), ptrV tb, rv] 57 (0, 0)) ∧ f hb = 1) ∧ (TreeO w f tb L ∧ L.length ≤ B) ∧
    RowO w f 2 95 1 rv (H.length + 1) (objRow obs) ∧ (obs.length = H.length ∧ L[0]? = some []) ∧ ∀ (i : Nat) a, H[i]? = some a → ∃ ob, obs[i]? = some ob ∧ ObjO w f (10 + 2 * i) ob L B a
theorem HeapX.heap {w : World} {f : Nat → Nat} {hb B u tb : Nat} {lim : Int} {H : List OB} {L : List (List KK)} {rv : Value} {obs : List Nat} (h : HeapX w f hb lim u B H tb L rv obs) : HeapO w f hb lim u B H := ⟨tb, L, rv, obs, h⟩
/-- what a call on an object turns -/
def CO (i c : Nat) : Prop := c = 1 ∨ C3 c ∨ c = 10 + 2 * i ∨ c = 11 + 2 * i
theorem HeapX.upd {C : Nat → Prop} {w w' : World} {f f' : Nat → Nat} {hb B B' u u' tb i ob : Nat} {lim : Int} {H : List OB} {L L' : List (List KK)} {rv : Value} {obs : List Nat} {a a' : OB} (h : HeapX w f hb lim u B H tb L rv obs)
    (hi : H[i]? = some a) (ho : obs[i]? = some ob) (ht : Turn C f f' w w') (hC : ∀ c, C c → CO i c) (h1 : w'.heap[hb]? = some (.cells #[.int .i64 1, .int .i64 lim, .int .i64 (u' : Int), ptrV tb, rv] 57 (0, 0))) (hT : TreeO w' f' tb L') (hL : ∀ (j : Nat) ks, L[j]? = some ks → L'[j]? = some ks) (hLB : L'.length ≤ B') (hB : B ≤ B')
    (hO : ObjO w' f' (10 + 2 * i) ob L' B' a') : HeapX w' f' hb lim u' B' (H.set i a') tb L' rv obs := by
  obtain ⟨q1, q2, q3, q4, q5⟩ := h
  have hn : ∀ c, ¬ CO i c → ¬ C c := fun c hc h => hc (hC c h)
  have hlen : (H.set i a').length = H.length := by simp
  refine ⟨⟨h1, (ht.agree hb (heapH_lt q1.1)).trans q1.2⟩, ⟨hT, hLB⟩, ?_, ⟨by rw [hlen]; exact q4.1, hL 0 _ q4.2⟩, fun j b hj => ?_⟩
  · rw [hlen]
    exact q3.turn ht (hn 2 (by unfold CO C3; omega))
  · rw [List.getElem?_set] at hj
    by_cases e : i = j
    · subst e
      have hlt := (List.getElem?_eq_some_iff.1 hi).1
      rw [if_pos rfl, if_pos hlt] at hj
      obtain rfl := Option.some.inj hj
      exact ⟨ob, ho, hO⟩
    · rw [if_neg e] at hj
      obtain ⟨ob', r1, r2⟩ := q5 j b hj
      exact ⟨ob', r1, r2.keep ht (hn _ (by unfold CO C3; omega)) (hn _ (by unfold CO C3; omega)) hL hB⟩
theorem usedH_set {H : List OB} {i : Nat} {a a' : OB} (hi : H[i]? = some a) : usedH (H.set i a') + a.l.length = usedH H + a'.l.length := by
  unfold usedH
  rw [List.length_set]
  have : ∀ (H : List OB) (i : Nat), H[i]? = some a → ((H.set i a').map fun a => a.l.length).sum + a.l.length = (H.map fun a => a.l.length).sum + a'.l.length := by
    intro H
    induction H with
    | nil => intro i h; simp at h
    | cons b H ih =>
      intro i h
      cases i with
      | zero => simp at h; subst h; simp; omega
      | succ i =>
        have := ih i (by simpa using h)
        rw [List.set_cons_succ, List.map_cons, List.map_cons, List.sum_cons, List.sum_cons]
        omega
  have := this H i hi
  omega
theorem HeapX.obj {w : World} {f : Nat → Nat} {hb B u tb : Nat} {lim : Int} {H : List OB} {L : List (List KK)} {rv : Value} {obs : List Nat} (h : HeapX w f hb lim u B H tb L rv obs) {o : Nat} {a : OB} (h0 : 0 < o) (ha : H[o - 1]? = some a) :
    ∃ rb c ob many mv n, (w.cell? ⟨hb, 4, none⟩ = some (.slice (some ⟨rb, 0, none⟩) n c) ∧ (0 : Int) ≤ (o : Int) ∧ (o : Int) < (n : Int) ∧ w.cell? ⟨rb, o, none⟩ = some (.pointer (some ⟨ob, 0, none⟩))) ∧ obs[o - 1]? = some ob ∧
      (w.heap[ob]? = some (.cells #[.int .i64 a.cls, .int .i64 a.pro, .bool a.shut, .int .i64 many, mv] 94 (0, 0)) ∧ f ob = 11 + 2 * (o - 1)) ∧ ModeO w f (10 + 2 * (o - 1)) L B mv a.fast a.l ∧ (hb < w.heap.size ∧ rb < w.heap.size ∧ ob < w.heap.size) ∧ (ob ≠ hb ∧ rb ≠ hb ∧ ob ≠ rb) := by
  obtain ⟨q1, q2, q3, q4, q5⟩ := h
  obtain ⟨rb, c, rfl, _, hlt⟩ := q3.1.form (by omega)
  have hc := q3.1.cells (g := rb) rfl
  obtain ⟨ob, r1, many, mv, r2, r3⟩ := q5 _ a ha
  have e : o - 1 + 1 = o := by omega
  have c1 := hc (o - 1 + 1) _ (objRow_get r1)
  rw [Addr.add_lit, Nat.zero_add, e] at c1
  have := (List.getElem?_eq_some_iff.1 ha).1
  have rf := q3.2 rb rfl
  refine ⟨rb, c, ob, many, mv, _, ⟨by rw [cell_of_row _ _ 4 _ _ _ q1.1]; rfl, by omega, by omega, c1⟩, r1, ⟨r2.1, by rw [r2.2]; omega⟩, r3, ⟨heapH_lt q1.1, hlt, heapH_lt r2.1⟩, fun e => ?_, fun e => ?_, fun e => ?_⟩
  · rw [e] at r2; have := q1.2; have := r2.2; omega
  · rw [e] at rf; have := q1.2; omega
  · rw [e] at r2; have := r2.2; omega
/-- an object's own fields -/
theorem HeapX.field {w : World} {f : Nat → Nat} {hb B u tb j : Nat} {lim : Int} {H : List OB} {L : List (List KK)} {rv : Value} {obs : List Nat} (hN : Norm f w) (h : HeapX w f hb lim u B H tb L rv obs) {o : Nat} {a a' : OB} (h0 : 0 < o) (ha : H[o - 1]? = some a) {ob : Nat} (ho : obs[o - 1]? = some ob) {v : Value} {many : Int} {mv : Value}
    (hob : w.heap[ob]? = some (.cells #[.int .i64 a.cls, .int .i64 a.pro, .bool a.shut, .int .i64 many, mv] 94 (0, 0))) (hl : a'.l = a.l) (hf : a'.fast = a.fast) (hv : ∃ many', (#[.int .i64 a.cls, .int .i64 a.pro, .bool a.shut, .int .i64 many, mv] : Array Value).setIfInBounds j v = #[.int .i64 a'.cls, .int .i64 a'.pro, .bool a'.shut, .int .i64 many', mv]) :
    ∃ f', Turn (CO (o - 1)) f f' w (w.setCell ⟨ob, j, none⟩ v) ∧ HeapX (w.setCell ⟨ob, j, none⟩ v) f' hb lim u B (H.set (o - 1) a') tb L rv obs := by
  obtain ⟨rb, c, ob', many', mv', n, _, p1, p2, p3, p4, p5⟩ := h.obj h0 ha
  obtain rfl : ob' = ob := by rw [ho] at p1; exact (Option.some.inj p1).symm
  obtain ⟨rfl, rfl⟩ : many' = many ∧ mv' = mv := by
    have := p2.1
    rw [hob] at this
    simp at this
    exact ⟨this.1.symm, this.2.symm⟩
  have hX := h
  obtain ⟨q1, q2, q3, q4, q5⟩ := h
  have t1 : Turn (fun x => x = 11 + 2 * (o - 1)) f f w (w.setCell ⟨ob', j, none⟩ v) := (Turn.refl _ hN).set ob' j v p2.2
  obtain ⟨m2, hm2⟩ := hv
  refine ⟨f, t1.mono (fun x hx => by unfold CO; omega), hX.upd ha ho t1 (fun x hx => by unfold CO; omega) ?_ (q2.1.turn t1 (by omega) (by omega) (by omega) (by omega)) (fun _ _ h => h) q2.2 (Nat.le_refl _) ⟨m2, mv', ⟨?_, by rw [p2.2]; omega⟩, ?_⟩⟩
  · rw [Below.heap_setCell _ _ _ _ (fun e => p5.1 e.symm)]
    exact q1.1
  · rw [heap_setCell_same w ob' j _ _ _ hob, hm2]
  · rw [hl, hf]
    exact p3.keep t1 (by omega) (fun _ _ h => h) (Nat.le_refl _)
/-- a heap's tree -/
def TreeAt (w : World) (f : Nat → Nat) (hb tb : Nat) (L : List (List KK)) : Prop :=
  Norm f w ∧ (∃ (a b c : Value) (rv : Value), w.heap[hb]? = some (.cells #[a, b, c, ptrV tb, rv] 57 (0, 0)) ∧ f hb = 1) ∧ TreeO w f tb L
/-- a heap's tree only gets more shapes -/
def Grows (w : World) (f : Nat → Nat) (hb : Nat) (w' : World) (f' : Nat → Nat) : Prop :=
  ∀ (t : Nat) (L : List (List KK)), TreeAt w f hb t L → ∃ L', TreeAt w' f' hb t L' ∧ ∀ (i : Nat) ks, L[i]? = some ks → L'[i]? = some ks
theorem Grows.trans {w w' w'' : World} {f f' f'' : Nat → Nat} {hb : Nat} (h : Grows w f hb w' f') (h' : Grows w' f' hb w'' f'') : Grows w f hb w'' f'' := fun tb L hT => by
  obtain ⟨L1, h1, e1⟩ := h tb L hT
  obtain ⟨L2, h2, e2⟩ := h' tb L1 h1
  exact ⟨L2, h2, fun i ks hi => e2 i ks (e1 i ks hi)⟩
theorem TreeAt.turn {C : Nat → Prop} {w w' : World} {f f' : Nat → Nat} {hb tb : Nat} {L : List (List KK)} (h : TreeAt w f hb tb L) (ht : Turn C f f' w w') (hC : ∀ c, C c → c = 0 ∨ 9 < c) : TreeAt w' f' hb tb L := by
  obtain ⟨h1, ⟨a, b, c, rv, h2⟩, h3⟩ := h
  have hn : ∀ c, 0 < c → c ≤ 9 → ¬ C c := fun c h0 h9 h => by have := hC c h; omega
  exact ⟨ht.norm, ⟨a, b, c, rv, blk_turn h2 ht (hn _ (by omega) (by omega))⟩, h3.turn ht (hn _ (by omega) (by omega)) (hn _ (by omega) (by omega)) (hn _ (by omega) (by omega)) (hn _ (by omega) (by omega))⟩
theorem Grows.turn {C : Nat → Prop} {w w' : World} {f f' : Nat → Nat} {hb : Nat} (ht : Turn C f f' w w') (hC : ∀ c, C c → c = 0 ∨ 9 < c) : Grows w f hb w' f' := fun _ L hT => ⟨L, hT.turn ht hC, fun _ _ h => h⟩
theorem Grows.below {w w' : World} (f : Nat → Nat) {hb : Nat} (hb' : Below w.heap.size w w') : Grows w f hb w' f := fun _ L hT => ⟨L, hT.turn (Turn.of_below (fun _ => False) hT.1 hb') (fun _ h => h.elim), fun _ _ h => h⟩
theorem own_forms {w : World} {B size n : Nat} {e : TypeId} {v : Value} {xs : List Value} (h : w.ownsRow B e size v n xs) : (v = .slice none 0 0 ∧ n = 0) ∨ ∃ g cap, v = .slice (some ⟨g, 0, none⟩) n cap := by
  rcases h.2 with ⟨h1, h2⟩ | ⟨g, cap, cur, h1, _⟩
  · exact .inl ⟨h1, h2⟩
  · exact .inr ⟨g, cap, h1⟩
theorem row_inj {w : World} {B B' size n n' : Nat} {e : TypeId} {v : Value} {xs xs' : List Value} (h : w.ownsRow B e size v n xs) (h' : w.ownsRow B' e size v n' xs') : n = n' ∧ xs = xs' := by
  rcases own_forms h with ⟨e1, rfl⟩ | ⟨g, cap, e1⟩
  · rcases own_forms h' with ⟨e2, rfl⟩ | ⟨g', cap', e2⟩
    · have l1 := h.1
      have l2 := h'.1
      simp at l1 l2
      exact ⟨rfl, by rw [l1, l2]⟩
    · rw [e1] at e2; cases e2
  · rcases own_forms h' with ⟨e2, rfl⟩ | ⟨g', cap', e2⟩
    · rw [e1] at e2; cases e2
    · have e3 := e2
      rw [e1] at e3
      injection e3 with e4 e5 e6
      injection e4 with e4
      injection e4 with e4
      subst e4 e5 e6
      subst e1
      refine ⟨rfl, List.ext_getElem? fun j => ?_⟩
      by_cases hj : j < n * size
      · rw [← h.cellAt j hj, ← h'.cellAt j hj]
      · rw [List.getElem?_eq_none (by rw [h.1]; omega), List.getElem?_eq_none (by rw [h'.1]; omega)]
theorem flatE_inj {l : List (Value × Nat)} : ∀ {l' : List (Value × Nat)}, flatE l = flatE l' → l = l' := by
  induction l with
  | nil =>
    intro l' h
    cases l' with
    | nil => rfl
    | cons a l' => simp [flatE, encE] at h
  | cons a l ih =>
    intro l' h
    cases l' with
    | nil => simp [flatE, encE] at h
    | cons b l' =>
      simp only [flatE, List.flatMap_cons, encE, List.cons_append, List.nil_append, List.cons.injEq, Value.map.injEq, Option.some.injEq] at h
      obtain ⟨e1, e2, e3⟩ := h
      rw [ih e3, Prod.ext e1 e2]
theorem flatS_inj {l : List SL} : ∀ {l' : List SL}, flatS l = flatS l' → l = l' := by
  induction l with
  | nil =>
    intro l' h
    cases l' with
    | nil => rfl
    | cons a l' => simp [flatS, encS] at h
  | cons a l ih =>
    intro l' h
    cases l' with
    | nil => simp [flatS, encS] at h
    | cons b l' =>
      simp only [flatS, List.flatMap_cons, encS, List.cons_append, List.nil_append, List.cons.injEq, Value.string.injEq, Value.int.injEq, true_and] at h
      obtain ⟨e1, e2, e3, e4⟩ := h
      rw [ih e4, Prod.ext (Prod.ext e1 e2) e3]
theorem TreeO.inj {w : World} {f f' : Nat → Nat} {tb : Nat} {L L' : List (List KK)} (h : TreeO w f tb L) (h' : TreeO w f' tb L') : L = L' := by
  obtain ⟨rv, bw, n, ents, gw, ⟨q1, _⟩, ⟨q2, _⟩, q3, _, _, _, q7⟩ := h
  obtain ⟨rv', bw', n', ents', gw', ⟨p1, _⟩, ⟨p2, _⟩, p3, _, _, _, p7⟩ := h'
  rw [q1] at p1
  injection p1 with p1
  injection p1 with p1
  simp at p1
  obtain ⟨rfl, rfl⟩ := p1
  obtain ⟨hl, he⟩ := row_inj q2 p2
  obtain rfl := flatE_inj he
  refine List.ext_getElem? fun i => ?_
  cases hi : L[i]? with
  | none =>
    rw [List.getElem?_eq_none_iff] at hi
    exact (List.getElem?_eq_none (by omega)).symm
  | some ks =>
    have hlt : i < L'.length := by have := (List.getElem?_eq_some_iff.1 hi).1; omega
    have hi' : L'[i]? = some L'[i] := List.getElem?_eq_getElem hlt
    obtain ⟨e, a1, ss, _, _, ⟨a2, _⟩, a3, _⟩ := q7 i ks hi
    obtain ⟨e', b1, ss', _, _, ⟨b2, _⟩, b3, _⟩ := p7 i _ hi'
    rw [a1] at b1
    obtain rfl := Option.some.inj b1
    obtain ⟨_, hs⟩ := row_inj a2 b2
    obtain rfl := flatS_inj hs
    rw [hi', ← a3, ← b3]
theorem HeapX.grows {w w' : World} {f f' : Nat → Nat} {hb B B' u u' tb : Nat} {lim lim' : Int} {H H' : List OB} {L L' : List (List KK)} {rv rv' : Value} {obs obs' : List Nat} (hN : Norm f' w') (h : HeapX w f hb lim u B H tb L rv obs) (h' : HeapX w' f' hb lim' u' B' H' tb L' rv' obs') (hL : ∀ (i : Nat) ks, L[i]? = some ks → L'[i]? = some ks) : Grows w f hb w' f' := by
  rintro tb2 L2 ⟨_, ⟨a, b, c, rv2, e1, _⟩, e2⟩
  have h1 := h.1.1
  rw [h1] at e1
  injection e1 with e1
  injection e1 with e1
  simp [ptrV] at e1
  obtain ⟨_, _, _, rfl, _⟩ := e1
  obtain rfl := h.2.1.1.inj e2
  exact ⟨L', ⟨hN, ⟨_, _, _, _, h'.1⟩, h'.2.1.1⟩, hL⟩
/-- a heap after one object has turned -/
def HeapT (w : World) (f : Nat → Nat) (hb : Nat) (lim : Int) (u B : Nat) (H' : List OB) (w' : World) : Prop := ∃ f', Turn (fun c => c ≠ 9 ∧ c ≠ 0) f f' w w' ∧ HeapO w' f' hb lim u B H' ∧ Grows w f hb w' f'
theorem CO_ne9 {i : Nat} : ∀ c, CO i c → c ≠ 9 ∧ c ≠ 0 := fun c h => by unfold CO C3 at h; omega
theorem HeapT.same {w w' : World} {f : Nat → Nat} {hb B u : Nat} {lim : Int} {H : List OB} (hN : Norm f w) (h : HeapO w f hb lim u B H) (hb' : Below w.heap.size w w') : HeapT w f hb lim u B H w' := ⟨f, Turn.of_below _ hN hb', h.below hN hb', Grows.below f hb'⟩
end Go.Proofs.YtkbohoolnpaleaaGreatDoor

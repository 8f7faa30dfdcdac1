/-
  Contracts: A way is followed, or a new shape is made. A region in which a way is followed; Add. The contract of Add. Cells of rows that are set; the contract of Change.
-/
import Derived.Test.YtkbohoolnpaleaaGreatDoorW8
import Derived.Deep.RegionLawGrows
namespace Go.Proofs.YtkbohoolnpaleaaGreatDoor
open Go.RowKit Go.Shelf Go.Lib Go.Sort Go.Proofs Go.Maps
set_option maxHeartbeats 1000000
set_option maxRecDepth 100000

theorem look_W {w : World} {f : Nat → Nat} {c b n : Nat} {g : Lit → Option Int} (h : MapO w f c 277 b n g) (fr : Int) (ch : Bool) (x : KK) (fl : Int) (hx : okK x) (hf : (Lit.int .i64 fr).wf = true) (hg : (Lit.int .i64 fl).wf = true) :
    ∃ z : Int, (∀ i, g (klW fr ch x fl) = some i → z = i) ∧ ∀ y : World, y.heap[b]? = w.heap[b]? → (Instr.lookup 80 (.map (some b)) (.agg #[.int .i64 fr, .bool ch, .string x.1, .int .i64 x.2, .int .i64 fl]) true).run Tryz.prog y = .ok (.tuple #[.int .i64 z, .bool (g (klW fr ch x fl)).isSome]) y := by
  obtain ⟨⟨D, ⟨es, cl, h1, h2⟩, h3, h4⟩, h5⟩ := h
  have hz : plainElem (H := Unit) Tryz.prog 3 (.int .i64 0) = some (.lit (.int .i64 0), []) := plainElem_int Tryz.underlying3 (by decide)
  have key : ∀ y : World, y.heap[b]? = w.heap[b]? → ∃ z : Int, D.atKey (klW fr ch x fl) (.lit (.int .i64 0)) = .lit (.int .i64 z) ∧ (Instr.lookup 80 (.map (some b)) (.agg #[.int .i64 fr, .bool ch, .string x.1, .int .i64 x.2, .int .i64 fl]) true).run Tryz.prog y = .ok (.tuple #[.int .i64 z, .bool (g (klW fr ch x fl)).isSome]) y := by
    intro y hy
    have hm : y.ownsMap Tryz.prog 277 (plainElem Tryz.prog 3) b (Maps.size D) D := ⟨es, cl, hy.trans h1, h2⟩
    obtain ⟨v, ps, hr, hv⟩ := hm.look_ok lawWay Tryz.underlying80 (zeroIntH y) hz (keyOf_W fr ch x fl hx hf hg)
    obtain ⟨z, rfl, hzz, _⟩ := plainElem_int_inv Tryz.underlying3 hv
    refine ⟨z, congrArg Prod.fst hzz, ?_⟩
    rw [← (h3 (klW fr ch x fl)).1]
    exact hr
  obtain ⟨z, hz1, _⟩ := key w rfl
  refine ⟨z, fun i hi => ?_, fun y hy => ?_⟩
  · have := (h3 (klW fr ch x fl)).2 i hi
    rw [hz1] at this
    injection this with this
    injection this
  · obtain ⟨z', hz2, hr⟩ := key y hy
    rw [hz1] at hz2
    injection hz2 with hz2
    injection hz2 with _ hz2
    subst hz2
    exact hr
/-- y has all that W has, but for the map in block b -/
theorem but_drew (W : World) (b : Nat) : (∀ a : Addr, a.block < W.heap.size → a.block ≠ b → W.drew.cell? a = W.cell? a) ∧ W.grownBy W.drew (some b) := ⟨fun _ _ _ => rfl, ⟨rfl, rfl, rfl, Nat.le_refl _, fun _ _ _ => rfl⟩⟩
theorem but_below {W y y' : World} {b : Nat} (h : (∀ a : Addr, a.block < W.heap.size → a.block ≠ b → y.cell? a = W.cell? a) ∧ W.grownBy y (some b)) (hb : Below y.heap.size y y') :
    (∀ a : Addr, a.block < W.heap.size → a.block ≠ b → y'.cell? a = W.cell? a) ∧ W.grownBy y' (some b) := by
  obtain ⟨h1, h2⟩ := h
  exact ⟨fun a ha hne => by rw [hb.cell (Nat.lt_of_lt_of_le ha h2.size)]; exact h1 a ha hne, ⟨hb.os.trans h2.os, hb.tape.trans h2.tape, hb.output.trans h2.output, Nat.le_trans h2.size hb.size, fun r hr hne => (hb.block r (Nat.lt_of_lt_of_le hr h2.size)).trans (h2.block r hr hne)⟩⟩
theorem but_turned {W y y' : World} {b : Nat} (h : (∀ a : Addr, a.block < W.heap.size → a.block ≠ b → y.cell? a = W.cell? a) ∧ W.grownBy y (some b)) (ht : y.mapTurned y' b) :
    (∀ a : Addr, a.block < W.heap.size → a.block ≠ b → y'.cell? a = W.cell? a) ∧ W.grownBy y' (some b) := by
  obtain ⟨h1, h2⟩ := h
  have hg := ht.grown
  exact ⟨fun a ha hne => (World.cell?_of_block (hg.block a.block (Nat.lt_of_lt_of_le ha h2.size) (fun e => hne (Option.some.inj e)))).trans (h1 a ha hne), ⟨hg.os.trans h2.os, hg.tape.trans h2.tape, hg.output.trans h2.output, Nat.le_trans h2.size hg.size, fun r hr hne => (hg.block r (Nat.lt_of_lt_of_le hr h2.size) hne).trans (h2.block r hr hne)⟩⟩
/-- S of a region in which a map is written: all else is W's, the map is as it was or has one pair more -/
def ButU (W : World) (k : TypeId) (b n : Nat) (g : Lit → Option Int) (kl : Lit) (v : Int) (y : World) : Prop :=
  ((∀ a : Addr, a.block < W.heap.size → a.block ≠ b → y.cell? a = W.cell? a) ∧ W.grownBy y (some b)) ∧ MapU y k b n g kl v ∧ b < W.heap.size
theorem MapU.at {w w' : World} {k : TypeId} {b n : Nat} {g : Lit → Option Int} {kl : Lit} {v : Int} (h : MapU w k b n g kl v) (hb : w'.heap[b]? = w.heap[b]?) : MapU w' k b n g kl v := by
  rcases h with h | ⟨g', h, r⟩
  · exact .inl (h.at hb)
  · exact .inr ⟨g', h.at hb, r⟩
theorem MapU.lt {w : World} {k : TypeId} {b n : Nat} {g : Lit → Option Int} {kl : Lit} {v : Int} (h : MapU w k b n g kl v) : b < w.heap.size := by
  rcases h with h | ⟨g', h, r⟩
  · exact h.lt
  · exact h.lt
theorem butU_start {W : World} {k : TypeId} {b n : Nat} {g : Lit → Option Int} {kl : Lit} {v : Int} (h : MapU W k b n g kl v) :
    ((∀ a : Addr, a.block < W.heap.size → a.block ≠ b → W.drew.cell? a = W.cell? a) ∧ W.grownBy W.drew (some b)) ∧ MapU W.drew k b n g kl v ∧ b < W.heap.size := ⟨but_drew W b, h.at rfl, h.lt⟩
theorem butU_below {W y y' : World} {k : TypeId} {b n : Nat} {g : Lit → Option Int} {kl : Lit} {v : Int} (h : ((∀ a : Addr, a.block < W.heap.size → a.block ≠ b → y.cell? a = W.cell? a) ∧ W.grownBy y (some b)) ∧ MapU y k b n g kl v ∧ b < W.heap.size) (hb : Below y.heap.size y y') :
    ((∀ a : Addr, a.block < W.heap.size → a.block ≠ b → y'.cell? a = W.cell? a) ∧ W.grownBy y' (some b)) ∧ MapU y' k b n g kl v ∧ b < W.heap.size := ⟨but_below h.1 hb, h.2.1.at (hb.block b h.2.1.lt), h.2.2⟩
theorem butU_turn {W y y' : World} {k : TypeId} {b n : Nat} {g : Lit → Option Int} {kl : Lit} {v : Int} (h : ((∀ a : Addr, a.block < W.heap.size → a.block ≠ b → y.cell? a = W.cell? a) ∧ W.grownBy y (some b)) ∧ MapU y k b n g kl v ∧ b < W.heap.size)
    (hU : (∃ g', MapG y' k b (n + 1) g' ∧ g' kl = some v ∧ ∀ l, l ≠ kl → g' l = g l) ∧ y.mapTurned y' b) :
    ((∀ a : Addr, a.block < W.heap.size → a.block ≠ b → y'.cell? a = W.cell? a) ∧ W.grownBy y' (some b)) ∧ MapU y' k b n g kl v ∧ b < W.heap.size := ⟨but_turned h.1 hU.2, .inr hU.1, h.2.2⟩
/-- where a shape is being made: the first i slots stand in the new map -/
def FolI (w : World) (wb mb xb : Nat) (wy : Array Value) (sv : Value) (ks : List KK) (i : Nat) (wr : World) : Prop :=
  (Below w.heap.size w wr ∧ w.heap.size ≤ wb ∧ w.heap.size ≤ mb ∧ w.heap.size ≤ xb ∧ wb ≠ mb ∧ xb ≠ mb) ∧ wr.heap[wb]? = some (.cells wy 277 (0, 0)) ∧ wr.heap[xb]? = some (.cells #[sv, .map (some mb)] 78 (0, 0)) ∧
    ∃ g, MapG wr 43 mb i g ∧ ∀ x, okK x → g (klK x) = (idx (ks.take i) x).map Int.ofNat
theorem FolI.step {w wr W y : World} {wb mb xb : Nat} {wy : Array Value} {sv : Value} {ks : List KK} {i : Nat} {K : KK} {o : Obj} (h : FolI w wb mb xb wy sv ks i wr) (hW : wr.alloc o = W) (hK : ks[i]? = some K) (hn : ks.Nodup) (ho : okK K)
    {g : Lit → Option Int} (hg : ∀ x, okK x → g (klK x) = (idx (ks.take i) x).map Int.ofNat)
    (hb : W.grownBy y (some mb)) (hy : ∃ g', MapG y 43 mb (i + 1) g' ∧ g' (klK K) = some (i : Int) ∧ ∀ l, l ≠ klK K → g' l = g l) : FolI w wb mb xb wy sv ks (i + 1) y := by
  subst hW
  obtain ⟨⟨h1, l1, l2, l3, l4, l5⟩, h2, h3, _⟩ := h
  obtain ⟨g', q1, q2, q3⟩ := hy
  have hal : Below w.heap.size w (wr.alloc o) := h1.alloc h1.size o
  have hlt2 := heapH_lt h2
  have hlt3 := heapH_lt h3
  refine ⟨⟨⟨hb.os.trans hal.os, hb.tape.trans hal.tape, hb.output.trans hal.output, Nat.le_trans hal.size hb.size, fun r hr => (hb.block r (Nat.lt_of_lt_of_le hr hal.size) (fun e => by have := Option.some.inj e; omega)).trans (hal.block r hr)⟩, l1, l2, l3, l4, l5⟩, ?_, ?_, g', q1, ?_⟩
  · rw [hb.block _ (by simp; omega) (fun e => l4 (Option.some.inj e)), Below.heap_alloc _ _ _ hlt2]; exact h2
  · rw [hb.block _ (by simp; omega) (fun e => l5 (Option.some.inj e)), Below.heap_alloc _ _ _ hlt3]; exact h3
  · intro x hx
    have hi := (List.getElem?_eq_some_iff.1 hK).1
    have htk : ks.take (i + 1) = ks.take i ++ [K] := by rw [List.take_add_one, hK]; rfl
    have hlen : (ks.take i).length = i := by simp; omega
    rw [htk, idx_snoc, hlen]
    by_cases e : x = K
    · subst e
      have hnot : idx (ks.take i) x = none := by
        rw [idx_none]
        intro hm
        rw [← List.take_append_drop i ks, List.nodup_append] at hn
        have hd : x ∈ ks.drop i := by
          have : (ks.drop i)[0]? = some x := by simp [hK]
          exact List.mem_of_getElem? this
        exact hn.2.2 x hm x hd rfl
      rw [q2, hnot]
      simp
    · have e' : klK x ≠ klK K := fun h => e (klK_inj hx ho h)
      rw [q3 _ e', hg x hx]
      have e2 : ¬ K = x := fun h => e h.symm
      cases idx (ks.take i) x <;> simp [e2]
theorem FolI.start {w W : World} {wb : Nat} {wy : Array Value} (sv : Value) (ks : List KK) (h : Below w.heap.size w W) (hw : W.heap[wb]? = some (.cells wy 277 (0, 0))) (hl : w.heap.size ≤ wb) :
    FolI w wb W.heap.size (W.heap.size + 1) wy sv ks 0 ((W.alloc (.map #[] 0)).alloc (.cells #[sv, .map (some W.heap.size)] 78)).drew := by
  have b := ((h.alloc h.size (.map #[] 0)).alloc (by simp; exact Nat.le_succ_of_le h.size) (.cells #[sv, .map (some W.heap.size)] 78))
  have hlt := heapH_lt hw
  refine ⟨⟨b.drew, hl, h.size, Nat.le_succ_of_le h.size, by omega, by omega⟩, ?_, ?_, fun _ => none, ?_, fun x _ => by simp [idx]⟩
  · show ((W.alloc (.map #[] 0)).alloc _).heap[wb]? = _
    rw [Below.heap_alloc _ _ _ (by simp; omega), Below.heap_alloc _ _ _ hlt]
    exact hw
  · exact heap_alloc2_new W _ _
  · have h1 : MapG (W.alloc (.map #[] 0)) 43 W.heap.size 0 (fun _ => none) := MapG.made _ _ _
    exact h1.at (by show ((W.alloc (.map #[] 0)).alloc _).heap[W.heap.size]? = _; rw [Below.heap_alloc _ _ _ (by simp)])
theorem FolI.cells {w wr : World} {wb mb xb : Nat} {wy : Array Value} {sv : Value} {ks : List KK} {i : Nat} (h : FolI w wb mb xb wy sv ks i wr) :
    wr.cell? ⟨xb, 0, none⟩ = some sv ∧ wr.cell? ⟨xb, 1, none⟩ = some (.map (some mb)) ∧ xb < wr.heap.size ∧ mb < wr.heap.size ∧ xb ≠ mb ∧ w.heap.size ≤ mb ∧ Below w.heap.size w wr := by
  obtain ⟨⟨h1, l1, l2, l3, l4, l5⟩, h2, h3, g, h4, _⟩ := h
  refine ⟨?_, ?_, heapH_lt h3, h4.lt, l5, l2, h1⟩
  · rw [cell_of_row _ _ 0 _ _ _ h3]; rfl
  · rw [cell_of_row _ _ 1 _ _ _ h3]; rfl
/-- the tree's ways tell where a way leads -/
def WayAt (w : World) (tb : Nat) (kl : Lit) (t : Nat) : Prop :=
  ∃ (rv : Value) (bw n : Nat) (gw : Lit → Option Int), w.heap[tb]? = some (.cells #[.int .i64 1, rv, .map (some bw)] 82 (0, 0)) ∧ MapG w 277 bw n gw ∧ gw kl = some (t : Int)
theorem WayAt.keep {w w' : World} {tb : Nat} {kl : Lit} {t : Nat} (h : WayAt w tb kl t) (hb : Below w.heap.size w w') : WayAt w' tb kl t := by
  obtain ⟨rv, bw, n, gw, h1, h2, h3⟩ := h
  exact ⟨rv, bw, n, gw, (hb.block tb (heapH_lt h1)).trans h1, h2.at (hb.block bw h2.lt), h3⟩
theorem ownB_of {w : World} {B e size n gg : Nat} {v : Value} {xs : List Value} (h : w.ownsRow B e size v n xs) (hb : v.ownBlock = some gg) : gg < w.heap.size := (h.lt gg hb).2
theorem fol_done {w wr w5 w7 : World} {f : Nat → Nat} {tb bw n wb mb xb gg cap : Nat} {rv sv : Value} {L : List (List KK)} {ents : List (Value × Nat)} {gw : Lit → Option Int} {wy : Array Value} {ss : List SL} {o : Obj} {T A : List KK} {a : Nat} {ch : Bool} {k : KK} {fl : Int}
    (hN : Norm f w) (q1 : w.heap[tb]? = some (.cells #[.int .i64 1, rv, .map (some bw)] 82 (0, 0)) ∧ f tb = 3) (q2 : RowO w f 4 78 2 rv L.length (flatE ents)) (q3 : ents.length = L.length) (q4 : MapO w f 5 277 bw n gw) 
    (q6 : ∀ (a : Int) (ch : Bool) (k : KK) (fl t : Int), okK k → (Lit.int .i64 a).wf = true → (Lit.int .i64 fl).wf = true → gw (klW a ch k fl) = some t → ∃ (i j : Nat) (A : List KK), a = i ∧ t = j ∧ L[i]? = some A ∧ L[j]? = some (if ch then A else A ++ [k]))
    (q7 : ∀ (i : Nat) (ks : List KK), L[i]? = some ks → ∃ e : Value × Nat, ents[i]? = some e ∧ ShapeO w f e.1 e.2 ks)
    (hA : L[a]? = some A) (hk : okK k) (hwa : (Lit.int .i64 (a : Int)).wf = true) (hfl : (Lit.int .i64 fl).wf = true) (hT : T = if ch then A else A ++ [k])
    (hsv : RowO w f 9 225 3 sv ss.length (flatS ss)) (hks : ss.map (fun x => pk x.1) = T) (hok : ∀ x ∈ ss, okK x.1) (hnd : T.Nodup)
    (hF : FolI w wb mb xb wy sv T T.length wr) (hg5 : (wr.alloc o).grownBy w5 rv.ownBlock) (hat : rv.ownBlock = some gg ∨ gg = wr.heap.size + 1)
    (hown5 : w5.ownsRow 0 78 2 (.slice (some ⟨gg, 0, none⟩) (L.length + 1) cap) (L.length + 1) (flatE ents ++ [sv, .map (some mb)]))
    (hg7 : (w5.setCell ⟨tb, 1, none⟩ (.slice (some ⟨gg, 0, none⟩) (L.length + 1) cap)).grownBy w7 (some bw))
    (hm7 : ∃ g', MapG w7 277 bw (L.length + 1) g' ∧ g' (klW (a : Int) ch k fl) = some (L.length : Int) ∧ ∀ l, l ≠ klW (a : Int) ch k fl → g' l = gw l) :
    ∃ f', Turn (fun c => c = 3 ∨ c = 4 ∨ c = 5) f f' w w7 ∧ TreeO w7 f' tb (L ++ [T]) ∧ WayAt w7 tb (klW (a : Int) ch k fl) L.length := by
  obtain ⟨⟨b1, l1, l2, l3, l4, l5⟩, h2, h3, g, h4, h5⟩ := hF
  have htb := heapH_lt q1.1
  have hbw := q4.lt
  have ntb : rv.ownBlock ≠ some tb := fun e => by have := q2.2 tb e; rw [q1.2] at this; omega
  have nbw : rv.ownBlock ≠ some bw := fun e => by have := q2.2 bw e; rw [q4.2] at this; omega
  have ntw : tb ≠ bw := fun e => by have := q1.2; rw [e, q4.2] at this; omega
  have hsz : wr.heap.size < (wr.alloc o).heap.size := by simp
  have keep5 : ∀ r, r < w.heap.size → rv.ownBlock ≠ some r → w5.heap[r]? = w.heap[r]? := fun r hr hne => by
    have hr2 := Nat.lt_of_lt_of_le hr b1.size
    rw [hg5.block r (by omega) (fun e => hne e.symm), Below.heap_alloc _ _ _ hr2]
    exact b1.block r hr
  have keep7 : ∀ r, r < w5.heap.size → r ≠ tb → r ≠ bw → w7.heap[r]? = w5.heap[r]? := fun r hr h1 h2 => by
    rw [hg7.block r (by simpa [World.setCell] using hr) (fun e => h2 (Option.some.inj e))]
    exact Below.heap_setCell _ _ _ _ h1
  have s5 : wr.heap.size + 1 ≤ w5.heap.size := by have := hg5.size; simp at this; exact this
  have s7 : w5.heap.size ≤ w7.heap.size := by have := hg7.size; simpa [World.setCell] using this
  have sw := b1.size
  have hgg5 : gg < w5.heap.size := (hown5.lt gg rfl).2
  have hggn : gg < w.heap.size → rv.ownBlock = some gg := fun h => by
    rcases hat with h1 | h1
    · exact h1
    · omega
  have hgt : gg ≠ tb := by
    rcases hat with h1 | h1
    · exact fun e => ntb (e ▸ h1)
    · omega
  have hgb : gg ≠ bw := by
    rcases hat with h1 | h1
    · exact fun e => nbw (e ▸ h1)
    · omega
  have hmbr := h4.lt
  have hgm : gg ≠ mb := by
    rcases hat with h1 | h1
    · have := ownB_of q2.1 h1; omega
    · omega
  have tF : Turn (fun c => c = 3 ∨ c = 4 ∨ c = 5) f (give f w w7 (fun r => if r = gg then 4 else 9)) w w7 := by
    refine (Turn.refl _ hN).give _ ?_ ?_ ?_ (by omega) ?_
    · exact hg7.os.trans (hg5.os.trans b1.os)
    · exact hg7.tape.trans (hg5.tape.trans b1.tape)
    · exact hg7.output.trans (hg5.output.trans b1.output)
    · intro r hr hc
      have n1 : r ≠ tb := fun e => hc (by rw [e, q1.2]; exact .inl rfl)
      have n2 : r ≠ bw := fun e => hc (by rw [e, q4.2]; exact .inr (.inr rfl))
      have n3 : rv.ownBlock ≠ some r := fun e => hc (by rw [q2.2 r e]; exact .inr (.inl rfl))
      rw [keep7 r (by omega) n1 n2]
      exact keep5 r hr n3
  obtain ⟨g7, m1, m2, m3⟩ := hm7
  have htb7 : w7.heap[tb]? = some (.cells #[.int .i64 1, .slice (some ⟨gg, 0, none⟩) (L.length + 1) cap, .map (some bw)] 82 (0, 0)) := by
    have e5 : w5.heap[tb]? = some (.cells #[.int .i64 1, rv, .map (some bw)] 82 (0, 0)) := (keep5 tb htb ntb).trans q1.1
    rw [hg7.block tb (by simp [World.setCell]; omega) (fun e => ntw (Option.some.inj e)), heap_setCell_same w5 tb 1 _ _ _ e5]
    rfl
  refine ⟨_, tF, ⟨.slice (some ⟨gg, 0, none⟩) (L.length + 1) cap, bw, L.length + 1, ents ++ [(sv, mb)], g7, ?_⟩, ⟨_, bw, L.length + 1, g7, htb7, m1, m2⟩⟩
  have hlen : (L ++ [T]).length = L.length + 1 := by simp
  have hget : ∀ (i : Nat) ks, L[i]? = some ks → (L ++ [T])[i]? = some ks := fun i ks h => by
    rw [List.getElem?_append_left (List.getElem?_eq_some_iff.1 h).1]; exact h
  have hlast : (L ++ [T])[L.length]? = some T := by simp
  refine ⟨⟨?_, ?_⟩, ⟨?_, ?_⟩, by simp [q3], ⟨m1, ?_⟩, by simp, ?_, ?_⟩
  · exact htb7
  · rw [tF.agree tb htb]; exact q1.2
  · rw [hlen]
    have e : flatE (ents ++ [(sv, mb)]) = flatE ents ++ [sv, .map (some mb)] := by simp [flatE, encE]
    rw [e]
    exact own_at hown5 fun r hr => by
      simp [Value.ownBlock] at hr
      subst hr
      exact keep7 gg hgg5 hgt hgb
  · intro r hr
    simp [Value.ownBlock] at hr
    subst hr
    rcases Nat.lt_or_ge gg w.heap.size with hlt | hge
    · rw [tF.agree gg hlt]; exact q2.2 gg (hggn hlt)
    · rw [give_new hge (by omega)]; simp
  · rw [tF.agree bw hbw]; exact q4.2
  · intro a' ch' k' fl' t hk' hwa' hfl' ht
    by_cases e : klW a' ch' k' fl' = klW (a : Int) ch k fl
    · obtain ⟨rfl, rfl, rfl, rfl⟩ := klW_inj hk' hk hwa' hwa hfl' hfl e
      rw [m2] at ht
      exact ⟨a, L.length, A, rfl, (Option.some.inj ht).symm, hget _ _ hA, by rw [← hT]; exact hlast⟩
    · rw [m3 _ e] at ht
      obtain ⟨i, j, A', r1, r2, r3, r4⟩ := q6 _ _ _ _ _ hk' hwa' hfl' ht
      exact ⟨i, j, A', r1, r2, hget _ _ r3, hget _ _ r4⟩
  · intro i ks hi
    rcases Nat.lt_or_ge i L.length with hlt | hge
    · rw [List.getElem?_append_left hlt] at hi
      obtain ⟨e, he, hS⟩ := q7 i ks hi
      exact ⟨e, by rw [List.getElem?_append_left (by omega)]; exact he, hS.turn tF (by omega)⟩
    · have hi' := (List.getElem?_eq_some_iff.1 hi).1
      rw [hlen] at hi'
      obtain rfl : i = L.length := by omega
      rw [hlast] at hi
      obtain rfl := Option.some.inj hi
      refine ⟨(sv, mb), by simp [← q3], ss, g, T.length, hsv.turn tF (by omega), hks, hok, hnd, ⟨?_, ?_⟩, Nat.le_refl _, fun x hx => by rw [h5 x hx, List.take_length]⟩
      · refine h4.at ?_
        have nb : mb ≠ bw := by omega
        have nt : mb ≠ tb := by omega
        rw [keep7 mb (by omega) nt nb, hg5.block mb (by omega) (fun e => by have := ownB_of q2.1 e.symm; omega), Below.heap_alloc _ _ _ hmbr]
      · rw [give_new l2 (by omega)]
        have : ¬ mb = gg := fun e => hgm e.symm
        simp [this]
theorem MapG.mono {w : World} {k : TypeId} {b n m : Nat} {g : Lit → Option Int} (h : MapG w k b n g) (hn : n ≤ m) : MapG w k b m g := by
  obtain ⟨D, h1, h2, h3⟩ := h
  exact ⟨D, h1, h2, Nat.le_trans h3 hn⟩
theorem grown_undrew {w w' : World} {r : Option Nat} (h : w.drew.grownBy w' r) : w.grownBy w' r := ⟨h.os, h.tape, h.output, h.size, h.block⟩
theorem fol_mid {w wr w5 : World} {f : Nat → Nat} {tb bw n wb mb xb gg cap : Nat} {rv sv : Value} {L : List (List KK)} {ents : List (Value × Nat)} {gw : Lit → Option Int} {wy : Array Value} {o : Obj} {T : List KK} {i : Nat}
    (q1 : w.heap[tb]? = some (.cells #[.int .i64 1, rv, .map (some bw)] 82 (0, 0)) ∧ f tb = 3) (q2 : RowO w f 4 78 2 rv L.length (flatE ents)) (q4 : MapO w f 5 277 bw n gw) (q5 : n ≤ L.length)
    (hF : FolI w wb mb xb wy sv T i wr) (hg5 : (wr.alloc o).grownBy w5 rv.ownBlock) (kl : Lit) :
    (w5.setCell ⟨tb, 1, none⟩ (.slice (some ⟨gg, 0, none⟩) (L.length + 1) cap)).heap[tb]? = some (.cells #[.int .i64 1, .slice (some ⟨gg, 0, none⟩) (L.length + 1) cap, .map (some bw)] 82 (0, 0)) ∧
    (w5.setCell ⟨tb, 1, none⟩ (.slice (some ⟨gg, 0, none⟩) (L.length + 1) cap)).heap[wb]? = some (.cells wy 277 (0, 0)) ∧ wb ≠ bw ∧ tb ≠ bw ∧
    MapU (w5.setCell ⟨tb, 1, none⟩ (.slice (some ⟨gg, 0, none⟩) (L.length + 1) cap)) 277 bw L.length gw kl (L.length : Int) := by
  obtain ⟨⟨b1, l1, l2, l3, l4, l5⟩, h2, h3, g, h4, h5⟩ := hF
  have htb := heapH_lt q1.1
  have hbw := q4.lt
  have ntb : rv.ownBlock ≠ some tb := fun e => by have := q2.2 tb e; rw [q1.2] at this; omega
  have nbw : rv.ownBlock ≠ some bw := fun e => by have := q2.2 bw e; rw [q4.2] at this; omega
  have ntw : tb ≠ bw := fun e => by have := q1.2; rw [e, q4.2] at this; omega
  have nwb : rv.ownBlock ≠ some wb := fun e => by have := ownB_of q2.1 e; omega
  have keep5 : ∀ r, r < wr.heap.size → rv.ownBlock ≠ some r → w5.heap[r]? = wr.heap[r]? := fun r hr hne => by
    rw [hg5.block r (by simp; omega) (fun e => hne e.symm), Below.heap_alloc _ _ _ hr]
  have sw := b1.size
  refine ⟨?_, ?_, by omega, ntw, .inl ?_⟩
  · have e5 : w5.heap[tb]? = some (.cells #[.int .i64 1, rv, .map (some bw)] 82 (0, 0)) := ((keep5 tb (by omega) ntb).trans (b1.block tb htb)).trans q1.1
    rw [heap_setCell_same w5 tb 1 _ _ _ e5]
    rfl
  · rw [Below.heap_setCell _ _ _ _ (show wb ≠ tb by omega), keep5 wb (heapH_lt h2) nwb]; exact h2
  · refine (q4.1.mono q5).at ?_
    rw [Below.heap_setCell _ _ _ _ (show bw ≠ tb from fun e => ntw e.symm), keep5 bw (by omega) nbw]
    exact b1.block bw hbw
theorem infoShape : (Tryz.prog.info? 78).map (fun i => (i.zero, i.size, i.bytes)) = some (some (.agg #[.slice none 0 0, .map none]), 2, 32) := by kernel_rfl
theorem tb_after {w w5 : World} {tb i : Nat} {rv u : Value} {o : Obj} (hc : w.cell? ⟨tb, i, none⟩ = some u) (hf : w.frozen? ⟨tb, i, none⟩ = false) (hl : tb < w.heap.size) (hn : rv.ownBlock ≠ some tb) (hg : (w.alloc o).drew.grownBy w5 rv.ownBlock) :
    w5.cell? ⟨tb, i, none⟩ = some u ∧ w5.frozen? ⟨tb, i, none⟩ = false := by
  have h : w5.heap[tb]? = w.heap[tb]? := (hg.block tb (by simp; omega) (fun e => hn e.symm)).trans (Below.heap_alloc w _ _ hl)
  exact ⟨(World.cell?_of_block (w := w) h).trans hc, (World.frozen?_of_block (w := w) h).trans hf⟩
theorem c_SfollowY {w : World} {tb : Nat} (a : Nat) (ch : Bool) (k : KK) (hk : okK k) (fl : Int) (hfl : (Lit.int .i64 fl).wf = true) (hwa : (Lit.int .i64 (a : Int)).wf = true) (sv : Value) (j : Nat) (h : WayAt w tb (klW (a : Int) ch k fl) j) :
    Calls Tryz.prog 202 #[.pointer (some ⟨tb, 0, none⟩), .agg #[.int .i64 (a : Int), .bool ch, .string k.1, .int .i64 k.2, .int .i64 fl], sv] w fun e w' => e = .returned (.tuple #[.int .i64 (j : Int), .int .i64 0]) ∧ Below w.heap.size w w' := by
  obtain ⟨rv, bw, n, gw, q1, q4, hgw⟩ := h
  obtain ⟨z, hz, hlk⟩ := look_W (f := fun _ => 0) (c := 0) ⟨q4, rfl⟩ (a : Int) ch k fl hk hwa hfl
  have hal : Below w.heap.size w (w.alloc (.cells #[.int .i64 (a : Int), .bool ch, .string k.1, .int .i64 k.2, .int .i64 fl] 277)) := (Below.refl _ w).alloc (Nat.le_refl _) _
  have c2 : w.cell? ⟨tb, 2, none⟩ = some (.map (some bw)) := by rw [cell_of_row w tb 2 _ _ _ q1]; rfl
  have l1 := heapH_lt q1
  have l2 := q4.lt
  have hwb := heap_alloc_new w (.cells #[.int .i64 (a : Int), .bool ch, .string k.1, .int .i64 k.2, .int .i64 fl] 277)
  have hsz : (w.alloc (.cells #[.int .i64 (a : Int), .bool ch, .string k.1, .int .i64 k.2, .int .i64 fl] 277)).heap.size = w.heap.size + 1 := by simp
  rw [hgw] at hlk hz
  dsimp only [Option.isSome] at hlk
  obtain rfl := hz _ rfl
  clear hz q1 q4 hgw hwa hfl hk
  go_enter Tryz.func202, Tryz.ntmps202
  go_wp2_with fail
  generalize w.alloc (.cells #[.int .i64 (a : Int), .bool ch, .string k.1, .int .i64 k.2, .int .i64 fl] 277) = W at *
  have e0 : W.cell? ⟨w.heap.size, 0, none⟩ = some (.int .i64 (a : Int)) := by rw [cell_of_row _ w.heap.size 0 _ _ _ hwb]; rfl
  have e1 : W.cell? ⟨w.heap.size, 1, none⟩ = some (.bool ch) := by rw [cell_of_row _ w.heap.size 1 _ _ _ hwb]; rfl
  have e2 : W.cell? ⟨w.heap.size, 2, none⟩ = some (.string k.1) := by rw [cell_of_row _ w.heap.size 2 _ _ _ hwb]; rfl
  have e3 : W.cell? ⟨w.heap.size, 3, none⟩ = some (.int .i64 k.2) := by rw [cell_of_row _ w.heap.size 3 _ _ _ hwb]; rfl
  have e4 : W.cell? ⟨w.heap.size, 4, none⟩ = some (.int .i64 fl) := by rw [cell_of_row _ w.heap.size 4 _ _ _ hwb]; rfl
  rw [← hal.cell (show (⟨tb, 2, none⟩ : Addr).block < _ from l1)] at c2
  rw [← hal.block bw l2] at hlk
  have l0 : w.heap.size < W.heap.size := by omega
  replace l1 : tb < W.heap.size := by omega
  replace l2 : bw < W.heap.size := by omega
  replace hsz := Lib.hid hsz
  clear hwb
  go_region_held3 (fun y => (∀ a : Addr, a.block < W.heap.size → y.cell? a = W.cell? a) ∧ (∀ b : Nat, b < W.heap.size → y.heap[b]? = W.heap[b]?) ∧ Below W.heap.size W y) (first | assumption | exact onto_drew W) (fail)
  go_wp2
  go_ret2
  exact ⟨rfl, hal.drew⟩
theorem c_Sfollow {w : World} {f : Nat → Nat} {tb : Nat} {L : List (List KK)} (hN : Norm f w) (h : TreeO w f tb L) (hL : L.length < 100000) (a : Nat) (A : List KK) (hA : L[a]? = some A) (ch : Bool) (k : KK) (hk : okK k) (fl : Int) (hfl : (Lit.int .i64 fl).wf = true)
    (sv : Value) (ss : List SL) (hsv : RowO w f 9 225 3 sv ss.length (flatS ss)) (T : List KK) (hT : T = if ch then A else A ++ [k]) (hks : ss.map (fun x => pk x.1) = T) (hok : ∀ x ∈ ss, okK x.1) (hnd : T.Nodup) (hsl : ss.length ≤ 1000) :
    Calls Tryz.prog 202 #[.pointer (some ⟨tb, 0, none⟩), .agg #[.int .i64 (a : Int), .bool ch, .string k.1, .int .i64 k.2, .int .i64 fl], sv] w fun e w' => ∃ (f' : Nat → Nat) (L' : List (List KK)) (t : Nat), e = .returned (.tuple #[.int .i64 (t : Int), .int .i64 0]) ∧
      Turn (fun c => c = 3 ∨ c = 4 ∨ c = 5) f f' w w' ∧ TreeO w' f' tb L' ∧ L'[t]? = some T ∧ (L' = L ∨ L' = L ++ [T]) ∧ WayAt w' tb (klW (a : Int) ch k fl) t := by
  have h0 := Lib.hid h
  obtain ⟨rv, bw, n, ents, gw, q1, q2, q3, q4, q5, q6, q7⟩ := h
  have hal1 := hsl
  have hwa : (Lit.int .i64 (a : Int)).wf = true := WalkArith.wf_i64 (by have := (List.getElem?_eq_some_iff.1 hA).1; omega)
  obtain ⟨z, hz, hlk⟩ := look_W q4 (a : Int) ch k fl hk hwa hfl
  have hal : Below w.heap.size w (w.alloc (.cells #[.int .i64 (a : Int), .bool ch, .string k.1, .int .i64 k.2, .int .i64 fl] 277)) := (Below.refl _ w).alloc (Nat.le_refl _) _
  have c2 : w.cell? ⟨tb, 2, none⟩ = some (.map (some bw)) := by rw [cell_of_row w tb 2 _ _ _ q1.1]; rfl
  have c1 : w.cell? ⟨tb, 1, none⟩ = some rv := by rw [cell_of_row w tb 1 _ _ _ q1.1]; rfl
  have l1 := heapH_lt q1.1
  have l2 := q4.lt
  have hwb := heap_alloc_new w (.cells #[.int .i64 (a : Int), .bool ch, .string k.1, .int .i64 k.2, .int .i64 fl] 277)
  have hsz : (w.alloc (.cells #[.int .i64 (a : Int), .bool ch, .string k.1, .int .i64 k.2, .int .i64 fl] 277)).heap.size = w.heap.size + 1 := by simp
  cases hgw : gw (klW (a : Int) ch k fl) with
  | some t =>
    obtain ⟨i, j, A', hi, hj, hA', hj'⟩ := q6 _ _ _ _ _ hk hwa hfl hgw
    obtain rfl : i = a := by omega
    rw [hA] at hA'
    obtain rfl := Option.some.inj hA'
    subst hj
    rw [← hT] at hj'
    have hway : WayAt w tb (klW (i : Int) ch k fl) j := ⟨rv, bw, n, gw, q1.1, q4.1, hgw⟩
    refine (c_SfollowY i ch k hk fl hfl hwa sv j hway).mono ?_
    rintro e w' ⟨rfl, hb⟩
    exact ⟨f, L, j, rfl, Turn.of_below _ hN hb, h0.out.turn (Turn.of_below (fun _ => False) hN hb) id id id id, hj', .inl rfl, hway.keep hb⟩
  | none =>
    rw [hgw] at hlk
    dsimp only [Option.isSome] at hlk
    have hrv : ∃ p c, rv = .slice p L.length c := by
      rcases q2.1.2 with ⟨e, h⟩ | ⟨g, cap, cur, e, _⟩
      · rw [h]; exact ⟨_, _, e⟩
      · exact ⟨_, _, e⟩
    obtain ⟨p, c, rfl⟩ := hrv
    have hsf : ∃ p c, sv = .slice p ss.length c := by
      rcases hsv.1.2 with ⟨e, h⟩ | ⟨g, cap, cur, e, _⟩
      · rw [h]; exact ⟨_, _, e⟩
      · exact ⟨_, _, e⟩
    obtain ⟨p', c', rfl⟩ := hsf
    have hge : decide ((100000 : Int) ≤ (L.length : Int)) = false := decide_eq_false (by omega)
    have hst := FolI.start (.slice p' ss.length c') T hal hwb (Nat.le_refl _)
    have hmm := @run_makeMap Tryz.prog
    replace hst := Lib.hid hst
    have hlent : T.length = ss.length := by rw [← hks]; simp
    replace hlent := Lib.hid hlent
    replace hsv := Lib.hid hsv
    replace q1 := Lib.hid q1
    replace q2 := Lib.hid q2
    replace q3 := Lib.hid q3
    replace q4 := Lib.hid q4
    replace q5 := Lib.hid q5
    replace q6 := Lib.hid q6
    replace q7 := Lib.hid q7
    replace hks := Lib.hid hks
    replace hT := Lib.hid hT
    replace hnd := Lib.hid hnd
    replace hgw := Lib.hid hgw
    replace hok := Lib.hid hok
    replace hL := Lib.hid hL
    replace hN := Lib.hid hN
    replace hwa := Lib.hid hwa
    replace hfl := Lib.hid hfl
    replace hsl := Lib.hid hsl
    replace hal1 := Lib.hid hal1
    clear hz
    go_enter Tryz.func202, Tryz.ntmps202
    go_wp2_with fail
    obtain ⟨W, hW⟩ : ∃ W, w.alloc (.cells #[.int .i64 (a : Int), .bool ch, .string k.1, .int .i64 k.2, .int .i64 fl] 277) = W := ⟨_, rfl⟩
    rw [hW] at hal hwb hsz hst ⊢
    have e0 : W.cell? ⟨w.heap.size, 0, none⟩ = some (.int .i64 (a : Int)) := by rw [cell_of_row _ w.heap.size 0 _ _ _ hwb]; rfl
    have e1 : W.cell? ⟨w.heap.size, 1, none⟩ = some (.bool ch) := by rw [cell_of_row _ w.heap.size 1 _ _ _ hwb]; rfl
    have e2 : W.cell? ⟨w.heap.size, 2, none⟩ = some (.string k.1) := by rw [cell_of_row _ w.heap.size 2 _ _ _ hwb]; rfl
    have e3 : W.cell? ⟨w.heap.size, 3, none⟩ = some (.int .i64 k.2) := by rw [cell_of_row _ w.heap.size 3 _ _ _ hwb]; rfl
    have e4 : W.cell? ⟨w.heap.size, 4, none⟩ = some (.int .i64 fl) := by rw [cell_of_row _ w.heap.size 4 _ _ _ hwb]; rfl
    rw [← hal.cell (show (⟨tb, 2, none⟩ : Addr).block < _ from l1)] at c2
    rw [← hal.cell (show (⟨tb, 1, none⟩ : Addr).block < _ from l1)] at c1
    rw [← hal.block bw l2] at hlk
    have l0 : w.heap.size < W.heap.size := by omega
    have l1' : tb < W.heap.size := by omega
    have l2' : bw < W.heap.size := by omega
    replace hsz := Lib.hid hsz
    clear hwb
    go_region_held3 (fun y => (∀ a : Addr, a.block < W.heap.size → y.cell? a = W.cell? a) ∧ (∀ b : Nat, b < W.heap.size → y.heap[b]? = W.heap[b]?) ∧ Below W.heap.size W y) (first | assumption | exact onto_drew W) (fail)
    clear hlk e0 e1 e2 e3 e4
    go_wp2
    obtain ⟨w0, hw0⟩ : ∃ w0, ((W.alloc (.map #[] 0)).alloc (.cells #[.slice p' ss.length c', .map (some W.heap.size)] 78)).drew = w0 := ⟨_, rfl⟩
    rw [hw0] at hst ⊢
    clear hw0
    generalize W.heap.size + 1 = xb at *
    generalize W.heap.size = mb at *
    go_loopw [35] (fun vi wr => ∃ i : Nat, i ≤ ss.length ∧ vi = .int .i64 (i : Int) ∧ FolI w w.heap.size mb xb #[.int .i64 (a : Int), .bool ch, .string k.1, .int .i64 k.2, .int .i64 fl] (.slice p' ss.length c') T i wr) (fun vi _ => ss.length - (intOf vi).toNat)
    case atStart => exact ⟨0, by omega, rfl, hst.out⟩
    case round =>
      obtain ⟨i, hi, rfl, hF⟩ := hrel
      obtain ⟨d1, d2, d3, d4, d5, d6, hbel⟩ := hF.cells
      rcases Nat.lt_or_ge i ss.length with hlt | hge2
      · have hsv' := hsv.out
        obtain ⟨gs, cap, heq, g1, g2⟩ := hsv'.1.form (by omega)
        injection heq with e1 e2 e3
        subst e1
        subst e3
        clear e2
        obtain ⟨x, hx⟩ : ∃ x, ss[i]? = some x := ⟨_, List.getElem?_eq_getElem hlt⟩
        have hTi : T[i]? = some (pk x.1) := by rw [← hks.out]; simp [hx]
        have hgs := (hsv'.1.lt gs rfl).2
        obtain ⟨f1, f2, f3⟩ := flatS_get hx
        have c4 := hsv'.1.cells (g := gs) rfl _ _ f1
        have c5 := hsv'.1.cells (g := gs) rfl _ _ f2
        have c6 := hsv'.1.cells (g := gs) rfl _ _ f3
        rw [add_zero_addr] at c4 c5 c6
        have hoK := hok.out x (List.mem_of_getElem? hx)
        rw [← hbel.cell (show (⟨gs, i * 3, none⟩ : Addr).block < _ from hgs)] at c4
        rw [← hbel.cell (show (⟨gs, i * 3 + 1, none⟩ : Addr).block < _ from hgs)] at c5
        rw [← hbel.cell (show (⟨gs, i * 3 + 2, none⟩ : Addr).block < _ from hgs)] at c6
        obtain ⟨g0, hg0, hg1⟩ := hF.2.2.2
        obtain ⟨Um, hU⟩ := store_U lawKey Tryz.underlying75 (b := mb) (n := i) (g := g0) (keyOf_K (pk x.1) (pk_ok hoK)) (isKey_klK _) (v := (i : Int)) (WalkArith.wf_i64 (by have := hsl.out; omega)) (by have := hsl.out; unfold maxLen; omega)
        have hP := Lib.hid (c_Splain x.1 hoK.1)
        have hst2 := fun (y : World) (hb : (wr.alloc (.cells #[.string x.1.1, .int .i64 x.1.2, .int .i64 x.2] 225)).grownBy y (some mb)) hy => hF.step (o := .cells #[.string x.1.1, .int .i64 x.1.2, .int .i64 x.2] 225) rfl hTi hnd.out (pk_ok hoK) hg1 hb hy
        replace hst2 := Lib.hid hst2
        have q1' : (0 : Int) ≤ (i : Int) := by omega
        have q2' : (i : Int) < (ss.length : Int) := by omega
        have hmi := hg0
        obtain ⟨⟨x0, xn⟩, xf⟩ := x
        dsimp only at *
        generalize pk (x0, xn) = K at *
        replace hF := Lib.hid hF
        replace hg1 := Lib.hid hg1
        clear hsv' f1 f2 f3 hx hTi hgs g1 g2
        go_wp2_with fail
        have hUr := fun y h => (hU y h).1
        have hUt := Lib.hid (fun y h => (hU y h).2)
        clear hU
        obtain ⟨W2, hW2⟩ : ∃ W2, wr.alloc (.cells #[.string x0, .int .i64 xn, .int .i64 xf] 225) = W2 := ⟨_, rfl⟩
        have b0 : W2.cell? ⟨wr.heap.size, 0, none⟩ = some (.string x0) := by rw [← hW2, cell_of_row _ wr.heap.size 0 _ _ _ (heap_alloc_new wr _)]; rfl
        have b1 : W2.cell? ⟨wr.heap.size, 1, none⟩ = some (.int .i64 xn) := by rw [← hW2, cell_of_row _ wr.heap.size 1 _ _ _ (heap_alloc_new wr _)]; rfl
        have hal2 : Below wr.heap.size wr W2 := by rw [← hW2]; exact (Below.refl _ wr).alloc (Nat.le_refl _) _
        have hs2 : W2.heap.size = wr.heap.size + 1 := by rw [← hW2]; simp
        rw [← hal2.cell (show (⟨xb, 1, none⟩ : Addr).block < _ from d3)] at d2
        have hm2 := butU_start (.inl (hg0.at (hal2.block mb d4)) : MapU W2 43 mb i g0 (klK K) (i : Int))
        have t1 : wr.heap.size < W2.heap.size := by omega
        have t2 : xb < W2.heap.size := by omega
        have t3 : wr.heap.size ≠ mb := by omega
        rw [hW2] at hst2 ⊢
        replace hs2 := Lib.hid hs2
        clear hg0 hmi d1 d3 d4 hW2 c4 c5 c6
        go_region_held3 (fun y => ((∀ a : Addr, a.block < W2.heap.size → a.block ≠ mb → y.cell? a = W2.cell? a) ∧ W2.grownBy y (some mb)) ∧ MapU y 43 mb i g0 (klK K) (i : Int) ∧ mb < W2.heap.size) (first | assumption | exact hm2 | exact butU_below (by assumption) (by assumption) | exact butU_turn (by assumption) (hUt.out _ (And.left (And.right (by assumption))))) (first | (go_at_call 200; refine (hP.out _).mono ?_; rintro e y' ⟨rfl, hb⟩))
        have hbU := butU_below hm2 hb
        have hfin := hst2.out (Um y') (butU_turn hbU (hUt.out _ hbU.2.1)).1.2 (hUt.out y' hbU.2.1).1
        have p1 : IntKind.i64.wrap ((i : Int) + 1) = ((i + 1 : Nat) : Int) := by have := hsl.out; rw [IntKind.wrap_i64]; omega
        obtain ⟨w5, hw5⟩ : ∃ w5, Um y' = w5 := ⟨_, rfl⟩
        rw [hw5] at hfin ⊢
        replace hfin := Lib.hid hfin
        clear hbU hw5 hb hm2 hUr hUt hst2 d2 b0 b1
        go_wp2
        go_roundw
        case rel => exact ⟨i + 1, by omega, by go_num, hfin.out⟩
        case measure => simp [intOf]; omega
      · obtain rfl : i = ss.length := by omega
        have hF' : FolI w w.heap.size mb xb #[.int .i64 (a : Int), .bool ch, .string k.1, .int .i64 k.2, .int .i64 fl] (.slice p' ss.length c') T T.length wr := by rw [hlent.out]; exact hF
        replace hF' := Lib.hid hF'
        obtain ⟨i0, hi0, hz0, hz1, hz2⟩ := info_parts infoShape
        have hrow : wr.ownsRow 0 78 2 (.slice p L.length c) L.length (flatE ents) := own_at q2.out.1 (fun r hr => hbel.block r (q2.out.1.lt r hr).2)
        have htw : wr.heap[tb]? = some (.cells #[.int .i64 1, .slice p L.length c, .map (some bw)] 82 (0, 0)) := (hbel.block tb l1).trans q1.out.1
        have ctb : wr.cell? ⟨tb, 1, none⟩ = some (.slice p L.length c) := by rw [cell_of_row wr tb 1 _ _ _ htw]; rfl
        have ftb : wr.frozen? ⟨tb, 1, none⟩ = false := by simp [World.frozen?, htw]
        have ltb := heapH_lt htw
        have ntb : (Value.slice p L.length c).ownBlock ≠ some tb := fun e => by have := q2.out.2 tb e; rw [q1.out.2] at this; omega
        have hm1 : L.length + 1 ≤ maxLen ∧ (L.length + 1) * 32 ≤ 140737488355328 := by have := hL.out; unfold maxLen; omega
        replace hm1 := Lib.hid hm1
        replace htw := Lib.hid htw
        replace ntb := Lib.hid ntb
        replace ltb := Lib.hid ltb
        replace hbel := Lib.hid hbel
        clear hst hmm c1 c2 l0 l1' l2' hi hF d6 hge2
        go_wp2_with fail
        have g4 : ∀ o, (wr.alloc o).cell? ⟨tb, 1, none⟩ = some (.slice p L.length c) := fun o => by rw [((Below.refl wr.heap.size wr).alloc (Nat.le_refl _) o).cell (p := ⟨tb, 1, none⟩) ltb.out]; exact ctb
        refine wp_region_noPanic ?_
        go_region_law (first | (refine step_append_lies _ rfl _ _ _ rfl 0 78 i0 _ 2 32 Tryz.underlying79 hi0 hz0 hz1 hz2 rfl (by omega) (.slice p L.length c) L.length (flatE ents) rfl ((hrow.alloc _).drew) ⟨wr.heap.size, 0, none⟩ 1 1 [.slice p' ss.length c', .map (some mb)] rfl rfl (World.news_of_block (cs := #[.slice p' ss.length c', .map (some mb)]) (t := 78) (fr := (0, 0)) (by exact heap_alloc_new wr _)) (by simp [Value.oneCell']) (by omega) hm1.out.1 hm1.out.2 (by simp) (wr.heap.size + 1) (by simp) ?_; intro gg cap w5 hown5 hg5 hat5 hlt5; obtain ⟨hc5, hf5⟩ := tb_after ctb ftb ltb.out ntb.out hg5))
        all_goals
          refine NoPanic.normal ?_
          have hmid := fol_mid (gg := gg) (cap := cap) q1.out q2.out q4.out q5.out hF'.out (grown_undrew hg5) (klW (a : Int) ch k fl)
          have hdone := fun (w7 : World) hg7 hm7 => fol_done (w7 := w7) hN.out q1.out q2.out q3.out q4.out q6.out q7.out hA hk hwa.out hfl.out hT.out hsv.out hks.out hok.out hnd.out hF'.out (grown_undrew hg5) hat5 hown5 hg7 hm7
          obtain ⟨W5, hW5⟩ : ∃ W5, w5.setCell ⟨tb, 1, none⟩ (.slice (some ⟨gg, 0, none⟩) (L.length + 1) cap) = W5 := ⟨_, rfl⟩
          rw [hW5] at hdone hmid ⊢
          obtain ⟨m1, m2, m3, m4, m5⟩ := hmid
          obtain ⟨U2, hU2⟩ := store_U lawWay Tryz.underlying80 (b := bw) (n := L.length) (g := gw) (keyOf_W (a : Int) ch k fl hk hwa.out hfl.out) (isKey_klW _ _ _ _) (v := (L.length : Int)) (WalkArith.wf_i64 (by have := hL.out; omega)) (by have := hL.out; unfold maxLen; omega)
          unfold wayV at hU2
          have hUr := fun y h => (hU2 y h).1
          have hUt := Lib.hid (fun y h => (hU2 y h).2)
          have t1 := heapH_lt m1
          have t2 := heapH_lt m2
          have hm2 := butU_start m5
          have a1 : W5.cell? ⟨tb, 1, none⟩ = some (.slice (some ⟨gg, 0, none⟩) (L.length + 1) cap) := by rw [cell_of_row _ tb 1 _ _ _ m1]; rfl
          have a2 : W5.cell? ⟨tb, 2, none⟩ = some (.map (some bw)) := by rw [cell_of_row _ tb 2 _ _ _ m1]; rfl
          have b0 : W5.cell? ⟨w.heap.size, 0, none⟩ = some (.int .i64 (a : Int)) := by rw [cell_of_row _ w.heap.size 0 _ _ _ m2]; rfl
          have b1 : W5.cell? ⟨w.heap.size, 1, none⟩ = some (.bool ch) := by rw [cell_of_row _ w.heap.size 1 _ _ _ m2]; rfl
          have b2 : W5.cell? ⟨w.heap.size, 2, none⟩ = some (.string k.1) := by rw [cell_of_row _ w.heap.size 2 _ _ _ m2]; rfl
          have b3 : W5.cell? ⟨w.heap.size, 3, none⟩ = some (.int .i64 k.2) := by rw [cell_of_row _ w.heap.size 3 _ _ _ m2]; rfl
          have b4 : W5.cell? ⟨w.heap.size, 4, none⟩ = some (.int .i64 fl) := by rw [cell_of_row _ w.heap.size 4 _ _ _ m2]; rfl
          have pw : IntKind.i64.wrap (L.length : Int) = (L.length : Int) := by have := hL.out; rw [IntKind.wrap_i64]; omega
          replace hdone := Lib.hid hdone
          clear hU2 hg5 hat5 hown5 hc5 hf5 hlt5 hW5 g4 ctb ftb hrow m5 m1 m2
          go_wp2_with fail
          go_region_held3 (fun y => ((∀ a : Addr, a.block < W5.heap.size → a.block ≠ bw → y.cell? a = W5.cell? a) ∧ W5.grownBy y (some bw)) ∧ MapU y 277 bw L.length gw (klW (a : Int) ch k fl) (L.length : Int) ∧ bw < W5.heap.size) (first | assumption | exact hm2 | exact butU_turn (by assumption) (hUt.out _ (And.left (And.right (by assumption))))) (fail)
          have hbT := butU_turn hm2 (hUt.out _ hm2.2.1)
          obtain ⟨f', r1, r2⟩ := hdone.out _ hbT.1.2 (hUt.out _ hm2.2.1).1
          have a3 := (hbT.1.1 ⟨tb, 1, none⟩ t1 m4).trans a1
          generalize U2 W5.drew = w7 at *
          replace r1 := Lib.hid r1
          replace r2 := Lib.hid r2
          clear hbT hUr hUt hm2 a1 a2 b0 b1 b2 b3 b4 t1 t2 m4
          go_wp2
          go_ret2
          exact ⟨f', L ++ [T], L.length, rfl, r1.out, r2.out.1, by simp, .inr rfl, r2.out.2⟩
end Go.Proofs.YtkbohoolnpaleaaGreatDoor
namespace Go.Proofs.YtkbohoolnpaleaaGreatDoor
open Go.RowKit Go.Shelf Go.Lib Go.Sort Go.Proofs Go.Maps
set_option maxHeartbeats 1000000
set_option maxRecDepth 100000

def C3 (c : Nat) : Prop := c = 3 ∨ c = 4 ∨ c = 5
/-- the way has been followed -/
def FolE (W : World) (f : Nat → Nat) (tb : Nat) (L : List (List KK)) (T : List KK) (kl : Lit) (t : Nat) (y : World) : Prop :=
  ∃ (fy : Nat → Nat) (Ly : List (List KK)), Turn C3 f fy W y ∧ TreeO y fy tb Ly ∧ Ly[t]? = some T ∧ (Ly = L ∨ Ly = L ++ [T]) ∧ WayAt y tb kl t
/-- the way has not been followed yet, or it has been -/
def FolP (W : World) (f : Nat → Nat) (tb : Nat) (L : List (List KK)) (T : List KK) (kl : Lit) (y : World) : Prop :=
  (TreeO W f tb L ∧ Norm f W ∧ Below W.heap.size W y) ∨ ∃ t, FolE W f tb L T kl t y
theorem FolE.below {W y y' : World} {f : Nat → Nat} {tb : Nat} {L : List (List KK)} {T : List KK} {kl : Lit} {t : Nat} (h : FolE W f tb L T kl t y) (hb : Below y.heap.size y y') : FolE W f tb L T kl t y' := by
  obtain ⟨fy, Ly, h1, h2, h3, h4, h5⟩ := h
  exact ⟨fy, Ly, h1.then hb, h2.turn (Turn.of_below (fun _ => False) h1.norm hb) id id id id, h3, h4, h5.keep hb⟩
theorem folP_start {W : World} {f : Nat → Nat} {tb : Nat} {L : List (List KK)} (h : TreeO W f tb L) (hn : Norm f W) (T : List KK) (kl : Lit) :
    (∀ a : Addr, a.block < W.heap.size → ¬ C3 (f a.block) → W.drew.cell? a = W.cell? a) ∧ FolP W f tb L T kl W.drew := ⟨fun _ _ _ => rfl, .inl ⟨h, hn, (Below.refl _ W).drew⟩⟩
theorem folP_size {W y : World} {f : Nat → Nat} {tb : Nat} {L : List (List KK)} {T : List KK} {kl : Lit} (h : FolP W f tb L T kl y) : W.heap.size ≤ y.heap.size := by
  rcases h with ⟨_, _, h⟩ | ⟨t, fy, Ly, h, _⟩
  · exact h.size
  · exact h.size
theorem folP_below {W y y' : World} {f : Nat → Nat} {tb : Nat} {L : List (List KK)} {T : List KK} {kl : Lit} (h : (∀ a : Addr, a.block < W.heap.size → ¬ C3 (f a.block) → y.cell? a = W.cell? a) ∧ FolP W f tb L T kl y) (hb : Below y.heap.size y y') :
    (∀ a : Addr, a.block < W.heap.size → ¬ C3 (f a.block) → y'.cell? a = W.cell? a) ∧ FolP W f tb L T kl y' := by
  refine ⟨fun a ha hc => by rw [hb.cell (Nat.lt_of_lt_of_le ha (folP_size h.2))]; exact h.1 a ha hc, ?_⟩
  rcases h.2 with ⟨h1, h2, h3⟩ | ⟨t, h⟩
  · exact .inl ⟨h1, h2, h3.trans (hb.mono h3.size)⟩
  · exact .inr ⟨t, h.below hb⟩
theorem folP_grown {W y y' : World} {f : Nat → Nat} {tb : Nat} {L : List (List KK)} {T : List KK} {kl : Lit} (h : (∀ a : Addr, a.block < W.heap.size → ¬ C3 (f a.block) → y.cell? a = W.cell? a) ∧ FolP W f tb L T kl y) (hg : y.grownBy y' none) :
    (∀ a : Addr, a.block < W.heap.size → ¬ C3 (f a.block) → y'.cell? a = W.cell? a) ∧ FolP W f tb L T kl y' := folP_below h ⟨hg.os, hg.tape, hg.output, hg.size, fun r hr => hg.block r hr (by simp)⟩
theorem folP_alloc {W y : World} {f : Nat → Nat} {tb : Nat} {L : List (List KK)} {T : List KK} {kl : Lit} (h : (∀ a : Addr, a.block < W.heap.size → ¬ C3 (f a.block) → y.cell? a = W.cell? a) ∧ FolP W f tb L T kl y) (o : Obj) :
    (∀ a : Addr, a.block < W.heap.size → ¬ C3 (f a.block) → (y.alloc o).cell? a = W.cell? a) ∧ FolP W f tb L T kl (y.alloc o) := folP_below h ((Below.refl _ y).alloc (Nat.le_refl _) o)
theorem c_followS {W y : World} {f : Nat → Nat} {tb : Nat} {L : List (List KK)} {T : List KK} (a : Nat) (ch : Bool) (k : KK) (fl : Int)
    (hL : L.length < 100000) (A : List KK) (hA : L[a]? = some A) (hk : okK k) (hfl : (Lit.int .i64 fl).wf = true) (sv : Value) (ss : List SL) (hT : T = if ch then A else A ++ [k]) (hks : ss.map (fun x => pk x.1) = T) (hok : ∀ x ∈ ss, okK x.1) (hnd : T.Nodup) (hsl : ss.length ≤ 1000)
    (hS : (∀ a : Addr, a.block < W.heap.size → ¬ C3 (f a.block) → y.cell? a = W.cell? a) ∧ FolP W f tb L T (klW (a : Int) ch k fl) y) (hsv : y.ownsRow 0 225 3 sv ss.length (flatS ss)) (hnew : ∀ r, sv.ownBlock = some r → W.heap.size ≤ r) :
    Calls Tryz.prog 202 #[.pointer (some ⟨tb, 0, none⟩), .agg #[.int .i64 (a : Int), .bool ch, .string k.1, .int .i64 k.2, .int .i64 fl], sv] y fun e y' => ∃ t : Nat, e = .returned (.tuple #[.int .i64 (t : Int), .int .i64 0]) ∧
      FolE W f tb L T (klW (a : Int) ch k fl) t y' ∧ ((∀ a : Addr, a.block < W.heap.size → ¬ C3 (f a.block) → y'.cell? a = W.cell? a) ∧ FolP W f tb L T (klW (a : Int) ch k fl) y') := by
  have hwa : (Lit.int .i64 (a : Int)).wf = true := WalkArith.wf_i64 (by have := (List.getElem?_eq_some_iff.1 hA).1; omega)
  obtain ⟨h0, h | ⟨t, h⟩⟩ := hS
  · obtain ⟨h1, h2, h3⟩ := h
    have t1 : Turn C3 f (give f W y (fun _ => 9)) W y := (Turn.refl C3 h2).give _ h3.os h3.tape h3.output h3.size (fun r hr _ => h3.block r hr)
    have t2 : Turn (fun _ => False) f (give f W y (fun _ => 9)) W y := (Turn.refl _ h2).give _ h3.os h3.tape h3.output h3.size (fun r hr _ => h3.block r hr)
    have hr : RowO y (give f W y (fun _ => 9)) 9 225 3 sv ss.length (flatS ss) := ⟨hsv, fun r hr => give_new (hnew r hr) (hsv.lt r hr).2⟩
    refine (c_Sfollow t1.norm (h1.turn t2 id id id id) hL a A hA ch k hk fl hfl sv ss hr T hT hks hok hnd hsl).mono ?_
    rintro e y' ⟨f', L', t, rfl, q1, q2, q3, q4, q5⟩
    have hE : FolE W f tb L T (klW (a : Int) ch k fl) t y' := ⟨f', L', t1.trans q1, q2, q3, q4, q5⟩
    refine ⟨t, rfl, hE, fun b hb hc => ?_, .inr ⟨t, hE⟩⟩
    rw [World.cell?_of_block (q1.block b.block (Nat.lt_of_lt_of_le hb h3.size) (by rw [t1.agree b.block hb]; exact hc))]
    exact h0 b hb hc
  · refine (c_SfollowY a ch k hk fl hfl hwa sv t (by obtain ⟨_, _, _, _, _, _, h5⟩ := h; exact h5)).mono ?_
    rintro e y' ⟨rfl, hb⟩
    exact ⟨t, rfl, h.below hb, folP_below ⟨h0, .inr ⟨t, h⟩⟩ hb⟩
end Go.Proofs.YtkbohoolnpaleaaGreatDoor
namespace Go.Proofs.YtkbohoolnpaleaaGreatDoor
open Go.RowKit Go.Shelf Go.Lib Go.Sort Go.Proofs Go.Maps
set_option maxHeartbeats 1000000
set_option maxRecDepth 100000

theorem infoSlot : (Tryz.prog.info? 225).map (fun i => (i.zero, i.size, i.bytes)) = some (some (.agg #[.string ⟨#[]⟩, .int .i64 0, .int .i64 0]), 3, 32) := by kernel_rfl
theorem ret_two {a b a' b' : Value} (h : a = a') (h2 : b = b') : Ending.returned (.tuple #[a, b]) = .returned (.tuple #[a', b']) := by rw [h, h2]
/-- a row of slots, in a new block -/
def RowN (y : World) (v : Value) (n : Nat) (xs : List Value) (B : Nat) : Prop := y.ownsRow 0 225 3 v n xs ∧ ∀ r, v.ownBlock = some r → B ≤ r
theorem RowN.below {y y' : World} {v : Value} {n : Nat} {xs : List Value} {B : Nat} (h : RowN y v n xs B) (hb : Below y.heap.size y y') : RowN y' v n xs B := ⟨own_at h.1 (fun r hr => hb.block r (h.1.lt r hr).2), h.2⟩
/-- at the append of a slot to a full row -/
theorem slot_append {ops : Array Oper} {o : Oper} {a : Act} {y : World} {K : Act → World → Prop} {Q : Exit → Act → World → Prop} {E : Prop} (hg : o.guard = none) (s x : Operand) (hop : o.op = Op.call { callee := Callee.builtin Builtin.append, args := #[s, x], argTypes := #[76, 76] })
    (p : Option Addr) (n : Nat) (hs : a.eval s = .slice p n n) (b : Nat) (hx : a.eval x = .slice (some ⟨b, 0, none⟩) 1 1) (cs : List Value) (hcs : cs.length = 3) (hc1 : ∀ u ∈ cs, u.oneCell' = true) (olds : List Value) (hlo : olds.length = n * 3) (hp : p = none → n = 0) (hn : n ≤ 1000) (B : Nat) (hB : B ≤ y.heap.size)
    (holds : ∀ b, p = some b → ∀ j u, olds[j]? = some u → y.cell? (b.add j) = some u) (hblk : y.heap[b]? = some (.cells cs.toArray 225 (0, 0)))
    (hK : ∀ v' w', RowN w' v' (n + 1) (olds ++ cs) B → y.grownBy w' none → K (a.put o.dst v') w') :
    if Region.wanted o (yielded ops a.tmps) = true then Oper.wp Tryz.prog o a y K Q else E := by
  obtain ⟨i0, hi0, hz0, hz1, hz2⟩ := info_parts infoSlot
  refine step_append_grows hg s x 76 hop 225 i0 _ 3 32 Tryz.underlying76 hi0 hz0 hz1 hz2 rfl (by omega) p n n olds hs (fun h => ⟨hp h, hp h⟩) hlo holds ⟨b, 0, none⟩ 1 1 cs hx (by omega) ?_ hc1 (by omega) (by unfold maxLen; omega) (by omega) ?_
  · exact World.news_of_block (cs := cs.toArray) (t := 225) (fr := (0, 0)) hblk
  · intro v' w' hown hgr
    refine hK v' w' ⟨?_, fun r hr => Nat.le_trans hB (hown.lt r hr).1⟩ hgr
    refine ⟨hown.1, ?_⟩
    rcases hown.2 with h | ⟨g, cap, cur, e, _, r⟩
    · exact .inl h
    · exact .inr ⟨g, cap, cur, e, Nat.zero_le _, r⟩
theorem c_SAdd {w : World} {f : Nat → Nat} {tb : Nat} {L : List (List KK)} (hN : Norm f w) (h : TreeO w f tb L) (hL : L.length < 100000) (s : Nat) (A : List KK) (hs : L[s]? = some A) (k : KK) (hk : okK k) (hno : idx A (pk k) = none) (fl : Int) (h0 : 0 ≤ fl) (h15 : fl ≤ 15) :
    Calls Tryz.prog 197 #[.pointer (some ⟨tb, 0, none⟩), .int .i64 (s : Int), keyV k.1 k.2, .int .i64 fl] w fun e w' =>
      (128 ≤ A.length ∧ e = .returned (.tuple #[.int .i64 0, .int .i64 2]) ∧ Below w.heap.size w w') ∨
      (A.length < 128 ∧ ∃ (t : Nat) (f' : Nat → Nat) (L' : List (List KK)), e = .returned (.tuple #[.int .i64 (t : Int), .int .i64 0]) ∧ Turn C3 f f' w w' ∧ TreeO w' f' tb L' ∧ L'[t]? = some (A ++ [pk k]) ∧ (L' = L ∨ L' = L ++ [A ++ [pk k]])) := by
  obtain ⟨p, c, c0, c1, hrow⟩ := h.form
  obtain ⟨rb, sv, mb, rfl, l1, l2, l3, c2, c3, hS⟩ := hrow s A hs
  have hsl := (List.getElem?_eq_some_iff.1 hs).1
  obtain ⟨ss, gg, nn, r1, r2, r3, r4, r5, r6, r7⟩ := hS
  have hlen : ss.length = A.length := by rw [← r2]; simp
  obtain ⟨z, hz, hlk⟩ := look_K r5 (pk k) (pk_ok hk)
  rw [r7 _ (pk_ok hk), hno] at hlk
  dsimp only [Option.map, Option.isSome] at hlk
  have hsf : ∃ p' c', sv = .slice p' ss.length c' ∧ (ss.length ≤ c') ∧ (p' = none → ss.length = 0 ∧ c' = 0) := by
    rcases r1.1.2 with ⟨e, h⟩ | ⟨g, cap, cur, e, _, _, hc, _⟩
    · rw [h]; exact ⟨_, _, e, Nat.zero_le _, fun _ => ⟨rfl, rfl⟩⟩
    · exact ⟨_, _, e, hc, fun h => by cases h⟩
  obtain ⟨p', c', rfl, hcc, hpn⟩ := hsf
  have hP := Lib.hid (c_Splain k hk.1)
  have hI := Lib.hid (c_Sis ((h.turn (Turn.of_below (fun _ => False) (w' := w.alloc (.cells #[.string k.1, .int .i64 k.2] 43)) hN ((Below.refl _ w).alloc (Nat.le_refl _) _)) id id id id)) s hsl)
  have p1 : (0 : Int) ≤ (s : Int) := by omega
  have p2 : (s : Int) < (L.length : Int) := by omega
  have n0 : ¬ fl < 0 := by omega
  have n15 : ¬ 15 < fl := by omega
  unfold keyV
  replace h := Lib.hid h
  replace hlen := Lib.hid hlen
  replace hL := Lib.hid hL
  replace hN := Lib.hid hN
  replace hno := Lib.hid hno
  replace hs := Lib.hid hs
  replace hk := Lib.hid hk
  replace r1 := Lib.hid r1
  replace r2 := Lib.hid r2
  replace r3 := Lib.hid r3
  replace r4 := Lib.hid r4
  replace hpn := Lib.hid hpn
  obtain ⟨k0, kn⟩ := k
  dsimp only at *
  generalize hK : pk (k0, kn) = K at *
  replace hK := Lib.hid hK
  clear hz r5 r6 r7 hrow
  go_enter Tryz.func197, Tryz.ntmps197
  obtain ⟨W1, hW1⟩ : ∃ W1, w.alloc (.cells #[.string k0, .int .i64 kn] 43) = W1 := ⟨_, rfl⟩
  have hal1 : Below w.heap.size w W1 := by rw [← hW1]; exact (Below.refl _ w).alloc (Nat.le_refl _) _
  have hs1 : W1.heap.size = w.heap.size + 1 := by rw [← hW1]; simp
  have d0 : W1.heap[w.heap.size]? = some (.cells #[.string k0, .int .i64 kn] 43 (0, 0)) := by rw [← hW1]; exact heap_alloc_new w _
  rw [hW1] at hI
  rw [← hal1.cell (show (⟨tb, 1, none⟩ : Addr).block < _ from l1)] at c1
  rw [← hal1.cell (show (⟨rb, s * 2, none⟩ : Addr).block < _ from l2)] at c2
  rw [← hal1.cell (show (⟨rb, s * 2 + 1, none⟩ : Addr).block < _ from l2)] at c3
  rw [← hal1.block mb l3] at hlk
  clear c0
  obtain ⟨W2, hW2⟩ : ∃ W2, W1.alloc (.cells #[.slice p' ss.length c', .map (some mb)] 78) = W2 := ⟨_, rfl⟩
  have hal2 : Below W1.heap.size W1 W2 := by rw [← hW2]; exact (Below.refl _ W1).alloc (Nat.le_refl _) _
  have hs2 : W2.heap.size = W1.heap.size + 1 := by rw [← hW2]; simp
  have x0 : W2.heap[W1.heap.size]? = some (.cells #[.slice p' ss.length c', .map (some mb)] 78 (0, 0)) := by rw [← hW2]; exact heap_alloc_new W1 _
  have d0' : W2.heap[w.heap.size]? = some (.cells #[.string k0, .int .i64 kn] 43 (0, 0)) := (hal2.block _ (by omega)).trans d0
  have kc0 : W2.cell? ⟨w.heap.size, 0, none⟩ = some (.string k0) := by rw [cell_of_row _ _ 0 _ _ _ d0']; rfl
  have kc1 : W2.cell? ⟨w.heap.size, 1, none⟩ = some (.int .i64 kn) := by rw [cell_of_row _ _ 1 _ _ _ d0']; rfl
  have xc0 : W2.cell? ⟨W1.heap.size, 0, none⟩ = some (.slice p' ss.length c') := by rw [cell_of_row _ _ 0 _ _ _ x0]; rfl
  have xc1 : W2.cell? ⟨W1.heap.size, 1, none⟩ = some (.map (some mb)) := by rw [cell_of_row _ _ 1 _ _ _ x0]; rfl
  rw [← hal2.block mb (by omega)] at hlk
  have t1 : w.heap.size < W2.heap.size := by omega
  have t2 : W1.heap.size < W2.heap.size := by omega
  have t3 : mb < W2.heap.size := by omega
  replace hs1 := Lib.hid hs1
  replace hs2 := Lib.hid hs2
  replace l1 := Lib.hid l1
  replace l2 := Lib.hid l2
  replace l3 := Lib.hid l3
  clear d0 d0' x0
  go_wp2_with (first | (go_at_call 112; refine hI.out.mono ?_; rintro e w1 ⟨rfl, e1⟩; cases e1))
  go_region_held3 (fun y => (∀ a : Addr, a.block < W2.heap.size → y.cell? a = W2.cell? a) ∧ (∀ b : Nat, b < W2.heap.size → y.heap[b]? = W2.heap[b]?) ∧ Below W2.heap.size W2 y) (first | assumption | exact onto_drew W2 | exact onto_below (by assumption) (by assumption)) (first | (go_at_call 200; refine (hP.out _).mono ?_; rintro e y' ⟨rfl, hb⟩))
  have hO := onto_below (onto_drew W2) hb
  rw [← hO.1 ⟨w.heap.size, 0, none⟩ t1] at kc0
  rw [← hO.1 ⟨w.heap.size, 1, none⟩ t1] at kc1
  rw [← hO.1 ⟨W1.heap.size, 0, none⟩ t2] at xc0
  have hbw : Below w.heap.size w y' := (hal1.trans (hal2.mono hal1.size)).trans (hO.2.2.mono (by have := hs1.out; have := hs2.out; omega))
  have t1' : w.heap.size < y'.heap.size := Nat.lt_of_lt_of_le t1 hO.2.2.size
  have t2' : W1.heap.size < y'.heap.size := Nat.lt_of_lt_of_le t2 hO.2.2.size
  have t4 : w.heap.size ≤ W1.heap.size := by have := hs1.out; omega
  generalize W1.heap.size = xb at *
  clear hlk hb hO xc1 t1 t2 t3 c1 c2 c3 hal2 hW2 hI
  rcases Nat.lt_or_ge A.length 128 with hsm | hbig
  · have m0 : ¬ (128 : Int) ≤ (ss.length : Int) := by have := hlen.out; omega
    go_wp2_with fail
    have hP2 : ∀ y : World, Calls Tryz.prog 200 #[.agg #[.string k0, .int .i64 kn]] y fun e w' => e = .returned (.agg #[.string K.1, .int .i64 K.2]) ∧ Below y.heap.size y w' := hP.out
    replace hP2 := Lib.hid hP2
    have hNy : Norm f y' := fun r hr => hN.out r (Nat.le_trans hbw.size hr)
    have hTy : TreeO y' f tb L := h.out.turn (Turn.of_below (fun _ => False) hN.out hbw) id id id id
    have hst := folP_start hTy hNy (A ++ [K]) (klW (s : Int) false K fl)
    have hnk : idx A K = none := hno.out
    have hpk : pk (k0, kn) = K := hK.out
    have hsn : (flatS ss ++ [.string k0, .int .i64 kn, .int .i64 fl]) = flatS (ss ++ [((k0, kn), fl)]) := by simp [flatS, encS]
    have hok2 : ∀ x ∈ ss ++ [((k0, kn), fl)], okK x.1 := by
      intro x hx
      rcases List.mem_append.1 hx with h | h
      · exact r3.out x h
      · simp at h; subst h; exact hk.out
    have hwf : (Lit.int .i64 fl).wf = true := WalkArith.wf_i64 (by omega)
    have hfo := fun (y : World) (v : Value) (hS : (∀ a : Addr, a.block < y'.heap.size → ¬ C3 (f a.block) → y.cell? a = y'.cell? a) ∧ FolP y' f tb L (A ++ [K]) (klW (s : Int) false K fl) y) (hr : RowN y v (ss.length + 1) (flatS ss ++ [.string k0, .int .i64 kn, .int .i64 fl]) y'.heap.size) =>
      c_followS (W := y') (y := y) (f := f) (tb := tb) (L := L) (T := A ++ [K]) s false K fl hL.out A hs.out (by rw [← hpk]; exact pk_ok hk.out) hwf v (ss ++ [((k0, kn), fl)]) rfl (by simp [r2.out, hpk])
        hok2
        (by rw [List.nodup_append]; exact ⟨r4.out, by simp, fun a ha b hb e => idx_none.1 hnk (by simp at hb; rw [← hb, ← e]; exact ha)⟩) (by have := hlen.out; simp; omega) hS (by rw [← hsn]; simpa using hr.1) hr.2
    have hold : ∀ y : World, (∀ a : Addr, a.block < y'.heap.size → ¬ C3 (f a.block) → y.cell? a = y'.cell? a) → ∀ b, p' = some b → ∀ j u, (flatS ss)[j]? = some u → y.cell? (b.add j) = some u := by
      intro y hy b hb j u hu
      subst hb
      have hb2 : ∃ g, (Value.slice (some b) ss.length c').ownBlock = some g ∧ b = ⟨g, 0, none⟩ := by
        rcases r1.out.1.2 with ⟨e, _⟩ | ⟨g, cap, cur, e, _⟩
        · cases e
        · injection e with e; injection e with e; subst e; exact ⟨g, rfl, rfl⟩
      obtain ⟨g, hg, rfl⟩ := hb2
      have hlt := (r1.out.1.lt g hg).2
      have hc := r1.out.1.cells hg j u hu
      rw [Addr.add_lit] at hc ⊢
      rw [hy ⟨g, 0 + j, none⟩ (show g < _ from Nat.lt_of_lt_of_le hlt hbw.size) (by show ¬ C3 (f g); rw [r1.out.2 g hg]; unfold C3; omega)]
      rw [hbw.cell (show (⟨g, 0 + j, none⟩ : Addr).block < _ from hlt)]
      exact hc
    have f1 : ¬ C3 (f w.heap.size) := by rw [hN.out _ (Nat.le_refl _)]; unfold C3; omega
    have f2 : ¬ C3 (f xb) := by rw [hN.out _ t4]; unfold C3; omega
    have hlo := flatS_len ss
    have hsl1 : ss.length ≤ 1000 := by have := hlen.out; omega
    have hone : ∀ u ∈ [Value.string k0, .int .i64 kn, .int .i64 fl], u.oneCell' = true := by simp [Value.oneCell']
    have i1 : (0 : Int) ≤ (ss.length : Int) := by omega
    have i2 : (ss.length : Int) ≤ (c' : Int) := by omega
    replace hfo := Lib.hid hfo
    replace hold := Lib.hid hold
    replace hlo := Lib.hid hlo
    replace hsl1 := Lib.hid hsl1
    replace hone := Lib.hid hone
    replace hbw := Lib.hid hbw
    clear hsn hnk hpk hTy hNy hok2 hwf
    go_region_held3 (fun y => (∀ a : Addr, a.block < y'.heap.size → ¬ C3 (f a.block) → y.cell? a = y'.cell? a) ∧ FolP y' f tb L (A ++ [K]) (klW (s : Int) false K fl) y) (first | assumption | exact hst | exact folP_below (by assumption) (by assumption) | exact folP_grown (by assumption) (by assumption) | exact folP_alloc (by assumption) _) (first | (go_at_call 200; refine (hP2.out _).mono ?_; rintro e y2 ⟨rfl, hb2⟩) | (refine slot_append rfl _ _ rfl p' ss.length rfl _ rfl [.string k0, .int .i64 kn, .int .i64 fl] rfl hone.out (flatS ss) hlo.out (fun h => (hpn.out h).1) hsl1.out y'.heap.size (folP_size (And.right (by assumption))) (hold.out _ (And.left (by assumption))) ?_ ?_; (first | exact heap_alloc_new _ _ | exact (hb2.block _ (by simp)).trans (heap_alloc_new _ _)); intro v4 w4 hr4 hg4) | (go_at_call 202; refine (hfo.out _ _ (by assumption) ?_).mono ?_; (first | assumption | exact RowN.below (by assumption) (by assumption)); rintro e y5 ⟨t, rfl, hE, hSS⟩))
    all_goals
      obtain ⟨fy, Ly, e1, e2, e3, e4, e5⟩ := hE
      have e1' := Lib.hid ((Turn.of_below C3 hN.out hbw.out).trans e1)
      replace e2 := Lib.hid e2
      replace e3 := Lib.hid e3
      clear hSS hst e1 e5 t2' t1' xc0 kc0 kc1
      go_wp2
      go_ret2
      exact .inr ⟨hsm, t, fy, Ly, rfl, e1'.out, e2.out, e3.out, e4⟩
  · have m0 : (128 : Int) ≤ (ss.length : Int) := by have := hlen.out; omega
    replace hbw := Lib.hid hbw
    go_wp2
    go_ret2
    exact .inl ⟨hbig, rfl, hbw.out⟩
end Go.Proofs.YtkbohoolnpaleaaGreatDoor
namespace Go.Proofs.YtkbohoolnpaleaaGreatDoor
open Go.RowKit Go.Shelf Go.Lib Go.Sort Go.Proofs Go.Maps
set_option maxHeartbeats 1000000
set_option maxRecDepth 100000

theorem row_set {w : World} {B : Nat} {e : TypeId} {size n cap g : Nat} {xs : List Value} (h : w.ownsRow B e size (.slice (some ⟨g, 0, none⟩) n cap) n xs) (j : Nat) (u : Value) :
    (w.setCell ⟨g, j, none⟩ u).ownsRow B e size (.slice (some ⟨g, 0, none⟩) n cap) n (xs.set j u) := by
  refine ⟨by simpa using h.1, ?_⟩
  rcases h.2 with ⟨h, _⟩ | ⟨g', cap', cur, e1, hb, hg, h1, h2, h3, h4⟩
  · cases h
  · injection e1 with e1 e2 e3
    injection e1 with e1
    injection e1 with e1
    subst e1
    subst e3
    refine .inr ⟨g, cap, cur.setIfInBounds j u, rfl, hb, ?_, h1, h2, by simpa using h3, ?_⟩
    · exact Go.heap_setCell_same w g j _ _ _ hg
    · rw [Array.toList_setIfInBounds, List.take_set, h4]
theorem row_front {w : World} {B : Nat} {e : TypeId} {size n : Nat} {v : Value} {xs : List Value} (h : w.ownsRow B e size v n xs) (hn : 0 < n) :
    ∃ g cap, v = .slice (some ⟨g, 0, none⟩) n cap ∧ B ≤ g ∧ g < w.heap.size ∧ (∀ j u, xs[j]? = some u → w.cell? ⟨g, j, none⟩ = some u) ∧ ∀ j, w.frozen? ⟨g, j, none⟩ = false := by
  have h0 := h
  rcases h.2 with ⟨_, h⟩ | ⟨g, cap, cur, rfl, hb, hg, _⟩
  · omega
  · refine ⟨g, cap, rfl, hb, heapH_lt hg, fun j u hj => ?_, fun j => by simp [World.frozen?, hg]⟩
    have := h0.cells (g := g) rfl j u hj
    rw [Addr.add_lit] at this
    simpa using this
theorem row_base {w : World} {B : Nat} {e : TypeId} {size n : Nat} {v : Value} {xs : List Value} (h : w.ownsRow B e size v n xs) : w.ownsRow 0 e size v n xs := by
  refine ⟨h.1, ?_⟩
  rcases h.2 with h | ⟨g, cap, cur, e, _, r⟩
  · exact .inl h
  · exact .inr ⟨g, cap, cur, e, Nat.zero_le _, r⟩
theorem grown_below {w w' : World} (hg : w.grownBy w' none) : Below w.heap.size w w' := ⟨hg.os, hg.tape, hg.output, hg.size, fun r hr => hg.block r hr (by simp)⟩
theorem cell_set_other {w : World} {b j g i : Nat} {u v : Value} (h : w.cell? ⟨b, j, none⟩ = some u) (hne : b ≠ g) : (w.setCell ⟨g, i, none⟩ v).cell? ⟨b, j, none⟩ = some u :=
  (World.cell?_of_block (w := w) (Below.heap_setCell _ _ _ _ hne)).trans h
theorem fm_set {α : Type} {enc : α → List Value} {k : Nat} (h : ∀ x, (enc x).length = k) {l : List α} : ∀ {i : Nat} {x x' : α} {j : Nat} {v : Value}, l[i]? = some x → j < k → (enc x).set j v = enc x' → (l.flatMap enc).set (i * k + j) v = (l.set i x').flatMap enc := by
  induction l with
  | nil => intro i x x' j v hx; simp at hx
  | cons a l ih =>
    intro i x x' j v hx hj he
    cases i with
    | zero =>
      simp at hx; subst hx
      rw [List.set_cons_zero, List.flatMap_cons, List.flatMap_cons, Nat.zero_mul, Nat.zero_add, List.set_append_left _ _ (by rw [h]; exact hj), he]
    | succ i =>
      rw [List.set_cons_succ, List.flatMap_cons, List.flatMap_cons, List.set_append_right _ _ (by rw [h, Nat.add_mul]; omega), h]
      have e : (i + 1) * k + j - k = i * k + j := by rw [Nat.add_mul]; omega
      rw [e, ih (by simpa using hx) hj he]
theorem flatS_set {l : List SL} {i : Nat} {x : SL} (h : l[i]? = some x) (fl : Int) : (flatS l).set (i * 3 + 2) (.int .i64 fl) = flatS (l.set i (x.1, fl)) :=
  fm_set (enc := encS) (k := 3) (fun _ => rfl) h (by omega) rfl
theorem c_SChange {w : World} {f : Nat → Nat} {tb : Nat} {L : List (List KK)} (hN : Norm f w) (h : TreeO w f tb L) (hL : L.length < 100000) (s : Nat) (A : List KK) (hs : L[s]? = some A) (hA : A.length ≤ 1000) (k : KK) (hk : okK k) (i : Nat) (hno : idx A (pk k) = some i) (fl : Int) (h0 : 0 ≤ fl) (h15 : fl ≤ 15) :
    Calls Tryz.prog 198 #[.pointer (some ⟨tb, 0, none⟩), .int .i64 (s : Int), keyV k.1 k.2, .int .i64 fl] w fun e w' =>
      ∃ (t : Nat) (f' : Nat → Nat) (L' : List (List KK)), e = .returned (.tuple #[.int .i64 (t : Int), .int .i64 0]) ∧ Turn C3 f f' w w' ∧ TreeO w' f' tb L' ∧ L'[t]? = some A ∧ (L' = L ∨ L' = L ++ [A]) := by
  obtain ⟨p, c, c0, c1, hrow⟩ := h.form
  obtain ⟨rb, sv, mb, rfl, l1, l2, l3, c2, c3, hS⟩ := hrow s A hs
  have hsl := (List.getElem?_eq_some_iff.1 hs).1
  obtain ⟨ss, gg, nn, r1, r2, r3, r4, r5, r6, r7⟩ := hS
  have hlen : ss.length = A.length := by rw [← r2]; simp
  obtain ⟨z, hz, hlk⟩ := look_K r5 (pk k) (pk_ok hk)
  rw [r7 _ (pk_ok hk), hno] at hlk
  rw [r7 _ (pk_ok hk), hno] at hz
  dsimp only [Option.map, Option.isSome] at hlk
  obtain rfl := hz _ rfl
  have hi : i < ss.length := by rw [hlen]; exact idx_lt hno
  have q3 : (0 : Int) ≤ (i : Int) := by omega
  have q4 : (i : Int) < (ss.length : Int) := by omega
  have hsf : ∃ p' c', sv = .slice p' ss.length c' ∧ (ss.length ≤ c') ∧ (p' = none → ss.length = 0 ∧ c' = 0) := by
    rcases r1.1.2 with ⟨e, h⟩ | ⟨g, cap, cur, e, _, _, hc, _⟩
    · rw [h]; exact ⟨_, _, e, Nat.zero_le _, fun _ => ⟨rfl, rfl⟩⟩
    · exact ⟨_, _, e, hc, fun h => by cases h⟩
  obtain ⟨p', c', rfl, hcc, hpn⟩ := hsf
  have hP := Lib.hid (c_Splain k hk.1)
  have hI := Lib.hid (c_Sis ((h.turn (Turn.of_below (fun _ => False) (w' := w.alloc (.cells #[.string k.1, .int .i64 k.2] 43)) hN ((Below.refl _ w).alloc (Nat.le_refl _) _)) id id id id)) s hsl)
  have p1 : (0 : Int) ≤ (s : Int) := by omega
  have p2 : (s : Int) < (L.length : Int) := by omega
  have n0 : ¬ fl < 0 := by omega
  have n15 : ¬ 15 < fl := by omega
  unfold keyV
  replace h := Lib.hid h
  replace hlen := Lib.hid hlen
  replace hL := Lib.hid hL
  replace hN := Lib.hid hN
  replace hno := Lib.hid hno
  replace hi := Lib.hid hi
  replace hs := Lib.hid hs
  replace hk := Lib.hid hk
  replace r1 := Lib.hid r1
  replace r2 := Lib.hid r2
  replace r3 := Lib.hid r3
  replace r4 := Lib.hid r4
  replace hpn := Lib.hid hpn
  obtain ⟨k0, kn⟩ := k
  dsimp only at *
  generalize hK : pk (k0, kn) = K at *
  replace hK := Lib.hid hK
  clear hz r5 r6 r7 hrow
  go_enter Tryz.func198, Tryz.ntmps198
  obtain ⟨W1, hW1⟩ : ∃ W1, w.alloc (.cells #[.string k0, .int .i64 kn] 43) = W1 := ⟨_, rfl⟩
  have hal1 : Below w.heap.size w W1 := by rw [← hW1]; exact (Below.refl _ w).alloc (Nat.le_refl _) _
  have hs1 : W1.heap.size = w.heap.size + 1 := by rw [← hW1]; simp
  have d0 : W1.heap[w.heap.size]? = some (.cells #[.string k0, .int .i64 kn] 43 (0, 0)) := by rw [← hW1]; exact heap_alloc_new w _
  rw [hW1] at hI
  rw [← hal1.cell (show (⟨tb, 1, none⟩ : Addr).block < _ from l1)] at c1
  rw [← hal1.cell (show (⟨rb, s * 2, none⟩ : Addr).block < _ from l2)] at c2
  rw [← hal1.cell (show (⟨rb, s * 2 + 1, none⟩ : Addr).block < _ from l2)] at c3
  rw [← hal1.block mb l3] at hlk
  clear c0
  obtain ⟨W2, hW2⟩ : ∃ W2, W1.alloc (.cells #[.slice p' ss.length c', .map (some mb)] 78) = W2 := ⟨_, rfl⟩
  have hal2 : Below W1.heap.size W1 W2 := by rw [← hW2]; exact (Below.refl _ W1).alloc (Nat.le_refl _) _
  have hs2 : W2.heap.size = W1.heap.size + 1 := by rw [← hW2]; simp
  have x0 : W2.heap[W1.heap.size]? = some (.cells #[.slice p' ss.length c', .map (some mb)] 78 (0, 0)) := by rw [← hW2]; exact heap_alloc_new W1 _
  have d0' : W2.heap[w.heap.size]? = some (.cells #[.string k0, .int .i64 kn] 43 (0, 0)) := (hal2.block _ (by omega)).trans d0
  have kc0 : W2.cell? ⟨w.heap.size, 0, none⟩ = some (.string k0) := by rw [cell_of_row _ _ 0 _ _ _ d0']; rfl
  have kc1 : W2.cell? ⟨w.heap.size, 1, none⟩ = some (.int .i64 kn) := by rw [cell_of_row _ _ 1 _ _ _ d0']; rfl
  have xc0 : W2.cell? ⟨W1.heap.size, 0, none⟩ = some (.slice p' ss.length c') := by rw [cell_of_row _ _ 0 _ _ _ x0]; rfl
  have xc1 : W2.cell? ⟨W1.heap.size, 1, none⟩ = some (.map (some mb)) := by rw [cell_of_row _ _ 1 _ _ _ x0]; rfl
  rw [← hal2.block mb (by omega)] at hlk
  have t1 : w.heap.size < W2.heap.size := by omega
  have t2 : W1.heap.size < W2.heap.size := by omega
  have t3 : mb < W2.heap.size := by omega
  replace hs1 := Lib.hid hs1
  replace hs2 := Lib.hid hs2
  replace l1 := Lib.hid l1
  replace l2 := Lib.hid l2
  replace l3 := Lib.hid l3
  clear d0 d0' x0
  go_wp2_with (first | (go_at_call 112; refine hI.out.mono ?_; rintro e w1 ⟨rfl, e1⟩; cases e1))
  go_region_held3 (fun y => (∀ a : Addr, a.block < W2.heap.size → y.cell? a = W2.cell? a) ∧ (∀ b : Nat, b < W2.heap.size → y.heap[b]? = W2.heap[b]?) ∧ Below W2.heap.size W2 y) (first | assumption | exact onto_drew W2 | exact onto_below (by assumption) (by assumption)) (first | (go_at_call 200; refine (hP.out _).mono ?_; rintro e y' ⟨rfl, hb⟩))
  have hO := onto_below (onto_drew W2) hb
  rw [← hO.1 ⟨w.heap.size, 0, none⟩ t1] at kc0
  rw [← hO.1 ⟨w.heap.size, 1, none⟩ t1] at kc1
  rw [← hO.1 ⟨W1.heap.size, 0, none⟩ t2] at xc0
  have hbw : Below w.heap.size w y' := (hal1.trans (hal2.mono hal1.size)).trans (hO.2.2.mono (by have := hs1.out; have := hs2.out; omega))
  have t1' : w.heap.size < y'.heap.size := Nat.lt_of_lt_of_le t1 hO.2.2.size
  have t2' : W1.heap.size < y'.heap.size := Nat.lt_of_lt_of_le t2 hO.2.2.size
  have t4 : w.heap.size ≤ W1.heap.size := by have := hs1.out; omega
  generalize W1.heap.size = xb at *
  clear hlk hb hO xc1 t1 t2 t3 c1 c2 c3 hal2 hW2 hI
  have hrw : y'.ownsRow 0 225 3 (.slice p' ss.length c') ss.length (flatS ss) := own_at r1.out.1 (fun r hr => hbw.block r (r1.out.1.lt r hr).2)
  obtain ⟨g, cap, heq, _, _⟩ := hrw.form (by have := hi.out; omega)
  injection heq with e1 e2 e3
  subst e1
  subst e3
  clear e2
  obtain ⟨x, hx⟩ : ∃ x, ss[i]? = some x := ⟨_, List.getElem?_eq_getElem hi.out⟩
  have c4 := hrw.cells (g := g) rfl _ _ (flatS_get hx).2.2
  rw [add_zero_addr] at c4
  have hNy : Norm f y' := fun r hr => hN.out r (Nat.le_trans hbw.size hr)
  have hTy : TreeO y' f tb L := h.out.turn (Turn.of_below (fun _ => False) hN.out hbw) id id id id
  obtain ⟨⟨xk0, xkn⟩, xf⟩ := x
  dsimp only at c4
  by_cases hxf : xf = fl
  · subst hxf
    replace hbw := Lib.hid hbw
    replace hTy := Lib.hid hTy
    replace hrw := Lib.hid hrw
    replace hx := Lib.hid hx
    clear hNy
    go_wp2
    go_ret2
    exact ⟨s, f, L, rfl, Turn.of_below _ hN.out hbw.out, hTy.out, hs.out, .inl rfl⟩
  · have hlo := flatS_len ss
    have hcells := hrw.cells (g := g) rfl
    have hone : ∀ u ∈ flatS ss, u.oneCell' = true := by
      intro u hu
      obtain ⟨y, _, hy⟩ := List.mem_flatMap.1 hu
      simp [encS] at hy
      rcases hy with rfl | rfl | rfl <;> rfl
    have hsl1 : 0 < ss.length ∧ ss.length ≤ 1000 := by have := hlen.out; have := hi.out; omega
    have hss2 : (ss.set i ((xk0, xkn), fl)).map (fun x => pk x.1) = A := by
      rw [List.map_set, ← r2.out]
      apply List.ext_getElem?
      intro j
      rw [List.getElem?_set]
      split
      · rename_i e; subst e
        rw [List.getElem?_map, hx]
        simp [hi.out]
      · rfl
    have hok2 : ∀ x ∈ ss.set i ((xk0, xkn), fl), okK x.1 := by
      intro x hx'
      rcases List.mem_or_eq_of_mem_set hx' with h | h
      · exact r3.out x h
      · subst h; exact r3.out ((xk0, xkn), xf) (List.mem_of_getElem? hx)
    have hwf : (Lit.int .i64 fl).wf = true := WalkArith.wf_i64 (by omega)
    have hpk : pk (k0, kn) = K := hK.out
    have hP2 : ∀ y : World, Calls Tryz.prog 200 #[.agg #[.string k0, .int .i64 kn]] y fun e w' => e = .returned (.agg #[.string K.1, .int .i64 K.2]) ∧ Below y.heap.size y w' := hP.out
    replace hP2 := Lib.hid hP2
    have hfo := fun (y : World) (v : Value) (hB : Below y'.heap.size y' y) (hr : RowN y v ss.length (flatS (ss.set i ((xk0, xkn), fl))) y'.heap.size) =>
      c_followS (W := y') (y := y) (f := f) (tb := tb) (L := L) (T := A) s true K fl hL.out A hs.out (by rw [← hpk]; exact pk_ok hk.out) hwf v (ss.set i ((xk0, xkn), fl)) rfl hss2 hok2 r4.out (by simp; omega) ⟨fun a ha _ => hB.cell ha, .inl ⟨hTy, hNy, hB⟩⟩ (by simpa using hr.1) hr.2
    obtain ⟨i0, hi0, hz0, hz1, hz2⟩ := info_parts infoSlot
    have hm1 : 0 + ss.length ≤ maxLen ∧ (0 + ss.length) * 32 ≤ 140737488355328 ∧ 0 < 0 + ss.length := by unfold maxLen; omega
    replace hlo := Lib.hid hlo
    replace hcells := Lib.hid hcells
    replace hone := Lib.hid hone
    replace hsl1 := Lib.hid hsl1
    replace hfo := Lib.hid hfo
    replace hm1 := Lib.hid hm1
    have hxs := Lib.hid (flatS_set hx fl)
    have hx3 := Lib.hid (flatS_get hx).2.2
    replace hbw := Lib.hid hbw
    replace hrw := Lib.hid hrw
    replace hx := Lib.hid hx
    clear hNy hTy hss2 hok2 hwf hpk
    go_wp2_with (first | (at_builtin; refine wpList_append_grows _ rfl _ _ 76 rfl 225 i0 _ 3 32 Tryz.underlying76 hi0 hz0 hz1 hz2 rfl (by omega) none 0 0 [] rfl (fun _ => ⟨rfl, rfl⟩) rfl (fun b hb => by cases hb) ⟨g, 0, none⟩ ss.length c' (flatS ss) rfl hlo.out hcells.out hone.out hm1.out.2.2 hm1.out.1 hm1.out.2.1 ?_; intro v4 w4 hown4 hg4; rw [Nat.zero_add, List.nil_append] at hown4; obtain ⟨g4, cap4, rfl, b4, s4, cc4, ff4⟩ := row_front hown4 hsl1.out.1; have cc5 := cc4 _ _ hx3.out; have ff5 := ff4 (i * 3 + 2); have hb4 := grown_below hg4; have kc0' := cell_set_other (i := i * 3 + 2) (v := .int .i64 fl) ((hb4.cell (show (⟨w.heap.size, 0, none⟩ : Addr).block < _ from t1')).trans kc0) (show w.heap.size ≠ g4 by omega); have kc1' := cell_set_other (i := i * 3 + 2) (v := .int .i64 fl) ((hb4.cell (show (⟨w.heap.size, 1, none⟩ : Addr).block < _ from t1')).trans kc1) (show w.heap.size ≠ g4 by omega); have hr5 := Lib.hid (show RowN (w4.setCell ⟨g4, i * 3 + 2, none⟩ (.int .i64 fl)) (.slice (some ⟨g4, 0, none⟩) ss.length cap4) ss.length (flatS (ss.set i ((xk0, xkn), fl))) y'.heap.size from ⟨by rw [← hxs.out]; exact row_set (row_base hown4) _ _, fun r hr => by simp [Value.ownBlock] at hr; subst hr; exact b4⟩); have hB5 := Lib.hid (hb4.setCell (p := ⟨g4, i * 3 + 2, none⟩) b4 (.int .i64 fl)); clear hown4 cc4 ff4 hg4 hb4) | (go_at_call 200; refine (hP2.out _).mono ?_; rintro e y2 ⟨rfl, hb2⟩; replace hb2 := Lib.hid hb2) | (go_at_call 202; refine (hfo.out _ _ ?_ ?_).mono ?_; exact hB5.out.trans (hb2.out.mono hB5.out.size); exact hr5.out.below hb2.out; rintro e y5 ⟨t, rfl, hE, hSS⟩; replace hE := Lib.hid hE; clear hSS))
    go_ret2
    obtain ⟨fy, Ly, e1, e2, e3, e4, e5⟩ := hE.out
    exact ⟨t, fy, Ly, rfl, (Turn.of_below C3 hN.out hbw.out).trans e1, e2, e3, e4⟩
end Go.Proofs.YtkbohoolnpaleaaGreatDoor

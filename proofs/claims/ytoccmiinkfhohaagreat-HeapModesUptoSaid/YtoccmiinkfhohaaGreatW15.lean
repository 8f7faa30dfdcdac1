/-
  Contracts: The model of a law's operations: the implementation's heap and the reference's, side by side. The contract of the law's do: an operation of both heaps. A list of operations as an argument; the contract of the law's few. The contract of the law's do: an operation of both heaps, and they answer alike. The plain law of HeapFast, and of HeapRoom. The laws' state: two heaps side by side above what was there.
-/
import Derived.Test.YtoccmiinkfhohaaGreatW14
import Derived.Test.YtoccmiinkfhohaaGreatW12
namespace Go.Proofs.YtoccmiinkfhohaaGreat
open Go.RowKit Go.Shelf Go.Lib Go.Sort Go.Proofs Go.Maps
set_option linter.unusedVariables false
set_option maxHeartbeats 400000
set_option maxRecDepth 8000

/-- an object without its mode -/
def strip (a : OB) : OB := { a with fast := false }
def stp (H : List OB) : List OB := H.map strip
theorem stp_len (H : List OB) : (stp H).length = H.length := by simp [stp]
theorem stp_has (H : List OB) (o : Int) : hasH (stp H) o = hasH H o := by simp [hasH, stp]
theorem stp_used (H : List OB) : usedH (stp H) = usedH H := by
  unfold usedH stp
  rw [List.length_map, List.map_map]
  rfl
theorem stp_get (H : List OB) (i : Nat) : (stp H)[i]? = H[i]?.map strip := by simp [stp]
theorem stp_obj (H : List OB) (o : Int) : objH (stp H) o = (objH H o).map strip := by
  unfold objH
  rw [stp_has, stp_get]
  split <;> rfl
theorem stp_own (H : List OB) (o : Int) (K : KK) : ownH (stp H) o K = ownH H o K := by
  unfold ownH
  rw [stp_obj]
  cases objH H o <;> rfl
theorem stp_list (H : List OB) (o : Int) : listH (stp H) o = listH H o := by
  unfold listH
  rw [stp_obj]
  cases objH H o <;> rfl
theorem stp_makeE (H : List OB) (lim c p : Int) : makeE (stp H) lim c p = makeE H lim c p := by
  unfold makeE
  rw [stp_has, stp_used]
theorem stp_makeN (H : List OB) (lim c p : Int) : makeN (stp H) lim c p = makeN H lim c p := by
  unfold makeN
  rw [stp_makeE, stp_len]
theorem stp_make (H : List OB) (lim c p : Int) : makeH false (stp H) lim c p = stp (makeH true H lim c p) := by
  unfold makeH
  rw [stp_makeE]
  split
  · simp [stp, strip]
  · rfl
theorem stp_upd (H : List OB) (o : Int) (g g' : OB → OB) (hg : ∀ a, strip (g a) = g' (strip a)) : updH (stp H) o g' = stp (updH H o g) := by
  unfold updH
  rw [stp_obj]
  cases objH H o with
  | none => rfl
  | some a =>
    show (stp H).set _ (g' (strip a)) = stp (H.set _ (g a))
    unfold stp
    rw [List.map_set, hg]
theorem stp_putE (H : List OB) (lim o : Int) (K : KK) (p : PV) : putE (stp H) lim o K p = putE H lim o K p := by
  unfold putE
  rw [stp_has, stp_own, stp_used]
theorem stp_put (H : List OB) (lim o : Int) (K : KK) (p : PV) : rputH (stp H) lim o K p = stp (putH H lim o K p) := by
  unfold rputH putH
  rw [stp_putE]
  split
  · exact stp_upd H o (putA K p) (rputA K p) (fun a => rfl)
  · rfl
theorem strip_drop (K : KK) (a : OB) : strip (dropA K a) = rdropA K (strip a) := by
  unfold dropA rdropA
  show _ = match idx (gk a.l) K with | some j => _ | none => _
  cases idx (gk a.l) K <;> rfl
theorem stp_drop (H : List OB) (o : Int) (K : KK) : updH (stp H) o (rdropA K) = stp (updH H o (dropA K)) := stp_upd H o _ _ (strip_drop K)
theorem stp_dropB (H : List OB) (o : Int) (K : KK) : dropB (stp H) o K = dropB H o K := by
  unfold dropB
  rw [stp_own]
theorem stp_setE (H : List OB) (o p : Int) : setE (stp H) o p = setE H o p := by
  unfold setE
  rw [stp_has, stp_has]
theorem stp_set (H : List OB) (o p : Int) : setH (stp H) o p = stp (setH H o p) := by
  unfold setH
  rw [stp_setE]
  split
  · exact stp_upd H o (fun a => { a with pro := p }) (fun a => { a with pro := p }) (fun a => rfl)
  · rfl
def shutA (a : OB) : OB := { a with shut := true }
def forceA (a : OB) : OB := { a with fast := false }
theorem stp_shut (H : List OB) (o : Int) : updH (stp H) o shutA = stp (updH H o shutA) := stp_upd H o _ _ (fun a => rfl)
theorem stp_force (H : List OB) (o : Int) : stp (updH H o forceA) = stp H := by
  have h1 := stp_upd H o forceA forceA (fun a => rfl)
  rw [← h1]
  refine updH_id _ _ _ fun a h => ?_
  rw [stp_obj] at h
  cases hb : objH H o with
  | none => rw [hb] at h; cases h
  | some b => rw [hb] at h; cases h; rfl
theorem stp_hasE (H : List OB) (o : Int) : hasE (stp H) o = hasE H o := by
  unfold hasE
  rw [stp_has]
/-- what it makes of a heap -/
def opH (lim : Int) (H : List OB) (x : OP) : List OB :=
  if x.kd = 0 then makeH true H lim x.n x.o else if x.kd = 1 then putH H lim x.o (pk x.k) x.p else if x.kd = 2 then updH H x.o (dropA (pk x.k)) else if x.kd = 3 then setH H x.o x.n else if x.kd = 4 then updH H x.o shutA else updH H x.o forceA
theorem upd_len (H : List OB) (o : Int) (g : OB → OB) : (updH H o g).length = H.length := by
  unfold updH
  split
  · simp
  · rfl
theorem upd_mem {H : List OB} {o : Int} {g : OB → OB} {a : OB} (h : a ∈ updH H o g) : a ∈ H ∨ ∃ b ∈ H, a = g b := by
  unfold updH at h
  rcases objH_cases H o with ⟨_, h2⟩ | ⟨n, b, rfl, h0, hb, h3, _⟩
  · rw [h2] at h; exact .inl h
  · rw [h3] at h
    rcases List.mem_or_eq_of_mem_set h with h | h
    · exact .inl h
    · exact .inr ⟨b, List.mem_of_getElem? hb, h⟩
theorem used_upd (H : List OB) (o : Int) (g : OB → OB) (d : Nat) (hg : ∀ a, (g a).l.length ≤ a.l.length + d) : usedH (updH H o g) ≤ usedH H + d := by
  unfold updH
  rcases objH_cases H o with ⟨_, h2⟩ | ⟨n, b, rfl, h0, hb, h3, _⟩
  · rw [h2]; exact Nat.le_add_right _ _
  · rw [h3]
    have h4 : ((n : Int).toNat - 1) = n - 1 := by simp
    have e := usedH_set (a' := g b) hb
    have := hg b
    show usedH (H.set ((n : Int).toNat - 1) (g b)) ≤ _
    rw [h4]
    omega
theorem drop_len (K : KK) (a : OB) : (dropA K a).l.length ≤ a.l.length + 0 := by
  unfold dropA
  cases idx (gk a.l) K with
  | none => exact Nat.le_refl _
  | some j =>
    show (a.l.eraseIdx j).length ≤ _
    rw [List.length_eraseIdx]
    split <;> omega
theorem op_used (lim : Int) (H : List OB) (x : OP) : usedH (opH lim H x) ≤ usedH H + 1 := by
  unfold opH
  split
  · unfold makeH
    split
    · simp [usedH]; omega
    · omega
  · split
    · unfold putH
      split
      · exact used_upd H _ _ 1 (fun a => by
          show (putL a.l _ _).length ≤ _
          rw [putL_len]
          split <;> omega)
      · omega
    · split
      · have := used_upd H x.o (dropA (pk x.k)) 0 (drop_len _); omega
      · split
        · unfold setH
          split
          · have := used_upd H x.o (fun a => { a with pro := x.n }) 0 (fun a => Nat.le_refl _); omega
          · omega
        · split
          · have := used_upd H x.o shutA 0 (fun a => Nat.le_refl _); omega
          · have := used_upd H x.o forceA 0 (fun a => Nat.le_refl _); omega
theorem len_used {H : List OB} {a : OB} (h : a ∈ H) : a.l.length ≤ usedH H := by
  unfold usedH
  have : a.l.length ∈ H.map fun a => a.l.length := List.mem_map_of_mem h
  have := mem_le_sum this
  omega
theorem used_len (H : List OB) : H.length ≤ usedH H := by unfold usedH; omega
/-- two worlds: what neither heap owns is as it was -/
structure TwoK (w w' : World) (f f2 f' f2' : Nat → Nat) : Prop where
  os : w'.os = w.os
  tape : w'.tape = w.tape
  output : w'.output = w.output
  size : w.heap.size ≤ w'.heap.size
  own : ∀ r, r < w.heap.size → f' r = f r ∧ f2' r = f2 r
  block : ∀ r, r < w.heap.size → f r = 0 → f2 r = 0 → w'.heap[r]? = w.heap[r]?
theorem TwoK.refl (w : World) (f f2 : Nat → Nat) : TwoK w w f f2 f f2 := ⟨rfl, rfl, rfl, Nat.le_refl _, fun _ _ => ⟨rfl, rfl⟩, fun _ _ _ _ => rfl⟩
theorem TwoK.trans {w w' w'' : World} {f f2 f' f2' f'' f2'' : Nat → Nat} (h : TwoK w w' f f2 f' f2') (h' : TwoK w' w'' f' f2' f'' f2'') : TwoK w w'' f f2 f'' f2'' :=
  ⟨h'.os.trans h.os, h'.tape.trans h.tape, h'.output.trans h.output, Nat.le_trans h.size h'.size,
   fun r hr => by
    obtain ⟨a, b⟩ := h.own r hr
    obtain ⟨c, d⟩ := h'.own r (Nat.lt_of_lt_of_le hr h.size)
    exact ⟨c.trans a, d.trans b⟩,
   fun r hr h1 h2 => by
    obtain ⟨a, b⟩ := h.own r hr
    exact (h'.block r (Nat.lt_of_lt_of_le hr h.size) (a.trans h1) (b.trans h2)).trans (h.block r hr h1 h2)⟩
theorem TwoK.of_below {w w' : World} (f f2 : Nat → Nat) (h : Below w.heap.size w w') : TwoK w w' f f2 f f2 := ⟨h.os, h.tape, h.output, h.size, fun _ _ => ⟨rfl, rfl⟩, fun r hr _ _ => h.block r hr⟩
theorem TwoK.below {w w' : World} {f f2 f' f2' : Nat → Nat} (h : TwoK w w' f f2 f' f2') {N : Nat} (hN : N ≤ w.heap.size) (hf : ∀ r, r < N → f r = 0 ∧ f2 r = 0) : Below N w w' :=
  ⟨h.os, h.tape, h.output, h.size, fun r hr => h.block r (Nat.lt_of_lt_of_le hr hN) (hf r hr).1 (hf r hr).2⟩
/-- .. and the heap's tree only gets more shapes -/
structure TwoG (hb : Nat) (w w' : World) (f f2 f' f2' : Nat → Nat) : Prop extends TwoK w w' f f2 f' f2' where
  grow : Grows w f hb w' f'
theorem TwoG.refl (hb : Nat) (w : World) (f f2 : Nat → Nat) : TwoG hb w w f f2 f f2 := ⟨TwoK.refl w f f2, Grows.below f (Below.refl _ w)⟩
theorem TwoG.trans {hb : Nat} {w w' w'' : World} {f f2 f' f2' f'' f2'' : Nat → Nat} (h : TwoG hb w w' f f2 f' f2') (h' : TwoG hb w' w'' f' f2' f'' f2'') : TwoG hb w w'' f f2 f'' f2'' := ⟨h.toTwoK.trans h'.toTwoK, h.grow.trans h'.grow⟩
theorem TwoG.of_below {hb : Nat} {w w' : World} (f f2 : Nat → Nat) (h : Below w.heap.size w w') : TwoG hb w w' f f2 f f2 := ⟨TwoK.of_below f f2 h, Grows.below f h⟩
theorem TwoG.below {hb : Nat} {w w' : World} {f f2 f' f2' : Nat → Nat} (h : TwoG hb w w' f f2 f' f2') {N : Nat} (hN : N ≤ w.heap.size) (hf : ∀ r, r < N → f r = 0 ∧ f2 r = 0) : Below N w w' := h.toTwoK.below hN hf
/-- the two heaps, side by side -/
def Two (w : World) (hb rb : Nat) (lim : Int) (B : Nat) (H : List OB) (f f2 : Nat → Nat) : Prop :=
  Norm f w ∧ Norm f2 w ∧ HeapO w f hb lim (usedH H) B H ∧ RefO w f2 rb lim (stp H) ∧ ∀ r, f2 r ≠ 0 → f r = 0
theorem Norm.below {f : Nat → Nat} {w w' : World} (h : Norm f w) (hs : w.heap.size ≤ w'.heap.size) : Norm f w' := fun r hr => h r (Nat.le_trans hs hr)
theorem Two.below {w w' : World} {hb rb B : Nat} {lim : Int} {H : List OB} {f f2 : Nat → Nat} (h : Two w hb rb lim B H f f2) (hb' : Below w.heap.size w w') : Two w' hb rb lim B H f f2 := by
  obtain ⟨h1, h2, h3, h4, h5⟩ := h
  exact ⟨h1.below hb'.size, h2.below hb'.size, h3.below h1 hb', h4.below h2 hb', h5⟩
theorem Two.mono {w : World} {hb rb B B' : Nat} {lim : Int} {H : List OB} {f f2 : Nat → Nat} (h : Two w hb rb lim B H f f2) (hB : B ≤ B') : Two w hb rb lim B' H f f2 := by
  obtain ⟨h1, h2, h3, h4, h5⟩ := h
  exact ⟨h1, h2, h3.mono h1 hB, h4, h5⟩
/-- behind a call on the implementation's heap -/
theorem two_impl {w w' : World} {hb rb B B' : Nat} {lim : Int} {H H' : List OB} {f f2 : Nat → Nat} (h : Two w hb rb lim B H f f2) (ht : HeapT w f hb lim (usedH H') B' H' w') :
    ∃ f', Norm f' w' ∧ Norm f2 w' ∧ HeapO w' f' hb lim (usedH H') B' H' ∧ RefO w' f2 rb lim (stp H) ∧ (∀ r, f2 r ≠ 0 → f' r = 0) ∧ TwoG hb w w' f f2 f' f2 := by
  obtain ⟨h1, h2, h3, h4, h5⟩ := h
  obtain ⟨f', t1, t2, t3⟩ := ht
  have hk : ∀ r, r < w.heap.size → f r = 0 → w'.heap[r]? = w.heap[r]? := fun r hr h0 => t1.block r hr (fun hc => hc.2 h0)
  have tr : Turn (fun c => c = 0) f2 f2 w w' := ⟨t1.os, t1.tape, t1.output, t1.size, fun _ _ => rfl, h2.below t1.size, fun r hr hn => hk r hr (h5 r hn)⟩
  refine ⟨f', t1.norm, h2.below t1.size, t2, h4.turn tr (fun _ h => h), fun r hr => ?_, ⟨⟨t1.os, t1.tape, t1.output, t1.size, fun r hr => ⟨t1.agree r hr, rfl⟩, fun r hr h0 _ => hk r hr h0⟩, t3⟩⟩
  have hlt : r < w.heap.size := Nat.lt_of_not_le fun hle => hr (h2 r hle)
  rw [t1.agree r hlt]
  exact h5 r hr
/-- behind a call on the reference's heap -/
theorem two_ref {w w' : World} {hb rb B : Nat} {lim : Int} {H : List OB} {R' : List OB} {f f2 : Nat → Nat} (h1 : Norm f w) (h2 : Norm f2 w) (h3 : HeapO w f hb lim (usedH H) B H) (h5 : ∀ r, f2 r ≠ 0 → f r = 0) (ht : RefT w f2 rb lim R' w') (hR : R' = stp H) :
    ∃ f2', Two w' hb rb lim B H f f2' ∧ TwoG hb w w' f f2 f f2' := by
  obtain ⟨f2', t1, t2⟩ := ht
  subst hR
  have hk : ∀ r, r < w.heap.size → f2 r = 0 → w'.heap[r]? = w.heap[r]? := fun r hr h0 => t1.block r hr (fun hc => by omega)
  have tr : Turn (fun c => c = 0) f f w w' := ⟨t1.os, t1.tape, t1.output, t1.size, fun _ _ => rfl, h1.below t1.size, fun r hr hn => hk r hr (by
    by_cases h : f2 r = 0
    · exact h
    · exact absurd (h5 r h) hn)⟩
  refine ⟨f2', ⟨h1.below t1.size, t1.norm, h3.turn tr (fun _ h => h), t2, fun r hr => ?_⟩, ⟨⟨t1.os, t1.tape, t1.output, t1.size, fun r hr => ⟨rfl, t1.agree r hr⟩, fun r hr _ h0 => hk r hr h0⟩, Grows.turn tr (fun _ h => .inl h)⟩⟩
  by_cases hlt : r < w.heap.size
  · rw [t1.agree r hlt] at hr; exact h5 r hr
  · exact h1 r (by omega)
/-- the implementation has done its part -/
def Half (w0 w : World) (hb rb : Nat) (lim : Int) (B : Nat) (H H' : List OB) (f f2 : Nat → Nat) : Prop :=
  ∃ f', Norm f' w ∧ Norm f2 w ∧ HeapO w f' hb lim (usedH H') B H' ∧ RefO w f2 rb lim (stp H) ∧ (∀ r, f2 r ≠ 0 → f' r = 0) ∧ TwoG hb w0 w f f2 f' f2
/-- both have -/
def Done (w0 w : World) (hb rb : Nat) (lim : Int) (B : Nat) (H : List OB) (f f2 : Nat → Nat) : Prop := ∃ f' f2', Two w hb rb lim B H f' f2' ∧ TwoG hb w0 w f f2 f' f2'
theorem half_of {w0 w w' : World} {hb rb B B' : Nat} {lim : Int} {H H' : List OB} {f f2 : Nat → Nat} (h : Two w hb rb lim B H f f2) (h0 : TwoG hb w0 w f f2 f f2) (ht : HeapT w f hb lim (usedH H') B' H' w') : Half w0 w' hb rb lim B' H H' f f2 := by
  obtain ⟨f', h1, h2, h3, h4, h5, h6⟩ := two_impl h ht
  exact ⟨f', h1, h2, h3, h4, h5, h0.trans h6⟩
theorem done_of {w0 w w' : World} {hb rb B : Nat} {lim : Int} {H H' R' : List OB} {f f2 : Nat → Nat} (h : Half w0 w hb rb lim B H H' f f2) (ht : RefT w f2 rb lim R' w') (hR : R' = stp H') : Done w0 w' hb rb lim B H' f f2 := by
  obtain ⟨f', h1, h2, h3, h4, h5, h6⟩ := h
  obtain ⟨f2', g1, g2⟩ := two_ref h1 h2 h3 h5 ht hR
  exact ⟨f', f2', g1, h6.trans g2⟩
theorem Half.drew {w0 w : World} {hb rb B : Nat} {lim : Int} {H H' : List OB} {f f2 : Nat → Nat} (h : Half w0 w hb rb lim B H H' f f2) : Half w0 w.drew hb rb lim B H H' f f2 := by
  obtain ⟨f', h1, h2, h3, h4, h5, h6⟩ := h
  have hb' : Below w.heap.size w w.drew := (Below.refl _ w).drew
  exact ⟨f', h1, h2, h3.below h1 hb', h4.below h2 hb', h5, h6.trans (TwoG.of_below f' f2 hb')⟩
theorem Half.cells {w0 w : World} {hb rb B b : Nat} {lim : Int} {H H' : List OB} {f f2 : Nat → Nat} (h : Half w0 w hb rb lim B H H' f f2) (hf : f b = 0 ∧ f2 b = 0 ∧ b < w0.heap.size) : ∀ i : Nat, w.cell? ⟨b, i, none⟩ = w0.cell? ⟨b, i, none⟩ := by
  obtain ⟨f', h1, h2, h3, h4, h5, h6⟩ := h
  exact fun i => World.cell?_of_block (w := w0) (a := ⟨b, i, none⟩) (h6.block b hf.2.2 hf.1 hf.2.1)
theorem Done.cells {w0 w : World} {hb rb B b : Nat} {lim : Int} {H : List OB} {f f2 : Nat → Nat} (h : Done w0 w hb rb lim B H f f2) (hf : f b = 0 ∧ f2 b = 0 ∧ b < w0.heap.size) : ∀ i : Nat, w.cell? ⟨b, i, none⟩ = w0.cell? ⟨b, i, none⟩ := by
  obtain ⟨f', f2', h1, h6⟩ := h
  exact fun i => World.cell?_of_block (w := w0) (a := ⟨b, i, none⟩) (h6.block b hf.2.2 hf.1 hf.2.1)
theorem stp_small {H : List OB} (hu : usedH H ≤ 100000) : ∀ a ∈ stp H, a.l.length ≤ 100000 := fun a ha => by
  have := len_used ha
  rw [stp_used] at this
  omega
end Go.Proofs.YtoccmiinkfhohaaGreat
namespace Go.Proofs.YtoccmiinkfhohaaGreat
open Go.RowKit Go.Shelf Go.Lib Go.Sort Go.Proofs Go.Maps
set_option linter.unusedVariables false
set_option maxHeartbeats 4000000
set_option maxRecDepth 100000

section
variable {w0 w : World} {hb rb B : Nat} {lim : Int} {H H' : List OB} {f f2 : Nat → Nat}
theorem t_HMake (h : Two w hb rb lim B H f f2) (h0 : TwoG hb w0 w f f2 f f2) (hu : usedH H ≤ 100000) (c p : Int) :
    Calls Tryz.prog 16 #[ptrV hb, .int .i64 c, .int .i64 p] w fun e w' => e = .returned (.tuple #[.int .i64 (makeN H lim c p), .int .i64 (makeE H lim c p)]) ∧ Half w0 w' hb rb lim B H (makeH true H lim c p) f f2 :=
  (c_HMake h.1 h.2.2.1 hu c p).mono fun _ _ hx => ⟨hx.1, half_of h h0 hx.2⟩
theorem t_RMake (c p : Int) (h : Half w0 w hb rb lim B H (makeH true H lim c p) f f2) (hu : usedH H ≤ 100000) :
    Calls Tryz.prog 25 #[ptrV rb, .int .i64 c, .int .i64 p] w fun e w' => e = .returned (.tuple #[.int .i64 (makeN H lim c p), .int .i64 (makeE H lim c p)]) ∧ Done w0 w' hb rb lim B (makeH true H lim c p) f f2 := by
  have h' := h
  obtain ⟨f', h1, h2, h3, h4, h5, h6⟩ := h
  have hc := c_RMake h2 h4 (by rw [stp_used]; exact hu) c p
  rw [stp_makeN, stp_makeE, stp_make] at hc
  exact hc.mono fun _ _ hx => ⟨hx.1, done_of h' hx.2 rfl⟩
theorem t_HPut (h : Two w hb rb lim B H f f2) (h0 : TwoG hb w0 w f f2 f f2) (hB1 : 128 ≤ B) (hB : B < 90000) (hu : usedH H ≤ 100000) (o : Int) (k : KK) (hk : okK k) (p : PV) :
    Calls Tryz.prog 17 #[ptrV hb, .int .i64 o, keyV k.1 k.2, propV p] w fun e w' => e = .returned (.int .i64 (putE H lim o (pk k) p)) ∧ Half w0 w' hb rb lim (B + 2) H (putH H lim o (pk k) p) f f2 :=
  (c_HPut h.1 h.2.2.1 hB1 hB hu o k hk p).mono fun _ _ hx => ⟨hx.1, half_of h h0 hx.2⟩
theorem t_RPut (o : Int) (k : KK) (hk : okK k) (p : PV) (h : Half w0 w hb rb lim B H (putH H lim o (pk k) p) f f2) (hu : usedH H ≤ 100000) :
    Calls Tryz.prog 26 #[ptrV rb, .int .i64 o, keyV k.1 k.2, propV p] w fun e w' => e = .returned (.int .i64 (putE H lim o (pk k) p)) ∧ Done w0 w' hb rb lim B (putH H lim o (pk k) p) f f2 := by
  have h' := h
  obtain ⟨f', h1, h2, h3, h4, h5, h6⟩ := h
  have hc := c_RPut h2 h4 (stp_small hu) (by rw [stp_used]; exact hu) o k hk p
  rw [stp_putE, stp_put] at hc
  exact hc.mono fun _ _ hx => ⟨hx.1, done_of h' hx.2 rfl⟩
theorem t_HDrop (h : Two w hb rb lim B H f f2) (h0 : TwoG hb w0 w f f2 f f2) (hB1 : 128 ≤ B) (hB : B ≤ 100000) (hu : usedH H ≤ 100000) (o : Int) (k : KK) (hk : okK k) :
    Calls Tryz.prog 23 #[ptrV hb, .int .i64 o, keyV k.1 k.2] w fun e w' => e = .returned (.bool (dropB H o (pk k))) ∧ Half w0 w' hb rb lim B H (updH H o (dropA (pk k))) f f2 :=
  (c_HDrop h.1 h.2.2.1 hB1 hB hu o k hk).mono fun _ _ hx => ⟨hx.1, half_of h h0 hx.2⟩
theorem t_RDrop (o : Int) (k : KK) (hk : okK k) (h : Half w0 w hb rb lim B H (updH H o (dropA (pk k))) f f2) (hu : usedH H ≤ 100000) :
    Calls Tryz.prog 27 #[ptrV rb, .int .i64 o, keyV k.1 k.2] w fun e w' => e = .returned (.bool (dropB H o (pk k))) ∧ Done w0 w' hb rb lim B (updH H o (dropA (pk k))) f f2 := by
  have h' := h
  obtain ⟨f', h1, h2, h3, h4, h5, h6⟩ := h
  have hc := c_RDrop h2 h4 (stp_small hu) o k hk
  rw [stp_dropB, stp_drop] at hc
  exact hc.mono fun _ _ hx => ⟨hx.1, done_of h' hx.2 rfl⟩
theorem t_HSetProto (h : Two w hb rb lim B H f f2) (h0 : TwoG hb w0 w f f2 f f2) (o p : Int) :
    Calls Tryz.prog 28 #[ptrV hb, .int .i64 o, .int .i64 p] w fun e w' => e = .returned (.int .i64 (setE H o p)) ∧ Half w0 w' hb rb lim B H (setH H o p) f f2 :=
  (c_HSetProto h.1 h.2.2.1 o p).mono fun _ _ hx => ⟨hx.1, half_of h h0 hx.2⟩
theorem t_RSetProto (o p : Int) (h : Half w0 w hb rb lim B H (setH H o p) f f2) :
    Calls Tryz.prog 29 #[ptrV rb, .int .i64 o, .int .i64 p] w fun e w' => e = .returned (.int .i64 (setE H o p)) ∧ Done w0 w' hb rb lim B (setH H o p) f f2 := by
  have h' := h
  obtain ⟨f', h1, h2, h3, h4, h5, h6⟩ := h
  have hc := c_RSetProto h2 h4 o p
  rw [stp_setE, stp_set] at hc
  exact hc.mono fun _ _ hx => ⟨hx.1, done_of h' hx.2 rfl⟩
theorem t_HShut (h : Two w hb rb lim B H f f2) (h0 : TwoG hb w0 w f f2 f f2) (o : Int) :
    Calls Tryz.prog 30 #[ptrV hb, .int .i64 o] w fun e w' => e = .returned (.int .i64 (hasE H o)) ∧ Half w0 w' hb rb lim B H (updH H o shutA) f f2 :=
  (c_HShut h.1 h.2.2.1 o).mono fun _ _ hx => ⟨hx.1, half_of h h0 hx.2⟩
theorem t_RShut (o : Int) (h : Half w0 w hb rb lim B H (updH H o shutA) f f2) :
    Calls Tryz.prog 31 #[ptrV rb, .int .i64 o] w fun e w' => e = .returned (.int .i64 (hasE H o)) ∧ Done w0 w' hb rb lim B (updH H o shutA) f f2 := by
  have h' := h
  obtain ⟨f', h1, h2, h3, h4, h5, h6⟩ := h
  have hc : Calls Tryz.prog 31 #[ptrV rb, .int .i64 o] w fun e w' => e = .returned (.int .i64 (hasE (stp H) o)) ∧ RefT w f2 rb lim (updH (stp H) o shutA) w' := c_RShut h2 h4 o
  rw [stp_hasE, stp_shut] at hc
  exact hc.mono fun _ _ hx => ⟨hx.1, done_of h' hx.2 rfl⟩
theorem t_HForce (h : Two w hb rb lim B H f f2) (h0 : TwoG hb w0 w f f2 f f2) (hB1 : 128 ≤ B) (o : Int) :
    Calls Tryz.prog 12 #[ptrV hb, .int .i64 o] w fun e w' => e = .returned (.int .i64 (hasE H o)) ∧ Done w0 w' hb rb lim B (updH H o forceA) f f2 :=
  (c_HForce h.1 h.2.2.1 hB1 o).mono fun _ _ hx => ⟨hx.1, by
    obtain ⟨f', h1, h2, h3, h4, h5, h6⟩ := half_of h h0 hx.2
    exact ⟨f', f2, ⟨h1, h2, h3, by rw [stp_force]; exact h4, h5⟩, h6⟩⟩
theorem t_RHas (o : Int) (h : Done w0 w hb rb lim B H f f2) :
    Calls Tryz.prog 32 #[ptrV rb, .int .i64 o] w fun e w' => e = .returned (.bool (hasH (stp H) o)) ∧ w' = w := by
  obtain ⟨f', f2', h1, h2⟩ := h
  exact c_RHas h1.2.2.2.1 o
end
end Go.Proofs.YtoccmiinkfhohaaGreat
namespace Go.Proofs.YtoccmiinkfhohaaGreat
open Go.RowKit Go.Shelf Go.Lib Go.Sort Go.Proofs Go.Maps
set_option linter.unusedVariables false
set_option maxHeartbeats 4000000
set_option maxRecDepth 100000

/-- an operation of nothing -/
def zeroO : Array Value := #[.int .i64 0, .int .i64 0, .int .i64 0, .string ⟨#[]⟩, .int .i64 0, .int .i64 0, .float .f64 0, .string ⟨#[]⟩, .int .i64 0, .int .i64 0, .float .f64 0, .string ⟨#[]⟩, .int .i64 0, .int .i64 0, .float .f64 0, .string ⟨#[]⟩, .int .i64 0, .int .i64 0]
theorem zeroO_there (w : World) : (w.alloc (.cells zeroO 38)).there w.heap.size 0 18 := there_of (heap_alloc_new w _) (Nat.le_refl 18)
theorem fresh_cellsO {w : World} (x : OP) : Below w.heap.size w ((w.alloc (.cells zeroO 38)).setCells w.heap.size 0 (encO x)) ∧ ((w.alloc (.cells zeroO 38)).setCells w.heap.size 0 (encO x)).heap[w.heap.size]? = some (.cells (encO x).toArray 38 (0, 0)) := by
  obtain ⟨h1, h2, _⟩ := fresh_set (w := w) (o := zeroO) (t := 38) (vs := encO x) rfl
  exact ⟨h1, h2⟩
theorem c_few15 (v : Value) (l : List OP) (hs : fewO l l.length ≤ 4194304) (hz : ∀ x ∈ l, x.k.1.size ≤ 4194304 ∧ x.p.v.s.size ≤ 4194304) (w : World) (h : RdO w v l) :
    Calls Tryz.prog 6 #[v] w fun e w' => e = .returned (.bool (decide (fewO l l.length ≤ 300))) ∧ Below w.heap.size w w' := by
  obtain ⟨p, c, rfl, hlc, hL⟩ := h.form
  have hlen : l.length ≤ 4194304 := Nat.le_trans (Nat.le_add_right _ _) hs
  have h00 : fewO l 0 = l.length := by simp [fewO]
  replace h00 := Lib.hid h00
  replace hL := Lib.hid hL
  replace hz := Lib.hid hz
  clear h
  go_enter Tryz.func6, Tryz.ntmps6
  go_wp2
  go_loopw [3, 10] (fun vn vi wr => ∃ i : Nat, i ≤ l.length ∧ vi = .int .i64 (i : Int) ∧ vn = .int .i64 (fewO l i : Int) ∧ Below w.heap.size w wr) (fun _ vi _ => l.length - (intOf vi).toNat)
  case atStart => exact ⟨0, by omega, rfl, by rw [h00.out], Below.refl _ _⟩
  case round =>
    obtain ⟨i, hi, rfl, rfl, hbel⟩ := hrel
    rcases Nat.lt_or_ge i l.length with hlt | hge
    · obtain ⟨x, hx⟩ : ∃ x, l[i]? = some x := ⟨_, List.getElem?_eq_getElem hlt⟩
      obtain ⟨b, o, rfl, lb, hrg⟩ := hL.out i x hx
      replace hrg := hrg wr hbel
      have hi18 : (Tryz.prog.info? 38).map (·.size) = some (encO x).length := infoOp
      have hj18 : (Tryz.prog.info? 38).map (·.size) = some (encO x).toArray.size := infoOp
      have ho18 := all_oneCell_toArray (encO_one x)
      have q1 : (0 : Int) ≤ (i : Int) := by omega
      have q2 : (i : Int) < (l.length : Int) := by omega
      obtain ⟨hfb, hfh⟩ := fresh_cellsO (w := wr) x
      have hth : (wr.alloc (.cells zeroO 38)).there wr.heap.size 0 (encO x).toArray.size := zeroO_there wr
      obtain ⟨hx1, hx2⟩ := hz.out x (List.mem_of_getElem? hx)
      have hnx := fewO_next hx
      have hmo := fewO_mono l (j := i + 1) (k := l.length) hlt
      have e3 : ((wr.alloc (.cells zeroO 38)).setCells wr.heap.size 0 (encO x)).cell? ⟨wr.heap.size, 3, none⟩ = some (.string x.k.1) := by rw [cell_of_row _ _ 3 _ _ _ hfh]; rfl
      have e7 : ((wr.alloc (.cells zeroO 38)).setCells wr.heap.size 0 (encO x)).cell? ⟨wr.heap.size, 7, none⟩ = some (.string x.p.v.s) := by rw [cell_of_row _ _ 7 _ _ _ hfh]; rfl
      unfold fewS at hnx
      have hd : ((x.k.1.size : Int) + (x.p.v.s.size : Int)) / 20 = (((x.k.1.size + x.p.v.s.size) / 20 : Nat) : Int) := by omega
      have hw2 : IntKind.i64.wrap ((fewO l i : Int) + (((x.k.1.size + x.p.v.s.size) / 20 : Nat) : Int)) = (fewO l (i + 1) : Int) := by rw [IntKind.wrap_i64]; omega
      have hfin : (fewO l i : Int) + (((x.k.1.size + x.p.v.s.size) / 20 : Nat) : Int) = (fewO l (i + 1) : Int) := by omega
      replace hfb := Lib.hid hfb
      replace hbel := Lib.hid hbel
      replace hfin := Lib.hid (show wrap64 ((fewO l i : Int) + ((x.k.1.size : Int) + (x.p.v.s.size : Int)) / 20) = (fewO l (i + 1) : Int) by rw [hd, hfin]; unfold wrap64; omega)
      clear hx hfh hnx hmo hw2 hd
      generalize encO x = E at *
      have tokA : True := trivial
      have tokB : True := trivial
      go_wp2_with (first | (clear tokA; refine wpList_load_mid rfl 38 (.tmp 12) rfl b (o + i * 18) rfl E _ hrg Tryz.underlying38 rfl hi18 ?_) | (clear tokB; refine wpList_store_mid rfl 38 (.tmp 5) (.tmp 13) rfl wr.heap.size 0 E.toArray rfl rfl hth hj18 ho18 ?_; generalize hW4 : World.setCells _ _ _ _ = W4; rw [show (wr.alloc (.cells zeroO 38)).setCells wr.heap.size 0 E = W4 from hW4] at hfb e3 e7; clear hW4 hth hrg))
      refine ⟨⟨i + 1, by omega, by go_num, ?_, hbel.out.trans (hfb.out.mono hbel.out.size)⟩, by simp [intOf]; omega⟩
      rw [hfin.out]
    · obtain rfl : i = l.length := by omega
      clear hi hge
      go_wp2
      go_ret
      exact ⟨ret_bool (by rw [Bool.eq_iff_iff]; simp; omega), hbel⟩
end Go.Proofs.YtoccmiinkfhohaaGreat
namespace Go.Proofs.YtoccmiinkfhohaaGreat
open Go.RowKit Go.Shelf Go.Lib Go.Sort Go.Proofs Go.Maps
set_option linter.unusedVariables false
set_option maxHeartbeats 4000000
set_option maxRecDepth 100000

theorem Done.from {w0 w1 w : World} {hb rb B : Nat} {lim : Int} {H : List OB} {f f2 : Nat → Nat} (h0 : TwoG hb w0 w1 f f2 f f2) (h : Done w1 w hb rb lim B H f f2) : Done w0 w hb rb lim B H f f2 := by
  obtain ⟨f', f2', h1, h2⟩ := h
  exact ⟨f', f2', h1, h0.trans h2⟩
theorem Done.mono {w0 w : World} {hb rb B B' : Nat} {lim : Int} {H : List OB} {f f2 : Nat → Nat} (h : Done w0 w hb rb lim B H f f2) (hB : B ≤ B') : Done w0 w hb rb lim B' H f f2 := by
  obtain ⟨f', f2', h1, h2⟩ := h
  exact ⟨f', f2', h1.mono hB, h2⟩
theorem Done.below {w0 w w' : World} {hb rb B : Nat} {lim : Int} {H : List OB} {f f2 : Nat → Nat} (h : Done w0 w hb rb lim B H f f2) (hb' : Below w.heap.size w w') : Done w0 w' hb rb lim B H f f2 := by
  obtain ⟨f', f2', h1, h2⟩ := h
  exact ⟨f', f2', h1.below hb', h2.trans (TwoG.of_below _ _ hb')⟩
theorem cells18 {y : World} {b : Nat} {t : TypeId} {x : OP} (h : y.heap[b]? = some (.cells (encO x).toArray t (0, 0))) :
    (y.cell? ⟨b, 0, none⟩ = some (.int .i64 x.kd) ∧ y.cell? ⟨b, 1, none⟩ = some (.int .i64 x.o) ∧ y.cell? ⟨b, 2, none⟩ = some (.int .i64 x.n)) ∧ (y.cell? ⟨b, 3, none⟩ = some (.string x.k.1) ∧ y.cell? ⟨b, 4, none⟩ = some (.int .i64 x.k.2)) ∧
    (y.cell? ⟨b, 5, none⟩ = some (.int .i64 x.p.v.k) ∧ y.cell? ⟨b, 6, none⟩ = some (.float .f64 x.p.v.x) ∧ y.cell? ⟨b, 7, none⟩ = some (.string x.p.v.s) ∧ y.cell? ⟨b, 8, none⟩ = some (.int .i64 x.p.v.r)) ∧
    (y.cell? ⟨b, 9, none⟩ = some (.int .i64 x.p.g.k) ∧ y.cell? ⟨b, 10, none⟩ = some (.float .f64 x.p.g.x) ∧ y.cell? ⟨b, 11, none⟩ = some (.string x.p.g.s) ∧ y.cell? ⟨b, 12, none⟩ = some (.int .i64 x.p.g.r)) ∧
    (y.cell? ⟨b, 13, none⟩ = some (.int .i64 x.p.t.k) ∧ y.cell? ⟨b, 14, none⟩ = some (.float .f64 x.p.t.x) ∧ y.cell? ⟨b, 15, none⟩ = some (.string x.p.t.s) ∧ y.cell? ⟨b, 16, none⟩ = some (.int .i64 x.p.t.r)) ∧ y.cell? ⟨b, 17, none⟩ = some (.int .i64 x.p.fl) := by
  have hc : ∀ j u, (encO x)[j]? = some u → y.cell? ⟨b, j, none⟩ = some u := fun j u hu => by rw [cell_of_row _ _ j _ _ _ h]; simpa using hu
  exact ⟨⟨hc 0 _ rfl, hc 1 _ rfl, hc 2 _ rfl⟩, ⟨hc 3 _ rfl, hc 4 _ rfl⟩, ⟨hc 5 _ rfl, hc 6 _ rfl, hc 7 _ rfl, hc 8 _ rfl⟩, ⟨hc 9 _ rfl, hc 10 _ rfl, hc 11 _ rfl, hc 12 _ rfl⟩, ⟨hc 13 _ rfl, hc 14 _ rfl, hc 15 _ rfl, hc 16 _ rfl⟩, hc 17 _ rfl⟩
section
variable {w : World} {hb rb B : Nat} {lim : Int} {H : List OB} {f f2 : Nat → Nat}
theorem c_do15_0 (h : Two w hb rb lim B H f f2) (hB1 : 128 ≤ B) (hB : B < 90000) (hu : usedH H ≤ 100000) (x : OP) (hk : okK x.k) (hkd : x.kd = 0) :
    Calls Tryz.prog 9 #[ptrV hb, ptrV rb, opV x] w fun e w' => e = .returned (.bool true) ∧ Done w w' hb rb lim (B + 2) (opH lim H x) f f2 := by
  have hop : opH lim H x = makeH true H lim x.n x.o := by unfold opH; simp [hkd]
  rw [hop]
  clear hop
  obtain ⟨W1, hW1⟩ : ∃ W1, w.alloc (.cells (encO x).toArray 38) = W1 := ⟨_, rfl⟩
  have hb1 : Below w.heap.size w W1 := by rw [← hW1]; exact (Below.refl _ w).alloc (Nat.le_refl _) _
  have d0 : W1.heap[w.heap.size]? = some (.cells (encO x).toArray 38 (0, 0)) := by rw [← hW1]; exact heap_alloc_new w _
  obtain ⟨⟨e0, e1, e2⟩, ⟨e3, e4⟩, ⟨e5, e6, e7, e8⟩, ⟨e9, e10, e11, e12⟩, ⟨e13, e14, e15, e16⟩, e17⟩ := cells18 d0
  have hfr := Lib.hid (show f w.heap.size = 0 ∧ f2 w.heap.size = 0 ∧ w.heap.size < W1.heap.size from ⟨h.1 _ (Nat.le_refl _), h.2.1 _ (Nat.le_refl _), heapH_lt d0⟩)
  have hT := h.below hb1
  have h0 := TwoG.refl hb W1 f f2
  have hfin := fun (y : World) (B' : Nat) (H' : List OB) (hB' : B' ≤ B + 2) (hd : Done W1 y hb rb lim B' H' f f2) => (hd.mono hB').from (TwoG.of_below f f2 hb1)
  have hP := t_HMake hT h0 hu x.n x.o
  have hR := fun (y : World) (hh : Half W1 y hb rb lim B H (makeH true H lim x.n x.o) f f2) => t_RMake x.n x.o hh hu
  generalize makeH true H lim x.n x.o = H' at *
  generalize makeN H lim x.n x.o = vN at *
  generalize makeE H lim x.n x.o = vE at *
  unfold ptrV at hP hR
  replace hP := Lib.hid hP
  replace hR := Lib.hid hR
  unfold ptrV opV
  unfold encO encP
  obtain ⟨kd, xo, xn, ⟨k0, kn⟩, ⟨⟨vk, vx, vs, vr⟩, ⟨gk0, gx, gs, gr⟩, ⟨tk, tx0, ts, tr⟩, fl⟩⟩ := x
  dsimp only at *
  subst hkd
  simp only [encO, encP, List.cons_append, List.nil_append] at hW1
  replace hfin := Lib.hid hfin
  clear h hb1 d0 hT h0 hk hB hB1 hu
  go_enter Tryz.func9, Tryz.ntmps9
  go_wp2_with (first | (go_at_call 16; go_loud (refine hP.out.mono ?_; rintro e y1 ⟨rfl, hH1⟩); have hc := hH1.cells hfr.out; rw [← hc 1] at e1; rw [← hc 2] at e2; clear hc) | (go_at_call 25; refine (hR.out _ hH1).mono ?_; rintro e y2 ⟨rfl, hD1⟩))
  go_ret
  exact ⟨rfl, hfin.out _ _ _ (by omega) hD1⟩
theorem c_do15_1 (h : Two w hb rb lim B H f f2) (hB1 : 128 ≤ B) (hB : B < 90000) (hu : usedH H ≤ 100000) (x : OP) (hk : okK x.k) (hkd : x.kd = 1) :
    Calls Tryz.prog 9 #[ptrV hb, ptrV rb, opV x] w fun e w' => e = .returned (.bool true) ∧ Done w w' hb rb lim (B + 2) (opH lim H x) f f2 := by
  have hop : opH lim H x = putH H lim x.o (pk x.k) x.p := by unfold opH; simp [hkd]
  rw [hop]
  clear hop
  obtain ⟨W1, hW1⟩ : ∃ W1, w.alloc (.cells (encO x).toArray 38) = W1 := ⟨_, rfl⟩
  have hb1 : Below w.heap.size w W1 := by rw [← hW1]; exact (Below.refl _ w).alloc (Nat.le_refl _) _
  have d0 : W1.heap[w.heap.size]? = some (.cells (encO x).toArray 38 (0, 0)) := by rw [← hW1]; exact heap_alloc_new w _
  obtain ⟨⟨e0, e1, e2⟩, ⟨e3, e4⟩, ⟨e5, e6, e7, e8⟩, ⟨e9, e10, e11, e12⟩, ⟨e13, e14, e15, e16⟩, e17⟩ := cells18 d0
  have hfr := Lib.hid (show f w.heap.size = 0 ∧ f2 w.heap.size = 0 ∧ w.heap.size < W1.heap.size from ⟨h.1 _ (Nat.le_refl _), h.2.1 _ (Nat.le_refl _), heapH_lt d0⟩)
  have hT := h.below hb1
  have h0 := TwoG.refl hb W1 f f2
  have hfin := fun (y : World) (B' : Nat) (H' : List OB) (hB' : B' ≤ B + 2) (hd : Done W1 y hb rb lim B' H' f f2) => (hd.mono hB').from (TwoG.of_below f f2 hb1)
  have hP := fun (y : World) (hy : Below W1.heap.size W1 y) => t_HPut (hT.below hy) (TwoG.of_below f f2 hy) hB1 hB hu x.o x.k hk x.p
  have hR := fun (y : World) (hh : Half W1 y hb rb lim (B + 2) H (putH H lim x.o (pk x.k) x.p) f f2) => t_RPut x.o x.k hk x.p hh hu
  generalize putH H lim x.o (pk x.k) x.p = H' at *
  generalize putE H lim x.o (pk x.k) x.p = vE at *
  (try unfold ptrV at hP hR)
  (try unfold keyV at hP hR)
  (try unfold propV at hP hR)
  (try unfold encP at hP hR)
  replace hP := Lib.hid hP
  replace hR := Lib.hid hR
  unfold ptrV opV
  unfold encO encP
  obtain ⟨kd, xo, xn, ⟨k0, kn⟩, ⟨⟨vk, vx, vs, vr⟩, ⟨gk0, gx, gs, gr⟩, ⟨tk, tx0, ts, tr⟩, fl⟩⟩ := x
  dsimp only at *
  subst hkd
  simp only [encO, encP, List.cons_append, List.nil_append] at hW1
  replace hfin := Lib.hid hfin
  clear h hb1 d0 hT h0 hk hB hB1 hu
  go_enter Tryz.func9, Tryz.ntmps9
  go_wp2_with fail
  have hst : ∀ i : Nat, W1.drew.cell? ⟨w.heap.size, i, none⟩ = W1.cell? ⟨w.heap.size, i, none⟩ := fun _ => rfl
  go_region_held3 (fun y => ∀ i : Nat, y.cell? ⟨w.heap.size, i, none⟩ = W1.cell? ⟨w.heap.size, i, none⟩) (first | with_reducible assumption | exact Half.cells (by assumption) hfr.out | exact Done.cells (by assumption) hfr.out) (first | (go_at_call 17; refine (hP.out W1.drew (Below.refl _ W1).drew).mono ?_; rintro e y1 ⟨rfl, hH1⟩) | (go_at_call 26; refine (hR.out _ (by assumption)).mono ?_; rintro e y2 ⟨rfl, hD1⟩))
  clear hst
  go_wp2
  go_ret
  exact ⟨rfl, hfin.out _ _ _ (by omega) hD1⟩
theorem c_do15_2 (h : Two w hb rb lim B H f f2) (hB1 : 128 ≤ B) (hB : B < 90000) (hu : usedH H ≤ 100000) (x : OP) (hk : okK x.k) (hkd : x.kd = 2) :
    Calls Tryz.prog 9 #[ptrV hb, ptrV rb, opV x] w fun e w' => e = .returned (.bool true) ∧ Done w w' hb rb lim (B + 2) (opH lim H x) f f2 := by
  have hop : opH lim H x = updH H x.o (dropA (pk x.k)) := by unfold opH; simp [hkd]
  rw [hop]
  clear hop
  obtain ⟨W1, hW1⟩ : ∃ W1, w.alloc (.cells (encO x).toArray 38) = W1 := ⟨_, rfl⟩
  have hb1 : Below w.heap.size w W1 := by rw [← hW1]; exact (Below.refl _ w).alloc (Nat.le_refl _) _
  have d0 : W1.heap[w.heap.size]? = some (.cells (encO x).toArray 38 (0, 0)) := by rw [← hW1]; exact heap_alloc_new w _
  obtain ⟨⟨e0, e1, e2⟩, ⟨e3, e4⟩, ⟨e5, e6, e7, e8⟩, ⟨e9, e10, e11, e12⟩, ⟨e13, e14, e15, e16⟩, e17⟩ := cells18 d0
  have hfr := Lib.hid (show f w.heap.size = 0 ∧ f2 w.heap.size = 0 ∧ w.heap.size < W1.heap.size from ⟨h.1 _ (Nat.le_refl _), h.2.1 _ (Nat.le_refl _), heapH_lt d0⟩)
  have hT := h.below hb1
  have h0 := TwoG.refl hb W1 f f2
  have hfin := fun (y : World) (B' : Nat) (H' : List OB) (hB' : B' ≤ B + 2) (hd : Done W1 y hb rb lim B' H' f f2) => (hd.mono hB').from (TwoG.of_below f f2 hb1)
  have hP := fun (y : World) (hy : Below W1.heap.size W1 y) => t_HDrop (hT.below hy) (TwoG.of_below f f2 hy) hB1 (by omega) hu x.o x.k hk
  have hR := fun (y : World) (hh : Half W1 y hb rb lim B H (updH H x.o (dropA (pk x.k))) f f2) => t_RDrop x.o x.k hk hh hu
  generalize updH H x.o (dropA (pk x.k)) = H' at *
  generalize dropB H x.o (pk x.k) = vE at *
  (try unfold ptrV at hP hR)
  (try unfold keyV at hP hR)
  (try unfold propV at hP hR)
  (try unfold encP at hP hR)
  replace hP := Lib.hid hP
  replace hR := Lib.hid hR
  unfold ptrV opV
  unfold encO encP
  obtain ⟨kd, xo, xn, ⟨k0, kn⟩, ⟨⟨vk, vx, vs, vr⟩, ⟨gk0, gx, gs, gr⟩, ⟨tk, tx0, ts, tr⟩, fl⟩⟩ := x
  dsimp only at *
  subst hkd
  simp only [encO, encP, List.cons_append, List.nil_append] at hW1
  replace hfin := Lib.hid hfin
  clear h hb1 d0 hT h0 hk hB hB1 hu
  go_enter Tryz.func9, Tryz.ntmps9
  go_wp2_with fail
  have hst : ∀ i : Nat, W1.drew.cell? ⟨w.heap.size, i, none⟩ = W1.cell? ⟨w.heap.size, i, none⟩ := fun _ => rfl
  go_region_held3 (fun y => ∀ i : Nat, y.cell? ⟨w.heap.size, i, none⟩ = W1.cell? ⟨w.heap.size, i, none⟩) (first | with_reducible assumption | exact Half.cells (by assumption) hfr.out | exact Done.cells (by assumption) hfr.out) (first | (go_at_call 23; refine (hP.out W1.drew (Below.refl _ W1).drew).mono ?_; rintro e y1 ⟨rfl, hH1⟩) | (go_at_call 27; refine (hR.out _ (by assumption)).mono ?_; rintro e y2 ⟨rfl, hD1⟩))
  clear hst
  go_wp2
  go_ret
  exact ⟨rfl, hfin.out _ _ _ (by omega) hD1⟩
theorem c_do15_3 (h : Two w hb rb lim B H f f2) (hB1 : 128 ≤ B) (hB : B < 90000) (hu : usedH H ≤ 100000) (x : OP) (hk : okK x.k) (hkd : x.kd = 3) :
    Calls Tryz.prog 9 #[ptrV hb, ptrV rb, opV x] w fun e w' => e = .returned (.bool true) ∧ Done w w' hb rb lim (B + 2) (opH lim H x) f f2 := by
  have hop : opH lim H x = setH H x.o x.n := by unfold opH; simp [hkd]
  rw [hop]
  clear hop
  obtain ⟨W1, hW1⟩ : ∃ W1, w.alloc (.cells (encO x).toArray 38) = W1 := ⟨_, rfl⟩
  have hb1 : Below w.heap.size w W1 := by rw [← hW1]; exact (Below.refl _ w).alloc (Nat.le_refl _) _
  have d0 : W1.heap[w.heap.size]? = some (.cells (encO x).toArray 38 (0, 0)) := by rw [← hW1]; exact heap_alloc_new w _
  obtain ⟨⟨e0, e1, e2⟩, ⟨e3, e4⟩, ⟨e5, e6, e7, e8⟩, ⟨e9, e10, e11, e12⟩, ⟨e13, e14, e15, e16⟩, e17⟩ := cells18 d0
  have hfr := Lib.hid (show f w.heap.size = 0 ∧ f2 w.heap.size = 0 ∧ w.heap.size < W1.heap.size from ⟨h.1 _ (Nat.le_refl _), h.2.1 _ (Nat.le_refl _), heapH_lt d0⟩)
  have hT := h.below hb1
  have h0 := TwoG.refl hb W1 f f2
  have hfin := fun (y : World) (B' : Nat) (H' : List OB) (hB' : B' ≤ B + 2) (hd : Done W1 y hb rb lim B' H' f f2) => (hd.mono hB').from (TwoG.of_below f f2 hb1)
  have hP := fun (y : World) (hy : Below W1.heap.size W1 y) => t_HSetProto (hT.below hy) (TwoG.of_below f f2 hy) x.o x.n
  have hR := fun (y : World) (hh : Half W1 y hb rb lim B H (setH H x.o x.n) f f2) => t_RSetProto x.o x.n hh
  generalize setH H x.o x.n = H' at *
  generalize setE H x.o x.n = vE at *
  (try unfold ptrV at hP hR)
  (try unfold keyV at hP hR)
  (try unfold propV at hP hR)
  (try unfold encP at hP hR)
  replace hP := Lib.hid hP
  replace hR := Lib.hid hR
  unfold ptrV opV
  unfold encO encP
  obtain ⟨kd, xo, xn, ⟨k0, kn⟩, ⟨⟨vk, vx, vs, vr⟩, ⟨gk0, gx, gs, gr⟩, ⟨tk, tx0, ts, tr⟩, fl⟩⟩ := x
  dsimp only at *
  subst hkd
  simp only [encO, encP, List.cons_append, List.nil_append] at hW1
  replace hfin := Lib.hid hfin
  clear h hb1 d0 hT h0 hk hB hB1 hu
  go_enter Tryz.func9, Tryz.ntmps9
  go_wp2_with fail
  have hst : ∀ i : Nat, W1.drew.cell? ⟨w.heap.size, i, none⟩ = W1.cell? ⟨w.heap.size, i, none⟩ := fun _ => rfl
  go_region_held3 (fun y => ∀ i : Nat, y.cell? ⟨w.heap.size, i, none⟩ = W1.cell? ⟨w.heap.size, i, none⟩) (first | with_reducible assumption | exact Half.cells (by assumption) hfr.out | exact Done.cells (by assumption) hfr.out) (first | (go_at_call 28; refine (hP.out W1.drew (Below.refl _ W1).drew).mono ?_; rintro e y1 ⟨rfl, hH1⟩) | (go_at_call 29; refine (hR.out _ (by assumption)).mono ?_; rintro e y2 ⟨rfl, hD1⟩))
  clear hst
  go_wp2
  go_ret
  exact ⟨rfl, hfin.out _ _ _ (by omega) hD1⟩
theorem c_do15_4 (h : Two w hb rb lim B H f f2) (hB1 : 128 ≤ B) (hB : B < 90000) (hu : usedH H ≤ 100000) (x : OP) (hk : okK x.k) (hkd : x.kd = 4) :
    Calls Tryz.prog 9 #[ptrV hb, ptrV rb, opV x] w fun e w' => e = .returned (.bool true) ∧ Done w w' hb rb lim (B + 2) (opH lim H x) f f2 := by
  have hop : opH lim H x = updH H x.o shutA := by unfold opH; simp [hkd]
  rw [hop]
  clear hop
  obtain ⟨W1, hW1⟩ : ∃ W1, w.alloc (.cells (encO x).toArray 38) = W1 := ⟨_, rfl⟩
  have hb1 : Below w.heap.size w W1 := by rw [← hW1]; exact (Below.refl _ w).alloc (Nat.le_refl _) _
  have d0 : W1.heap[w.heap.size]? = some (.cells (encO x).toArray 38 (0, 0)) := by rw [← hW1]; exact heap_alloc_new w _
  obtain ⟨⟨e0, e1, e2⟩, ⟨e3, e4⟩, ⟨e5, e6, e7, e8⟩, ⟨e9, e10, e11, e12⟩, ⟨e13, e14, e15, e16⟩, e17⟩ := cells18 d0
  have hfr := Lib.hid (show f w.heap.size = 0 ∧ f2 w.heap.size = 0 ∧ w.heap.size < W1.heap.size from ⟨h.1 _ (Nat.le_refl _), h.2.1 _ (Nat.le_refl _), heapH_lt d0⟩)
  have hT := h.below hb1
  have h0 := TwoG.refl hb W1 f f2
  have hfin := fun (y : World) (B' : Nat) (H' : List OB) (hB' : B' ≤ B + 2) (hd : Done W1 y hb rb lim B' H' f f2) => (hd.mono hB').from (TwoG.of_below f f2 hb1)
  have hP := fun (y : World) (hy : Below W1.heap.size W1 y) => t_HShut (hT.below hy) (TwoG.of_below f f2 hy) x.o
  have hR := fun (y : World) (hh : Half W1 y hb rb lim B H (updH H x.o shutA) f f2) => t_RShut x.o hh
  generalize updH H x.o shutA = H' at *
  generalize hasE H x.o = vE at *
  (try unfold ptrV at hP hR)
  (try unfold keyV at hP hR)
  (try unfold propV at hP hR)
  (try unfold encP at hP hR)
  replace hP := Lib.hid hP
  replace hR := Lib.hid hR
  unfold ptrV opV
  unfold encO encP
  obtain ⟨kd, xo, xn, ⟨k0, kn⟩, ⟨⟨vk, vx, vs, vr⟩, ⟨gk0, gx, gs, gr⟩, ⟨tk, tx0, ts, tr⟩, fl⟩⟩ := x
  dsimp only at *
  subst hkd
  simp only [encO, encP, List.cons_append, List.nil_append] at hW1
  replace hfin := Lib.hid hfin
  clear h hb1 d0 hT h0 hk hB hB1 hu
  go_enter Tryz.func9, Tryz.ntmps9
  go_wp2_with fail
  have hst : ∀ i : Nat, W1.drew.cell? ⟨w.heap.size, i, none⟩ = W1.cell? ⟨w.heap.size, i, none⟩ := fun _ => rfl
  go_region_held3 (fun y => ∀ i : Nat, y.cell? ⟨w.heap.size, i, none⟩ = W1.cell? ⟨w.heap.size, i, none⟩) (first | with_reducible assumption | exact Half.cells (by assumption) hfr.out | exact Done.cells (by assumption) hfr.out) (first | (go_at_call 30; refine (hP.out W1.drew (Below.refl _ W1).drew).mono ?_; rintro e y1 ⟨rfl, hH1⟩) | (go_at_call 31; refine (hR.out _ (by assumption)).mono ?_; rintro e y2 ⟨rfl, hD1⟩))
  clear hst
  go_wp2
  go_ret
  exact ⟨rfl, hfin.out _ _ _ (by omega) hD1⟩
theorem c_do15_5 (h : Two w hb rb lim B H f f2) (hB1 : 128 ≤ B) (hB : B < 90000) (hu : usedH H ≤ 100000) (x : OP) (hk : okK x.k) (hkd : x.kd ≠ 0 ∧ x.kd ≠ 1 ∧ x.kd ≠ 2 ∧ x.kd ≠ 3 ∧ x.kd ≠ 4) :
    Calls Tryz.prog 9 #[ptrV hb, ptrV rb, opV x] w fun e w' => e = .returned (.bool true) ∧ Done w w' hb rb lim (B + 2) (opH lim H x) f f2 := by
  have hop : opH lim H x = updH H x.o forceA := by unfold opH; rw [if_neg hkd.1, if_neg hkd.2.1, if_neg hkd.2.2.1, if_neg hkd.2.2.2.1, if_neg hkd.2.2.2.2]
  rw [hop]
  clear hop
  obtain ⟨W1, hW1⟩ : ∃ W1, w.alloc (.cells (encO x).toArray 38) = W1 := ⟨_, rfl⟩
  have hb1 : Below w.heap.size w W1 := by rw [← hW1]; exact (Below.refl _ w).alloc (Nat.le_refl _) _
  have d0 : W1.heap[w.heap.size]? = some (.cells (encO x).toArray 38 (0, 0)) := by rw [← hW1]; exact heap_alloc_new w _
  obtain ⟨⟨e0, e1, e2⟩, ⟨e3, e4⟩, ⟨e5, e6, e7, e8⟩, ⟨e9, e10, e11, e12⟩, ⟨e13, e14, e15, e16⟩, e17⟩ := cells18 d0
  have hfr := Lib.hid (show f w.heap.size = 0 ∧ f2 w.heap.size = 0 ∧ w.heap.size < W1.heap.size from ⟨h.1 _ (Nat.le_refl _), h.2.1 _ (Nat.le_refl _), heapH_lt d0⟩)
  have hT := h.below hb1
  have h0 := TwoG.refl hb W1 f f2
  have hfin := fun (y : World) (B' : Nat) (H' : List OB) (hB' : B' ≤ B + 2) (hd : Done W1 y hb rb lim B' H' f f2) => (hd.mono hB').from (TwoG.of_below f f2 hb1)
  have hP := fun (y : World) (hy : Below W1.heap.size W1 y) => t_HForce (hT.below hy) (TwoG.of_below f f2 hy) hB1 x.o
  have hR := fun (y : World) (hh : Done W1 y hb rb lim B (updH H x.o forceA) f f2) => t_RHas x.o hh
  have hhas : hasH (stp (updH H x.o forceA)) x.o = hasH H x.o := by rw [stp_force, stp_has]
  rw [hhas] at hR
  have hret : RowKit.Hid (Ending.returned (.bool ((hasE H x.o == 0) == hasH H x.o)) = Ending.returned (.bool true)) := Lib.hid (by unfold hasE; cases hasH H x.o <;> rfl)
  clear hhas
  generalize updH H x.o forceA = H' at *
  generalize hasE H x.o = vE at *
  generalize hasH H x.o = vB at *
  (try unfold ptrV at hP hR)
  (try unfold keyV at hP hR)
  (try unfold propV at hP hR)
  (try unfold encP at hP hR)
  replace hP := Lib.hid hP
  replace hR := Lib.hid hR
  unfold ptrV opV
  unfold encO encP
  obtain ⟨kd, xo, xn, ⟨k0, kn⟩, ⟨⟨vk, vx, vs, vr⟩, ⟨gk0, gx, gs, gr⟩, ⟨tk, tx0, ts, tr⟩, fl⟩⟩ := x
  dsimp only at *
  obtain ⟨k0', k1', k2', k3', k4'⟩ := hkd
  simp only [encO, encP, List.cons_append, List.nil_append] at hW1
  replace hfin := Lib.hid hfin
  clear h hb1 d0 hT h0 hk hB hB1 hu
  go_enter Tryz.func9, Tryz.ntmps9
  go_wp2_with fail
  have hst : ∀ i : Nat, W1.drew.cell? ⟨w.heap.size, i, none⟩ = W1.cell? ⟨w.heap.size, i, none⟩ := fun _ => rfl
  go_region_held3 (fun y => ∀ i : Nat, y.cell? ⟨w.heap.size, i, none⟩ = W1.cell? ⟨w.heap.size, i, none⟩) (first | with_reducible assumption | exact Half.cells (by assumption) hfr.out | exact Done.cells (by assumption) hfr.out) (first | (go_at_call 12; refine (hP.out W1.drew (Below.refl _ W1).drew).mono ?_; rintro e y1 ⟨rfl, hD1⟩) | (go_at_call 32; refine (hR.out _ (by assumption)).mono ?_; rintro e y2 ⟨rfl, rfl⟩))
  clear hst
  go_wp2
  go_ret
  exact ⟨hret.out, hfin.out _ _ _ (by omega) hD1⟩
theorem c_do15 (h : Two w hb rb lim B H f f2) (hB1 : 128 ≤ B) (hB : B < 90000) (hu : usedH H ≤ 100000) (x : OP) (hk : okK x.k) :
    Calls Tryz.prog 9 #[ptrV hb, ptrV rb, opV x] w fun e w' => e = .returned (.bool true) ∧ Done w w' hb rb lim (B + 2) (opH lim H x) f f2 := by
  by_cases h0 : x.kd = 0
  · exact c_do15_0 h hB1 hB hu x hk h0
  by_cases h1 : x.kd = 1
  · exact c_do15_1 h hB1 hB hu x hk h1
  by_cases h2 : x.kd = 2
  · exact c_do15_2 h hB1 hB hu x hk h2
  by_cases h3 : x.kd = 3
  · exact c_do15_3 h hB1 hB hu x hk h3
  by_cases h4 : x.kd = 4
  · exact c_do15_4 h hB1 hB hu x hk h4
  exact c_do15_5 h hB1 hB hu x hk ⟨h0, h1, h2, h3, h4⟩
end
end Go.Proofs.YtoccmiinkfhohaaGreat
namespace Go.Proofs.YtoccmiinkfhohaaGreat
open Go.RowKit Go.Shelf Go.Lib Go.Sort Go.Proofs Go.Maps
set_option linter.unusedVariables false
set_option maxHeartbeats 1000000
set_option maxRecDepth 8000

def Big (a : OB) : Bool := decide (128 < a.l.length)
def FastI (H : List OB) : Prop := ∀ a ∈ H, a.fast = true → a.l.length ≤ 128
theorem op_cases (lim : Int) (H : List OB) (x : OP) :
    (opH lim H x = H ∧ (x.kd ≠ 2 ∨ (ownH H x.o (pk x.k)).isSome = false ∨ hasH H x.o = false) ∧ ((0 ≤ x.kd ∧ x.kd ≤ 4) ∨ hasH H x.o = false)) ∨
    (x.kd = 0 ∧ ∃ c p, opH lim H x = H ++ [⟨c, p, false, true, []⟩] ∧ (usedH H : Int) < lim) ∨
    (∃ (n : Nat) (a : OB) (g : OB → OB), x.o = (n : Int) ∧ 0 < n ∧ H[n - 1]? = some a ∧ hasH H x.o = true ∧ opH lim H x = H.set (n - 1) (g a) ∧
      ((x.kd = 1 ∧ g = putA (pk x.k) x.p ∧ ((getL a.l (pk x.k)).isSome = true ∨ (usedH H : Int) < lim)) ∨ (x.kd = 2 ∧ g = dropA (pk x.k) ∧ (getL a.l (pk x.k)).isSome = true) ∨ ((x.kd = 3 ∨ x.kd = 4) ∧ (g a).fast = a.fast ∧ (g a).l = a.l) ∨ ((4 < x.kd ∨ x.kd < 0) ∧ g = forceA))) := by
  unfold opH
  by_cases h0 : x.kd = 0
  · rw [if_pos h0]
    unfold makeH
    by_cases hE : makeE H lim x.n x.o = 0
    · rw [if_pos hE]
      refine .inr (.inl ⟨h0, _, _, rfl, ?_⟩)
      unfold makeE at hE
      split at hE
      · cases hE
      · split at hE
        · cases hE
        · split at hE
          · cases hE
          · omega
    · rw [if_neg hE]; exact .inl ⟨rfl, .inl (by omega), .inl (by omega)⟩
  · rw [if_neg h0]
    by_cases h1 : x.kd = 1
    · rw [if_pos h1]
      unfold putH
      by_cases hE : putE H lim x.o (pk x.k) x.p = 0
      · rw [if_pos hE]
        rcases objH_cases H x.o with ⟨q1, q2⟩ | ⟨n, a, q0, q1, q2, q3, q4⟩
        · exfalso; unfold putE at hE; rw [if_pos q1] at hE; cases hE
        · refine .inr (.inr ⟨n, a, putA (pk x.k) x.p, q0, q1, q2, q4, by rw [q0, updH_at q1 q2], .inl ⟨h1, rfl, ?_⟩⟩)
          unfold putE at hE
          rw [if_neg (by rw [q4]; decide)] at hE
          split at hE
          · cases hE
          · split at hE
            · cases hE
            · rename_i hn
              rw [q0, own_some q1 q2] at hn
              by_cases hg : (getL a.l (pk x.k)).isSome = true
              · exact .inl hg
              · right
                have h9 : (getL a.l (pk x.k)).isSome = false := by simpa using hg
                by_cases h10 : lim ≤ (usedH H : Int)
                · exact absurd ⟨h9, h10⟩ hn
                · omega
      · rw [if_neg hE]; exact .inl ⟨rfl, .inl (by omega), .inl (by omega)⟩
    · rw [if_neg h1]
      by_cases h2 : x.kd = 2
      · rw [if_pos h2]
        rcases objH_cases H x.o with ⟨q1, q2⟩ | ⟨n, a, q0, q1, q2, q3, q4⟩
        · exact .inl ⟨by unfold updH; rw [q2], .inr (.inr q1), .inr q1⟩
        · cases hg : (getL a.l (pk x.k)).isSome with
          | true => exact .inr (.inr ⟨n, a, dropA (pk x.k), q0, q1, q2, q4, by rw [q0, updH_at q1 q2], .inr (.inl ⟨h2, rfl, hg⟩)⟩)
          | false =>
            refine .inl ⟨updH_id _ _ _ fun b hb => ?_, .inr (.inl (by rw [q0, own_some q1 q2, hg])), .inl (by omega)⟩
            rw [q3] at hb
            injection hb with hb
            subst hb
            rw [getL_idx] at hg
            unfold dropA
            cases hi : idx (gk a.l) (pk x.k) with
            | none => rfl
            | some j => rw [hi] at hg; cases hg
      · rw [if_neg h2]
        by_cases h3 : x.kd = 3
        · rw [if_pos h3]
          unfold setH
          by_cases hE : setE H x.o x.n = 0
          · rw [if_pos hE]
            rcases objH_cases H x.o with ⟨q1, q2⟩ | ⟨n, a, q0, q1, q2, q3, q4⟩
            · exfalso; unfold setE at hE; rw [if_pos (.inl q1)] at hE; cases hE
            · exact .inr (.inr ⟨n, a, _, q0, q1, q2, q4, by rw [q0, updH_at q1 q2], .inr (.inr (.inl ⟨.inl h3, rfl, rfl⟩))⟩)
          · rw [if_neg hE]; exact .inl ⟨rfl, .inl (by omega), .inl (by omega)⟩
        · rw [if_neg h3]
          rcases objH_cases H x.o with ⟨q1, q2⟩ | ⟨n, a, q0, q1, q2, q3, q4⟩
          · left
            refine ⟨?_, .inl h2, .inr q1⟩
            split <;> (unfold updH; rw [q2])
          · by_cases h4 : x.kd = 4
            · rw [if_pos h4]
              exact .inr (.inr ⟨n, a, shutA, q0, q1, q2, q4, by rw [q0, updH_at q1 q2], .inr (.inr (.inl ⟨.inr h4, rfl, rfl⟩))⟩)
            · rw [if_neg h4]
              exact .inr (.inr ⟨n, a, forceA, q0, q1, q2, q4, by rw [q0, updH_at q1 q2], .inr (.inr (.inr ⟨by omega, rfl⟩))⟩)
theorem put_big {K : KK} {p : PV} {a : OB} (hI : a.fast = true → a.l.length ≤ 128) : (putA K p a).fast = (a.fast && !Big (putA K p a)) := by
  unfold putA Big canL
  dsimp only
  rw [putL_len, getL_idx]
  cases hf : a.fast with
  | false => rfl
  | true =>
    have := hI hf
    cases hi : (idx (gk a.l) K).isSome with
    | true => simp; omega
    | false =>
      by_cases hl : a.l.length < 128
      · simp [hl]; omega
      · simp [hl]; omega
/-- what a kind turns by force -/
def hitB (H : List OB) (x : OP) : Bool := hasH H x.o && ((decide (x.kd = 2) && (ownH H x.o (pk x.k)).isSome) || decide (4 < x.kd) || decide (x.kd < 0))
/-- the marks, longer -/
def extS (s : List Bool) (n : Nat) : List Bool := s ++ List.replicate (n - s.length) false
def hitS (H : List OB) (x : OP) (s : List Bool) : List Bool := if hitB H x then s.set x.o.toNat true else s
theorem op_fast {lim : Int} {H : List OB} {x : OP} {s : List Bool} (hI : FastI H) (hl : s.length = H.length + 1) (hs : ∀ i a, H[i]? = some a → s[i + 1]? = some (!a.fast)) :
    FastI (opH lim H x) ∧ (hitS H x (extS s ((opH lim H x).length + 1))).length = (opH lim H x).length + 1 ∧
    ∀ i a, (opH lim H x)[i]? = some a → ∃ b, (hitS H x (extS s ((opH lim H x).length + 1)))[i + 1]? = some b ∧ a.fast = !(b || Big a) := by
  have hext : ∀ n, H.length ≤ n → (extS s (n + 1)).length = n + 1 := fun n hn => by simp [extS]; omega
  have hit_len : ∀ t : List Bool, (hitS H x t).length = t.length := fun t => by unfold hitS; split <;> simp
  have hold : ∀ i a, H[i]? = some a → a.fast = !((!a.fast) || Big a) := fun i a ha => by
    have := hI a (List.mem_of_getElem? ha)
    cases hf : a.fast with
    | false => rfl
    | true => have := this hf; simp [Big]; omega
  have hext0 : extS s (H.length + 1) = s := by simp [extS, hl]
  rcases op_cases lim H x with ⟨h1, h2, h3⟩ | ⟨h1, c, p, h2, _⟩ | ⟨n, a, g, h1, h2, h3, h4, h5, h6⟩
  · have hb : hitB H x = false := by
      unfold hitB
      rcases h3 with h3 | h3
      · rcases h2 with h2 | h2 | h2
        · simp; intro _; omega
        · rw [h2]; simp; intro _; omega
        · rw [h2]; rfl
      · rw [h3]; rfl
    rw [h1, hext0]
    unfold hitS
    rw [hb]
    exact ⟨hI, hl, fun i a ha => ⟨_, hs i a ha, hold i a ha⟩⟩
  · have hb : hitB H x = false := by unfold hitB; simp; intro _; omega
    rw [h2]
    unfold hitS
    rw [hb]
    refine ⟨fun a ha => ?_, by rw [List.length_append, List.length_singleton]; exact hext _ (by omega), fun i a ha => ?_⟩
    · rcases List.mem_append.1 ha with h | h
      · exact hI a h
      · simp at h; subst h; intro _; simp
    · have hlen : (H ++ [(⟨c, p, false, true, []⟩ : OB)]).length + 1 - s.length = 1 := by simp; omega
      unfold extS
      rw [hlen, if_neg (by decide)]
      by_cases hi : i < H.length
      · rw [List.getElem?_append_left hi] at ha
        exact ⟨_, by rw [List.getElem?_append_left (by omega)]; exact hs i a ha, hold i a ha⟩
      · have hi2 : i = H.length := by have := (List.getElem?_eq_some_iff.1 ha).1; simp at this; omega
        subst hi2
        simp at ha
        subst ha
        exact ⟨false, by rw [List.getElem?_append_right (by omega)]; simp [hl], rfl⟩
  · have hn : n - 1 < H.length := (List.getElem?_eq_some_iff.1 h3).1
    have hlen : (opH lim H x).length = H.length := by rw [h5]; simp
    have ht : x.o.toNat = n := by rw [h1]; simp
    have hIa := hI a (List.mem_of_getElem? h3)
    have hsa := hs (n - 1) a h3
    have en : n - 1 + 1 = n := by omega
    rw [en] at hsa
    have hgI : (g a).fast = true → (g a).l.length ≤ 128 := by
      rcases h6 with ⟨_, rfl, _⟩ | ⟨_, rfl, h⟩ | ⟨_, e1, e2⟩ | ⟨_, rfl⟩
      · rw [put_big hIa]
        simp [Big]
      · intro h'
        rw [getL_idx] at h
        unfold dropA at h'
        cases hi : idx (gk a.l) (pk x.k) with
        | none => rw [hi] at h; cases h
        | some j => rw [hi] at h'; cases h'
      · rw [e1, e2]; exact hIa
      · intro h; cases h
    have hga : ∃ b, (hitS H x s)[n]? = some b ∧ (g a).fast = !(b || Big (g a)) := by
      have hlt : n < s.length := by omega
      rcases h6 with ⟨k, rfl, _⟩ | ⟨k, rfl, h⟩ | ⟨k, e1, e2⟩ | ⟨k, rfl⟩
      · refine ⟨!a.fast, ?_, (put_big hIa).trans ?_⟩
        · unfold hitS
          rw [if_neg]
          · exact hsa
          · unfold hitB; simp; intro _; omega
        · cases a.fast <;> simp
      · refine ⟨true, ?_, ?_⟩
        · unfold hitS
          rw [if_pos, ht]
          · rw [List.getElem?_set_self (by omega)]
          · unfold hitB
            rw [h4, h1, own_some h2 h3, h]
            simp [k]
        · rw [getL_idx] at h
          unfold dropA
          cases hi : idx (gk a.l) (pk x.k) with
          | none => rw [hi] at h; cases h
          | some j => rfl
      · refine ⟨!a.fast, ?_, ?_⟩
        · unfold hitS
          rw [if_neg]
          · exact hsa
          · unfold hitB; simp; intro _; omega
        · have : Big (g a) = Big a := by unfold Big; rw [e2]
          rw [e1, this]
          exact hold _ a h3
      · refine ⟨true, ?_, rfl⟩
        unfold hitS
        rw [if_pos, ht]
        · rw [List.getElem?_set_self (by omega)]
        · unfold hitB
          rw [h4]
          simp
          omega
    rw [hlen, hext0, h5]
    refine ⟨fun b hb => ?_, by rw [hit_len, hl], fun i b hb => ?_⟩
    · rcases List.mem_or_eq_of_mem_set hb with h | h
      · exact hI b h
      · subst h; exact hgI
    · rw [List.getElem?_set] at hb
      by_cases hi : n - 1 = i
      · subst hi
        rw [if_pos rfl, if_pos hn] at hb
        injection hb with hb
        subst hb
        rw [en]
        exact hga
      · rw [if_neg hi] at hb
        refine ⟨_, ?_, hold i b hb⟩
        unfold hitS
        split
        · rw [ht, List.getElem?_set_ne (by omega)]; exact hs i b hb
        · exact hs i b hb
/-- never more than the limit -/
theorem op_room {lim : Int} {H : List OB} {x : OP} (h : (usedH H : Int) ≤ lim) : (usedH (opH lim H x) : Int) ≤ lim := by
  rcases op_cases lim H x with ⟨h1, _⟩ | ⟨_, c, p, h2, h3⟩ | ⟨n, a, g, h1, h2, h3, h4, h5, h6⟩
  · rw [h1]; exact h
  · rw [h2]
    have : usedH (H ++ [(⟨c, p, false, true, []⟩ : OB)]) = usedH H + 1 := by simp [usedH]; omega
    omega
  · have e := usedH_set (a' := g a) h3
    rw [h5]
    rcases h6 with ⟨_, rfl, q⟩ | ⟨_, rfl, q⟩ | ⟨_, e1, e2⟩ | ⟨_, rfl⟩
    · have : (putA (pk x.k) x.p a).l.length = if (getL a.l (pk x.k)).isSome then a.l.length else a.l.length + 1 := putL_len _ _ _
      cases hg : (getL a.l (pk x.k)).isSome with
      | true => rw [hg] at this; simp at this; omega
      | false =>
        rw [hg] at this q
        simp at this
        have q : (usedH H : Int) < lim := by rcases q with q | q; cases q; exact q
        omega
    · have := drop_len (pk x.k) a; omega
    · rw [e2] at e; omega
    · have : (forceA a).l = a.l := rfl
      rw [this] at e; omega
/-- the heap after a list's first operations -/
def runO (lim : Int) (l : List OP) : List OB := l.foldl (opH lim) []
theorem run_next {lim : Int} {l : List OP} {i : Nat} {x : OP} (h : l[i]? = some x) : runO lim (l.take (i + 1)) = opH lim (runO lim (l.take i)) x := by
  have hlt : i < l.length := (List.getElem?_eq_some_iff.1 h).1
  have hx : l[i] = x := (List.getElem?_eq_some_iff.1 h).2
  unfold runO
  rw [List.take_succ_eq_append_getElem hlt, List.foldl_append, hx]
  rfl
theorem run_used {lim : Int} {l : List OP} : ∀ {i : Nat}, i ≤ l.length → usedH (runO lim (l.take i)) ≤ i := by
  intro i
  induction i with
  | zero => intro _; simp [runO, usedH]
  | succ i ih =>
    intro h
    have hx : l[i]? = some l[i] := List.getElem?_eq_getElem (by omega)
    rw [run_next hx]
    have := ih (by omega)
    have := op_used lim (runO lim (l.take i)) l[i]
    omega
theorem run_room {lim : Int} (h0 : 0 ≤ lim) {l : List OP} : ∀ {i : Nat}, i ≤ l.length → (usedH (runO lim (l.take i)) : Int) ≤ lim := by
  intro i
  induction i with
  | zero => intro _; simp [runO, usedH]; exact h0
  | succ i ih =>
    intro h
    have hx : l[i]? = some l[i] := List.getElem?_eq_getElem (by omega)
    rw [run_next hx]
    exact op_room (ih (by omega))
end Go.Proofs.YtoccmiinkfhohaaGreat
namespace Go.Proofs.YtoccmiinkfhohaaGreat
open Go.RowKit Go.Shelf Go.Lib Go.Sort Go.Proofs Go.Maps
set_option linter.unusedVariables false
set_option maxHeartbeats 400000
set_option maxRecDepth 8000

def LawS (w0 w : World) (hb rb : Nat) (lim : Int) (B : Nat) (H : List OB) : Prop :=
  ∃ f f2, Two w hb rb lim B H f f2 ∧ Below w0.heap.size w0 w ∧ ∀ r, r < w0.heap.size → f r = 0 ∧ f2 r = 0
section
variable {w0 w w' : World} {hb rb B : Nat} {lim : Int} {H : List OB}
theorem LawS.base (h : LawS w0 w hb rb lim B H) : Below w0.heap.size w0 w := by
  obtain ⟨f, f2, h1, h2, h3⟩ := h
  exact h2
theorem LawS.below (h : LawS w0 w hb rb lim B H) (hb' : Below w.heap.size w w') : LawS w0 w' hb rb lim B H := by
  obtain ⟨f, f2, h1, h2, h3⟩ := h
  exact ⟨f, f2, h1.below hb', h2.trans (hb'.mono h2.size), h3⟩
theorem law_new {w w1 w2 : World} {f f2 : Nat → Nat} (t1 : Turn (fun _ => False) (fun _ => 0) f w w1) (h1 : HeapO w1 f hb lim 0 128 []) (t2 : Turn (fun _ => False) (fun _ => 0) f2 w1 w2) (h2 : RefO w2 f2 rb lim []) : LawS w w2 hb rb lim 128 [] := by
  have b1 : Below w.heap.size w w1 := t1.below (Nat.le_refl _) (fun _ _ h => h)
  have b2 : Below w1.heap.size w1 w2 := t2.below (Nat.le_refl _) (fun _ _ h => h)
  refine ⟨f, f2, ⟨t1.norm.below b2.size, t2.norm, h1.below t1.norm b2, h2, fun r hr => ?_⟩, b1.trans (b2.mono b1.size), fun r hr => ⟨t1.agree r hr, t2.agree r (Nat.lt_of_lt_of_le hr b1.size)⟩⟩
  by_cases hlt : r < w1.heap.size
  · exact absurd (t2.agree r hlt) hr
  · exact t1.norm r (by omega)
theorem LawS.done {f f2 : Nat → Nat} {B' : Nat} {H' : List OB} (h2 : Below w0.heap.size w0 w) (h3 : ∀ r, r < w0.heap.size → f r = 0 ∧ f2 r = 0) (hd : Done w w' hb rb lim B' H' f f2) : LawS w0 w' hb rb lim B' H' := by
  obtain ⟨f', f2', g1, g2⟩ := hd
  refine ⟨f', f2', g1, h2.trans (g2.below h2.size h3), fun r hr => ?_⟩
  obtain ⟨q1, q2⟩ := g2.own r (Nat.lt_of_lt_of_le hr h2.size)
  rw [q1, q2]
  exact h3 r hr
theorem l_new {w1 : World} {f : Nat → Nat} (t1 : Turn (fun _ => False) (fun _ => 0) f w w1) (h1 : HeapO w1 f hb lim 0 128 []) :
    Calls Tryz.prog 8 #[.int .i64 lim] w1 fun e w2 => ∃ rb, e = .returned (.pointer (some ⟨rb, 0, none⟩)) ∧ LawS w w2 hb rb lim 128 [] := by
  refine (c_Rnew (f := fun _ => 0) (fun _ _ => rfl) lim).mono ?_
  rintro e w2 ⟨rb, f2, rfl, t2, h2⟩
  exact ⟨rb, rfl, law_new t1 h1 t2 h2⟩
theorem l_do (h : LawS w0 w hb rb lim B H) (hB1 : 128 ≤ B) (hB : B < 90000) (hu : usedH H ≤ 100000) (x : OP) (hk : okK x.k) :
    Calls Tryz.prog 9 #[.pointer (some ⟨hb, 0, none⟩), .pointer (some ⟨rb, 0, none⟩), .agg (encO x).toArray] w fun e w' => e = .returned (.bool true) ∧ LawS w0 w' hb rb lim (B + 2) (opH lim H x) := by
  obtain ⟨f, f2, h1, h2, h3⟩ := h
  refine (c_do15 h1 hB1 hB hu x hk).mono ?_
  rintro e w' ⟨rfl, hd⟩
  exact ⟨rfl, LawS.done h2 h3 hd⟩
theorem l_Len (h : LawS w0 w hb rb lim B H) (hu : usedH H ≤ 100000) : Calls Tryz.prog 34 #[.pointer (some ⟨hb, 0, none⟩)] w fun e w' => e = .returned (.int .i64 (H.length : Int)) ∧ w' = w := by
  obtain ⟨f, f2, h1, h2, h3⟩ := h
  have := used_len H
  exact c_HLen h1.2.2.1 (by omega)
theorem l_Used (h : LawS w0 w hb rb lim B H) : Calls Tryz.prog 21 #[.pointer (some ⟨hb, 0, none⟩)] w fun e w' => e = .returned (.int .i64 (usedH H : Int)) ∧ w' = w := by
  obtain ⟨f, f2, h1, h2, h3⟩ := h
  exact c_HUsed h1.2.2.1
theorem KeysOf.len {ks Z : List KK} (h : KeysOf ks Z) : Z.length = ks.length := by
  obtain ⟨l, h1, _, h3, _⟩ := h
  rw [h3.len, ← h1, List.length_map]
theorem l_KeysLen (h : LawS w0 w hb rb lim B H) (hB1 : 128 ≤ B) (hB : B ≤ 100000) (m : Nat) (a : OB) (ha : H[m]? = some a) :
    Calls Tryz.prog 19 #[.pointer (some ⟨hb, 0, none⟩), .int .i64 ((m : Int) + 1)] w fun e w' => ∃ p c, e = .returned (.slice p a.l.length c) ∧ Below w.heap.size w w' := by
  obtain ⟨f, f2, h1, h2, h3⟩ := h
  have hc := c_HKeys h1.1 h1.2.2.1 hB1 hB ((m + 1 : Nat) : Int)
  have e : listH H ((m + 1 : Nat) : Int) = a.l := by unfold listH; rw [objH_at (o := m + 1) (by omega) ha]
  rw [e] at hc
  refine hc.mono ?_
  rintro e w' ⟨v, Z, rfl, hr, hk, hb'⟩
  obtain ⟨p, c, rfl, _⟩ := hr.form
  have := hk.len
  rw [this]
  simp only [gk, List.length_map]
  exact ⟨p, c, rfl, hb'⟩
end
/-- the properties of the first objects -/
def sumL (H : List OB) (m : Nat) : Nat := H.length + ((H.take m).map fun a => a.l.length).sum
theorem sumL_next {H : List OB} {m : Nat} {a : OB} (h : H[m]? = some a) : sumL H (m + 1) = sumL H m + a.l.length := by
  have hlt : m < H.length := (List.getElem?_eq_some_iff.1 h).1
  have hx : H[m] = a := (List.getElem?_eq_some_iff.1 h).2
  unfold sumL
  rw [List.take_succ_eq_append_getElem hlt, List.map_append, List.sum_append, hx]
  simp
  omega
theorem sumL_end (H : List OB) : sumL H H.length = usedH H := by
  unfold sumL usedH
  rw [List.take_length]
theorem sumL_le (H : List OB) {m : Nat} (h : m ≤ H.length) : sumL H m ≤ usedH H := by
  rw [← sumL_end]
  unfold sumL
  obtain ⟨d, hd⟩ := Nat.exists_eq_add_of_le h
  rw [hd, List.take_add, List.map_append, List.sum_append]
  omega
end Go.Proofs.YtoccmiinkfhohaaGreat

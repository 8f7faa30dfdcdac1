/-
  Contracts: The state of the law HeapFast: two heaps side by side and a row of marks. What both heaps tell of an object. The law's same: both heaps tell the same of all objects.
-/
import Derived.Test.YtoccmiinkfhohaaGreatW15
import Derived.Test.YtoccmiinkfhohaaGreatW10
namespace Go.Proofs.YtoccmiinkfhohaaGreat
open Go.RowKit Go.Shelf Go.Lib Go.Sort Go.Proofs Go.Maps
set_option linter.unusedVariables false
set_option maxHeartbeats 400000
set_option maxRecDepth 8000

theorem infoBoolF : (Tryz.prog.info? 4).map (fun i => (i.zero, i.size, i.bytes)) = some (some (.bool false), 1, 1) := by kernel_rfl
def mks (s : List Bool) : List Value := s.map Value.bool
theorem mks_len (s : List Bool) : (mks s).length = s.length := by simp [mks]
theorem mks_one (s : List Bool) : ∀ u ∈ mks s, u.oneCell' = true := by
  intro u hu
  obtain ⟨b, _, rfl⟩ := List.mem_map.1 hu
  rfl
/-- K: blocks that are neither heap's nor the marks', and what they hold -/
def FastS (K : Nat → Obj → Prop) (w0 w : World) (hb rb : Nat) (lim : Int) (B : Nat) (H : List OB) (sv : Value) (s : List Bool) : Prop :=
  ∃ f f2, Two w hb rb lim B H f f2 ∧ Below w0.heap.size w0 w ∧ (∀ r, r < w0.heap.size → f r = 0 ∧ f2 r = 0) ∧ w.ownsRow w0.heap.size 4 1 sv s.length (mks s) ∧ (∀ k, sv.ownBlock = some k → f k = 0 ∧ f2 k = 0) ∧ ∀ b o, K b o → w.heap[b]? = some o ∧ f b = 0 ∧ f2 b = 0 ∧ sv.ownBlock ≠ some b
section
variable {K : Nat → Obj → Prop} {w0 w w' : World} {hb rb B : Nat} {lim : Int} {H : List OB} {sv : Value} {s : List Bool}
theorem FastS.law (h : FastS K w0 w hb rb lim B H sv s) : LawS w0 w hb rb lim B H := by
  obtain ⟨f, f2, h1, h2, h3, _⟩ := h
  exact ⟨f, f2, h1, h2, h3⟩
theorem FastS.start (h : LawS w0 w hb rb lim B H) : FastS (fun _ _ => False) w0 w hb rb lim B H (.slice none 0 0) [] := by
  obtain ⟨f, f2, h1, h2, h3⟩ := h
  exact ⟨f, f2, h1, h2, h3, ⟨rfl, .inl ⟨rfl, rfl⟩⟩, fun k h => (by cases h), fun _ _ h => h.elim⟩
theorem FastS.forget (h : FastS K w0 w hb rb lim B H sv s) : FastS (fun _ _ => False) w0 w hb rb lim B H sv s := by
  obtain ⟨f, f2, h1, h2, h3, h4, h5, h6⟩ := h
  exact ⟨f, f2, h1, h2, h3, h4, h5, fun _ _ h => h.elim⟩
/-- a block more is watched -/
theorem FastS.watch {b : Nat} {ob : Obj} (h : FastS (fun _ _ => False) w0 w hb rb lim B H sv s) (hb' : Below w.heap.size w w') (hB : b = w.heap.size) (ho : w'.heap[b]? = some ob) : FastS (fun x o => x = b ∧ o = ob) w0 w' hb rb lim B H sv s := by
  obtain ⟨f, f2, h1, h2, h3, h4, h5, h6⟩ := h
  refine ⟨f, f2, h1.below hb', h2.trans (hb'.mono h2.size), h3, own_at h4 (fun r hr => hb'.block r (h4.lt r hr).2), h5, ?_⟩
  rintro x o ⟨rfl, rfl⟩
  exact ⟨ho, h1.1 _ (by omega), h1.2.1 _ (by omega), fun e => by have := (h4.lt _ e).2; omega⟩
theorem FastS.held {b : Nat} {o : Obj} (h : FastS K w0 w hb rb lim B H sv s) (hK : K b o) : w.heap[b]? = some o := by
  obtain ⟨f, f2, h1, h2, h3, h4, h5, h6⟩ := h
  exact (h6 b o hK).1
theorem FastS.below (h : FastS K w0 w hb rb lim B H sv s) (hb' : Below w.heap.size w w') : FastS K w0 w' hb rb lim B H sv s := by
  obtain ⟨f, f2, h1, h2, h3, h4, h5, h6⟩ := h
  refine ⟨f, f2, h1.below hb', h2.trans (hb'.mono h2.size), h3, own_at h4 (fun r hr => hb'.block r (h4.lt r hr).2), h5, fun b o hK => ?_⟩
  obtain ⟨g1, g2⟩ := h6 b o hK
  exact ⟨(hb'.block b (heapH_lt g1)).trans g1, g2⟩
/-- a change of what neither heap owns -/
theorem Two.keep {f f2 : Nat → Nat} (h : Two w hb rb lim B H f f2) (ho : w'.os = w.os) (ht : w'.tape = w.tape) (hp : w'.output = w.output) (hs : w.heap.size ≤ w'.heap.size) {k0 : Nat} (hK : f k0 = 0 ∧ f2 k0 = 0) (hk : ∀ r, r < w.heap.size → r ≠ k0 → w'.heap[r]? = w.heap[r]?) : Two w' hb rb lim B H f f2 := by
  obtain ⟨h1, h2, h3, h4, h5⟩ := h
  have t1 : Turn (fun c => c = 0) f f w w' := ⟨ho, ht, hp, hs, fun _ _ => rfl, h1.below hs, fun r hr hn => hk r hr (fun e => hn (by rw [e]; exact hK.1))⟩
  have t2 : Turn (fun c => c = 0) f2 f2 w w' := ⟨ho, ht, hp, hs, fun _ _ => rfl, h2.below hs, fun r hr hn => hk r hr (fun e => hn (by rw [e]; exact hK.2))⟩
  exact ⟨h1.below hs, h2.below hs, h3.turn t1 (fun _ h => h), h4.turn t2 (fun _ h => h), h5⟩
theorem FastS.done {f f2 : Nat → Nat} {B' : Nat} {H' : List OB} (h2 : Below w0.heap.size w0 w) (h3 : ∀ r, r < w0.heap.size → f r = 0 ∧ f2 r = 0) (h4 : w.ownsRow w0.heap.size 4 1 sv s.length (mks s)) (h5 : ∀ k, sv.ownBlock = some k → f k = 0 ∧ f2 k = 0) (h6 : ∀ b o, K b o → w.heap[b]? = some o ∧ f b = 0 ∧ f2 b = 0 ∧ sv.ownBlock ≠ some b) (hd : Done w w' hb rb lim B' H' f f2) : FastS K w0 w' hb rb lim B' H' sv s := by
  obtain ⟨f', f2', g1, g2⟩ := hd
  refine ⟨f', f2', g1, h2.trans (g2.below h2.size h3), fun r hr => ?_, own_at h4 (fun r hr => g2.block r (h4.lt r hr).2 (h5 r hr).1 (h5 r hr).2), fun k hk => ?_, fun b o hK => ?_⟩
  · obtain ⟨q1, q2⟩ := g2.own r (Nat.lt_of_lt_of_le hr h2.size)
    rw [q1, q2]
    exact h3 r hr
  · obtain ⟨q1, q2⟩ := g2.own k (h4.lt k hk).2
    rw [q1, q2]
    exact h5 k hk
  · obtain ⟨e1, e2, e3, e4⟩ := h6 b o hK
    obtain ⟨q1, q2⟩ := g2.own b (heapH_lt e1)
    exact ⟨(g2.block b (heapH_lt e1) e2 e3).trans e1, q1.trans e2, q2.trans e3, e4⟩
theorem FastS.form (h : FastS K w0 w hb rb lim B H sv s) : ∃ q c, sv = .slice q s.length c ∧ ∀ (i : Nat) b, s[i]? = some b → ∃ g, q = some ⟨g, 0, none⟩ ∧ g < w.heap.size ∧ w.cell? ⟨g, i, none⟩ = some (.bool b) ∧ w.frozen? ⟨g, i, none⟩ = false := by
  obtain ⟨f, f2, h1, h2, h3, h4, h5, h6⟩ := h
  rcases h4.2 with ⟨e, h⟩ | ⟨g, cap, cur, e, r1, hg, _⟩
  · rw [h]; exact ⟨_, _, e, fun i b hb => by have : i < s.length := (List.getElem?_eq_some_iff.1 hb).1; omega⟩
  · refine ⟨_, _, e, fun i b hb => ⟨g, rfl, heapH_lt hg, ?_, by simp [World.frozen?, hg]⟩⟩
    have := h4.cells (g := g) (by rw [e]; rfl) i (.bool b) (by simp [mks, hb])
    rwa [Addr.add_lit, Nat.zero_add] at this
/-- a mark is set -/
theorem FastS.set {g c i : Nat} (h : FastS K w0 w hb rb lim B H (.slice (some ⟨g, 0, none⟩) s.length c) s) : FastS K w0 (w.setCell ⟨g, i, none⟩ (.bool true)) hb rb lim B H (.slice (some ⟨g, 0, none⟩) s.length c) (s.set i true) := by
  obtain ⟨f, f2, h1, h2, h3, h4, h5, h6⟩ := h
  have hk : ∀ r, r ≠ g → (w.setCell ⟨g, i, none⟩ (.bool true)).heap[r]? = w.heap[r]? := fun r hr => Below.heap_setCell _ _ _ _ hr
  have hlt := h4.lt g rfl
  refine ⟨f, f2, h1.keep rfl rfl rfl (by simp) (h5 g rfl) (fun r _ hr => hk r hr), h2.setCell hlt.1 _, h3, ?_, h5, fun b o hK => ?_⟩
  rotate_left
  · obtain ⟨e1, e2⟩ := h6 b o hK
    exact ⟨(hk b (fun e => e2.2.2 (by rw [e]; rfl))).trans e1, e2⟩
  have := row_set h4 i (.bool true)
  rw [List.length_set]
  unfold mks at *
  rw [List.map_set]
  exact this
/-- one mark more -/
theorem FastS.push {w5 : World} {gg cap n : Nat} (h : FastS K w0 w hb rb lim B H sv s) (o : Obj) (hn : n = s.length) (hown : w5.ownsRow w0.heap.size 4 1 (.slice (some ⟨gg, 0, none⟩) (n + 1) cap) (n + 1) (mks s ++ [.bool false])) (hg : (w.alloc o).grownBy w5 sv.ownBlock) (hat : sv.ownBlock = some gg ∨ gg = w.heap.size + 1) :
    FastS K w0 w5 hb rb lim B H (.slice (some ⟨gg, 0, none⟩) (n + 1) cap) (s ++ [false]) := by
  subst hn
  obtain ⟨f, f2, h1, h2, h3, h4, h5, h6⟩ := h
  have hsz : w.heap.size + 1 ≤ w5.heap.size := by have := hg.size; simpa using this
  have hk : ∀ r, r < w.heap.size → sv.ownBlock ≠ some r → w5.heap[r]? = w.heap[r]? := fun r hr hne => by
    rw [hg.block r (by simp; omega) (fun e => hne e.symm), Below.heap_alloc _ _ _ hr]
  have hgg : f gg = 0 ∧ f2 gg = 0 := by
    rcases hat with e | e
    · exact h5 gg e
    · rw [e]; exact ⟨h1.1 _ (by omega), h1.2.1 _ (by omega)⟩
  have h1' : Two w5 hb rb lim B H f f2 := by
    cases e : sv.ownBlock with
    | none => exact h1.below ⟨hg.os, hg.tape, hg.output, by omega, fun r hr => hk r hr (by rw [e]; simp)⟩
    | some k => exact h1.keep hg.os hg.tape hg.output (by omega) (h5 k e) (fun r hr hne => hk r hr (by rw [e]; simp; exact fun h => hne h.symm))
  refine ⟨f, f2, h1', ⟨hg.os.trans h2.os, hg.tape.trans h2.tape, hg.output.trans h2.output, Nat.le_trans h2.size (by omega), fun r hr => ?_⟩, h3, ?_, fun k hk2 => ?_, fun b o hK => ?_⟩
  · rw [hk r (Nat.lt_of_lt_of_le hr h2.size) (fun e => by have := (h4.lt r e).1; omega)]
    exact h2.block r hr
  · have e1 : mks (s ++ [false]) = mks s ++ [.bool false] := by simp [mks]
    rw [e1, List.length_append]
    exact hown
  · injection hk2 with hk2
    have hk3 : gg = k := hk2
    subst hk3
    exact hgg
  · obtain ⟨e1, e2, e3, e4⟩ := h6 b o hK
    have hlt := heapH_lt e1
    refine ⟨(hk b hlt e4).trans e1, e2, e3, fun e => ?_⟩
    injection e with e
    have e' : gg = b := e
    rcases hat with h | h
    · exact e4 (by rw [h, e'])
    · omega
/-- the reference's cells -/
theorem LawS.form (h : LawS w0 w hb rb lim B H) : ∃ g c, w.cell? ⟨rb, 1, none⟩ = some (.slice (some ⟨g, 0, none⟩) (H.length + 1) c) ∧ rb < w.heap.size ∧
    ∀ (m : Nat) a, H[m]? = some a → ∃ q cp, w.cell? ⟨g, (m + 1) * 4 + 3, none⟩ = some (.slice q a.l.length cp) := by
  obtain ⟨f, f2, h1, h2, h3⟩ := h
  obtain ⟨g, c, c0, c1, hl, hr⟩ := h1.2.2.2.1.form
  rw [stp_len] at c1
  refine ⟨g, c, c1, hl.1, fun m a ha => ?_⟩
  obtain ⟨sv, hs, _, _, _, _, hc⟩ := hr (m + 1) (strip a) (by omega) (by rw [Nat.add_sub_cancel, stp_get, ha]; rfl)
  obtain ⟨q, cp, e⟩ := hs.len
  exact ⟨q, cp, by rw [hc, e]; rfl⟩
theorem l_RHas (h : LawS w0 w hb rb lim B H) (o : Int) : Calls Tryz.prog 32 #[.pointer (some ⟨rb, 0, none⟩), .int .i64 o] w fun e w' => e = .returned (.bool (hasH H o)) ∧ w' = w := by
  obtain ⟨f, f2, h1, h2, h3⟩ := h
  have hc := c_RHas h1.2.2.2.1 o
  rw [stp_has] at hc
  exact hc
theorem l_ROwn (h : LawS w0 w hb rb lim B H) (hu : usedH H ≤ 100000) (o : Int) (k : KK) (hk : okK k) : Calls Tryz.prog 14 #[.pointer (some ⟨rb, 0, none⟩), .int .i64 o, .agg #[.string k.1, .int .i64 k.2]] w fun e w' => ∃ P : PV, e = .returned (.tuple #[.agg (encP P).toArray, .bool (ownH H o (pk k)).isSome]) ∧ Below w.heap.size w w' := by
  obtain ⟨f, f2, h1, h2, h3⟩ := h
  have hc := c_ROwn h1.2.1 h1.2.2.2.1 (stp_small hu) o k hk
  rw [stp_own] at hc
  exact hc.mono fun e w' hx => ⟨_, hx.2, hx.1⟩
theorem l_HFast (h : LawS w0 w hb rb lim B H) (m : Nat) (a : OB) (ha : H[m]? = some a) : Calls Tryz.prog 22 #[.pointer (some ⟨hb, 0, none⟩), .int .i64 ((m : Int) + 1)] w fun e w' => e = .returned (.bool a.fast) ∧ w' = w := by
  obtain ⟨f, f2, h1, h2, h3⟩ := h
  exact c_HFast1 h1.2.2.1 (m + 1) a (by omega) ha
theorem l_doF (h : FastS K w0 w hb rb lim B H sv s) (hB1 : 128 ≤ B) (hB : B < 90000) (hu : usedH H ≤ 100000) (x : OP) (hk : okK x.k) :
    Calls Tryz.prog 9 #[.pointer (some ⟨hb, 0, none⟩), .pointer (some ⟨rb, 0, none⟩), .agg (encO x).toArray] w fun e w' => e = .returned (.bool true) ∧ FastS K w0 w' hb rb lim (B + 2) (opH lim H x) sv s := by
  obtain ⟨f, f2, h1, h2, h3, h4, h5, h6⟩ := h
  refine (c_do15 h1 hB1 hB hu x hk).mono ?_
  rintro e w' ⟨rfl, hd⟩
  exact ⟨rfl, FastS.done h2 h3 h4 h5 h6 hd⟩
end
end Go.Proofs.YtoccmiinkfhohaaGreat
namespace Go.Proofs.YtoccmiinkfhohaaGreat
open Go.RowKit Go.Shelf Go.Lib Go.Sort Go.Proofs Go.Maps
set_option linter.unusedVariables false
set_option maxHeartbeats 4000000
set_option maxRecDepth 100000

def clsV (H : List OB) (o : Int) : Int := match objH H o with | some a => a.cls | none => 0
def proV (H : List OB) (o : Int) : Int := match objH H o with | some a => a.pro | none => 0
def opnV (H : List OB) (o : Int) : Bool := match objH H o with | some a => !a.shut | none => false
theorem clsV_stp (H : List OB) (o : Int) : clsV (stp H) o = clsV H o := by unfold clsV; rw [stp_obj]; cases objH H o <;> rfl
theorem proV_stp (H : List OB) (o : Int) : proV (stp H) o = proV H o := by unfold proV; rw [stp_obj]; cases objH H o <;> rfl
theorem opnV_stp (H : List OB) (o : Int) : opnV (stp H) o = opnV H o := by unfold opnV; rw [stp_obj]; cases objH H o <;> rfl
section
variable {w0 w w' : World} {hb rb B : Nat} {lim : Int} {H : List OB}
theorem l_RUsed (h : LawS w0 w hb rb lim B H) (hu : usedH H ≤ 100000) : Calls Tryz.prog 33 #[.pointer (some ⟨rb, 0, none⟩)] w fun e w' => e = .returned (.int .i64 (usedH H : Int)) ∧ Below w.heap.size w w' := by
  obtain ⟨f, f2, h1, h2, h3⟩ := h
  have hc := c_RUsed h1.2.2.2.1 (by rw [stp_used]; exact hu)
  rw [stp_used] at hc
  exact hc
theorem l_HHas (h : LawS w0 w hb rb lim B H) (o : Int) : Calls Tryz.prog 35 #[.pointer (some ⟨hb, 0, none⟩), .int .i64 o] w fun e w' => e = .returned (.bool (hasH H o)) ∧ w' = w := by
  obtain ⟨f, f2, h1, h2, h3⟩ := h
  exact c_HHas h1.2.2.1 o
theorem l_HClass (h : LawS w0 w hb rb lim B H) (o : Int) : Calls Tryz.prog 36 #[.pointer (some ⟨hb, 0, none⟩), .int .i64 o] w fun e w' => e = .returned (.int .i64 (clsV H o)) ∧ w' = w := by
  obtain ⟨f, f2, h1, h2, h3⟩ := h
  exact c_HClass h1.2.2.1 o
theorem l_RClass (h : LawS w0 w hb rb lim B H) (o : Int) : Calls Tryz.prog 37 #[.pointer (some ⟨rb, 0, none⟩), .int .i64 o] w fun e w' => e = .returned (.int .i64 (clsV H o)) ∧ w' = w := by
  obtain ⟨f, f2, h1, h2, h3⟩ := h
  rw [← clsV_stp]
  exact c_RClass h1.2.2.2.1 o
theorem l_HProto (h : LawS w0 w hb rb lim B H) (o : Int) : Calls Tryz.prog 38 #[.pointer (some ⟨hb, 0, none⟩), .int .i64 o] w fun e w' => e = .returned (.int .i64 (proV H o)) ∧ w' = w := by
  obtain ⟨f, f2, h1, h2, h3⟩ := h
  exact c_HProto h1.2.2.1 o
theorem l_RProto (h : LawS w0 w hb rb lim B H) (o : Int) : Calls Tryz.prog 39 #[.pointer (some ⟨rb, 0, none⟩), .int .i64 o] w fun e w' => e = .returned (.int .i64 (proV H o)) ∧ w' = w := by
  obtain ⟨f, f2, h1, h2, h3⟩ := h
  rw [← proV_stp]
  exact c_RProto h1.2.2.2.1 o
theorem l_HOpen (h : LawS w0 w hb rb lim B H) (o : Int) : Calls Tryz.prog 40 #[.pointer (some ⟨hb, 0, none⟩), .int .i64 o] w fun e w' => e = .returned (.bool (opnV H o)) ∧ w' = w := by
  obtain ⟨f, f2, h1, h2, h3⟩ := h
  exact c_HOpen h1.2.2.1 o
theorem l_ROpen (h : LawS w0 w hb rb lim B H) (o : Int) : Calls Tryz.prog 41 #[.pointer (some ⟨rb, 0, none⟩), .int .i64 o] w fun e w' => e = .returned (.bool (opnV H o)) ∧ w' = w := by
  obtain ⟨f, f2, h1, h2, h3⟩ := h
  rw [← opnV_stp]
  exact c_ROpen h1.2.2.2.1 o
theorem l_HKeys (h : LawS w0 w hb rb lim B H) (hB1 : 128 ≤ B) (hB : B ≤ 100000) (o : Int) : Calls Tryz.prog 19 #[.pointer (some ⟨hb, 0, none⟩), .int .i64 o] w fun e w' => ∃ v Z, e = .returned v ∧ RdK w' v Z ∧ KeysOf (gk (listH H o)) Z ∧ Below w.heap.size w w' := by
  obtain ⟨f, f2, h1, h2, h3⟩ := h
  exact c_HKeys h1.1 h1.2.2.1 hB1 hB o
theorem l_RKeys (h : LawS w0 w hb rb lim B H) (hu : usedH H ≤ 100000) (o : Int) : Calls Tryz.prog 43 #[.pointer (some ⟨rb, 0, none⟩), .int .i64 o] w fun e w' => ∃ v Z, e = .returned v ∧ RdK w' v Z ∧ KeysOf (gk (listH H o)) Z ∧ Below w.heap.size w w' := by
  obtain ⟨f, f2, h1, h2, h3⟩ := h
  have hc := c_RKeys h1.2.2.2.1 (stp_small hu) o
  rw [stp_list] at hc
  exact hc
/-- what both tell of a key -/
theorem l_HOwnV (h : LawS w0 w hb rb lim B H) (o : Int) (k : KK) (hk : okK k) : Calls Tryz.prog 44 #[.pointer (some ⟨hb, 0, none⟩), .int .i64 o, .agg #[.string k.1, .int .i64 k.2]] w fun e w' => e = .returned (.tuple #[.agg (encP ((ownH H o (pk k)).getD zeroPV)).toArray, .bool (ownH H o (pk k)).isSome]) ∧ Below w.heap.size w w' := by
  obtain ⟨f, f2, h1, h2, h3⟩ := h
  exact (c_HOwn h1.1 h1.2.2.1 o k hk).mono fun e w' hx => ⟨hx.2, hx.1⟩
theorem l_ROwnV (h : LawS w0 w hb rb lim B H) (hu : usedH H ≤ 100000) (o : Int) (k : KK) (hk : okK k) : Calls Tryz.prog 14 #[.pointer (some ⟨rb, 0, none⟩), .int .i64 o, .agg #[.string k.1, .int .i64 k.2]] w fun e w' => e = .returned (.tuple #[.agg (encP ((ownH H o (pk k)).getD zeroPV)).toArray, .bool (ownH H o (pk k)).isSome]) ∧ Below w.heap.size w w' := by
  obtain ⟨f, f2, h1, h2, h3⟩ := h
  have hc := c_ROwn h1.2.1 h1.2.2.2.1 (stp_small hu) o k hk
  rw [stp_own] at hc
  exact hc.mono fun e w' hx => ⟨hx.2, hx.1⟩
end
theorem KeysOf.ok {ks Z : List KK} (h : KeysOf ks Z) : ∀ x ∈ Z, okK x := by
  obtain ⟨l, h1, h2, h3, h4⟩ := h
  exact h4
/-- a property of nothing -/
def zeroQ : Array Value := #[.int .i64 0, .float .f64 0, .string ⟨#[]⟩, .int .i64 0, .int .i64 0, .float .f64 0, .string ⟨#[]⟩, .int .i64 0, .int .i64 0, .float .f64 0, .string ⟨#[]⟩, .int .i64 0, .int .i64 0]
theorem zeroQ_there (w : World) : (w.alloc (.cells zeroQ 36)).there w.heap.size 0 13 := there_of (heap_alloc_new w _) (Nat.le_refl 13)
theorem zeroQ_set (w : World) (P : PV) : Below w.heap.size w ((w.alloc (.cells zeroQ 36)).setCells w.heap.size 0 (encP P)) ∧ ((w.alloc (.cells zeroQ 36)).setCells w.heap.size 0 (encP P)).heap[w.heap.size]? = some (.cells (encP P).toArray 36 (0, 0)) := by
  obtain ⟨h1, h2, _⟩ := fresh_set (w := w) (o := zeroQ) (t := 36) (vs := encP P) rfl
  exact ⟨h1, h2⟩
end Go.Proofs.YtoccmiinkfhohaaGreat
namespace Go.Proofs.YtoccmiinkfhohaaGreat
open Go.RowKit Go.Shelf Go.Lib Go.Sort Go.Proofs Go.Maps
set_option linter.unusedVariables false
set_option maxHeartbeats 4000000
set_option maxRecDepth 100000

theorem c_same15 {w0 w : World} {hb rb B : Nat} {lim : Int} {H : List OB} (h : LawS w0 w hb rb lim B H) (hB1 : 128 ≤ B) (hB : B ≤ 100000) (hu : usedH H ≤ 1000) :
    Calls Tryz.prog 10 #[.pointer (some ⟨hb, 0, none⟩), .pointer (some ⟨rb, 0, none⟩)] w fun e w' => e = .returned (.bool true) ∧ Below w.heap.size w w' := by
  have hL := fun (y : World) (hy : Below w.heap.size w y) => h.below hy
  obtain ⟨gR, cR, c1, lR, _⟩ := h.form
  have hHl := used_len H
  have hst := onto_drew w
  have hLd : LawS w0 w.drew hb rb lim B H := h.below (Below.refl _ w).drew
  replace hL := Lib.hid hL
  have c1w := Lib.hid c1
  clear h
  have u1 : IntKind.i64.wrap (H.length : Int) = (H.length : Int) := by rw [IntKind.wrap_i64]; omega
  go_enter Tryz.func10, Tryz.ntmps10
  go_wp2_with fail
  go_region_held3 (fun y => (∀ a : Addr, a.block < w.heap.size → y.cell? a = w.cell? a) ∧ (∀ b : Nat, b < w.heap.size → y.heap[b]? = w.heap[b]?) ∧ Below w.heap.size w y) (first | with_reducible assumption | with_reducible exact hst | with_reducible exact onto_below (by assumption) (by assumption)) (first | (go_at_call 21; refine (l_Used hLd).mono ?_; rintro e y1 ⟨rfl, rfl⟩) | (go_at_call 33; refine (l_RUsed hLd (by omega)).mono ?_; rintro e y2 ⟨rfl, hb2⟩; have hL2 := hLd.below hb2) | (go_at_call 34; refine (l_Len hL2 (by omega)).mono ?_; rintro e y3 ⟨rfl, rfl⟩))
  have hb3 := Lib.hid ((Below.refl w.heap.size w).drew.trans (hb2.mono (Nat.le_refl _)))
  obtain ⟨W3, rfl⟩ : ∃ W3, W3 = y3 := ⟨_, rfl⟩
  clear hst hLd hL2 hb2 c1
  go_wp2_with fail
  go_loopw [5] (fun vo wr => ∃ m : Nat, m ≤ H.length + 3 ∧ vo = .int .i64 ((m : Int) - 1) ∧ Below w.heap.size w wr) (fun vo _ => H.length + 3 - (intOf vo + 1).toNat)
  case atStart => exact ⟨0, by omega, by simp, hb3.out⟩
  case round =>
    obtain ⟨m, hm, rfl, hbel⟩ := hrel
    obtain ⟨W4, rfl⟩ : ∃ W4, W4 = wr := ⟨_, rfl⟩
    have c1 := (hbel.cell (p := ⟨rb, 1, none⟩) lR).trans c1w.out
    rcases Nat.lt_or_ge m (H.length + 3) with hlt | hge
    · have hle : (m : Int) - 1 ≤ (H.length : Int) + 1 := by omega
      have hL4 := hL.out _ hbel
      have hHas := l_HHas hL4 ((m : Int) - 1)
      have hRHas := l_RHas hL4 ((m : Int) - 1)
      have hCls := l_HClass hL4 ((m : Int) - 1)
      have hRCls := l_RClass hL4 ((m : Int) - 1)
      have hPro := l_HProto hL4 ((m : Int) - 1)
      have hRPro := l_RProto hL4 ((m : Int) - 1)
      have hOpn := l_HOpen hL4 ((m : Int) - 1)
      have hROpn := l_ROpen hL4 ((m : Int) - 1)
      have hKs := l_HKeys hL4 hB1 hB ((m : Int) - 1)
      have hRKs := fun (y : World) (hy : LawS w0 y hb rb lim B H) => l_RKeys hy (by omega) ((m : Int) - 1)
      have hOw := fun (y : World) (hy : LawS w0 y hb rb lim B H) (k : KK) (hk : okK k) => l_HOwnV hy ((m : Int) - 1) k hk
      have hROw := fun (y : World) (hy : LawS w0 y hb rb lim B H) (k : KK) (hk : okK k) => l_ROwnV hy (by omega) ((m : Int) - 1) k hk
      have hlK : (gk (listH H ((m : Int) - 1))).length ≤ 100000 := by
        unfold listH gk
        rcases objH_cases H ((m : Int) - 1) with ⟨_, h2⟩ | ⟨n, a, _, _, ha, h3, _⟩
        · rw [h2]; simp
        · rw [h3, List.length_map]
          have := len_used (List.mem_of_getElem? ha)
          show a.l.length ≤ _
          omega
      generalize hz : (m : Int) - 1 = z at *
      generalize hasH H z = vB at *
      generalize clsV H z = vC at *
      generalize proV H z = vP at *
      generalize opnV H z = vO at *
      generalize gk (listH H z) = ks at *
      replace hHas := Lib.hid hHas
      replace hRHas := Lib.hid hRHas
      replace hCls := Lib.hid hCls
      replace hRCls := Lib.hid hRCls
      replace hPro := Lib.hid hPro
      replace hRPro := Lib.hid hRPro
      replace hOpn := Lib.hid hOpn
      replace hROpn := Lib.hid hROpn
      replace hKs := Lib.hid hKs
      replace hRKs := Lib.hid hRKs
      replace hOw := Lib.hid hOw
      replace hROw := Lib.hid hROw
      have z1 : -1 ≤ z := by omega
      have z2 : z ≤ 100000 := by omega
      have hz' := Lib.hid hz
      clear hz
      go_wp2_with (first | (go_at_call 35; refine hHas.out.mono ?_; rintro e y ⟨rfl, rfl⟩) | (go_at_call 32; refine hRHas.out.mono ?_; rintro e y ⟨rfl, rfl⟩) | (go_at_call 36; refine hCls.out.mono ?_; rintro e y ⟨rfl, rfl⟩) | (go_at_call 37; refine hRCls.out.mono ?_; rintro e y ⟨rfl, rfl⟩) | (go_at_call 38; refine hPro.out.mono ?_; rintro e y ⟨rfl, rfl⟩) | (go_at_call 39; refine hRPro.out.mono ?_; rintro e y ⟨rfl, rfl⟩) | (go_at_call 40; refine hOpn.out.mono ?_; rintro e y ⟨rfl, rfl⟩) | (go_at_call 41; refine hROpn.out.mono ?_; rintro e y ⟨rfl, rfl⟩) | (go_at_call 19; refine hKs.out.mono ?_; rintro e y5 ⟨v5, Z5, rfl, hr5, hk5, hb5⟩; have hL5 := hL4.below hb5) | (go_at_call 43; refine (hRKs.out _ hL5).mono ?_; rintro e y6 ⟨v6, Z6, rfl, hr6, hk6, hb6⟩; have hL6 := hL5.below hb6; clear hL5) | (go_at_call 42; refine (c_SameKeys (hr5.keep hb6) hr6 (hk5.alike hk6) hk5.ok hk6.ok (by rw [hk5.len]; omega)).mono ?_; rintro e y7 ⟨rfl, hb7⟩; have hL7 := hL6.below hb7; clear hL6) | (go_at_call 43; refine (hRKs.out _ hL7).mono ?_; rintro e y8 ⟨v8, Z8, rfl, hr8, hk8, hb8⟩; have hL8 := hL7.below hb8; obtain ⟨p8, c8, rfl, _, hc8, hcell8⟩ := hr8.form))
      have hb57 := hbel.trans (hb5.mono hbel.size)
      have hb67 := hb57.trans (hb6.mono hb57.size)
      have hb77 := hb67.trans (hb7.mono hb67.size)
      have hB8 := Lib.hid (hb77.trans (hb8.mono hb77.size))
      have hok8 := Lib.hid hk8.ok
      have hZ8 : Z8.length ≤ 100000 := by rw [hk8.len]; exact hlK
      replace hcell8 := Lib.hid hcell8
      replace hL8 := Lib.hid hL8
      obtain ⟨W8, rfl⟩ : ∃ W8, W8 = y8 := ⟨_, rfl⟩
      clear hr5 hk5 hb5 hr6 hk6 hb6 hb7 hr8 hk8 hb8 hb57 hb67 hb77 hL4 hL7 hKs hRKs hHas hRHas hCls hRCls hPro hRPro hOpn hROpn hlK c1
      go_loopw [85] (fun vj wr => ∃ j : Nat, j ≤ Z8.length ∧ vj = .int .i64 (j : Int) ∧ Below W8.heap.size W8 wr) (fun vj _ => Z8.length - (intOf vj).toNat)
      case atStart => exact ⟨0, by omega, rfl, Below.refl _ _⟩
      case round =>
        obtain ⟨j, hj, rfl, hbj⟩ := hrel
        obtain ⟨W9, rfl⟩ : ∃ W9, W9 = wr := ⟨_, rfl⟩
        rcases Nat.lt_or_ge j Z8.length with hlj | hgj
        · obtain ⟨x, hx⟩ : ∃ x, Z8[j]? = some x := ⟨_, List.getElem?_eq_getElem hlj⟩
          obtain ⟨bk, ok8, rfl, lk8, hy8⟩ := hcell8.out j x hx
          obtain ⟨d1, d2⟩ := hy8 W9 hbj
          have hokx := hok8.out x (List.mem_of_getElem? hx)
          have q1 : (0 : Int) ≤ (j : Int) := by omega
          have q2 : (j : Int) < (Z8.length : Int) := by omega
          have hL9 := hL8.out.below hbj
          have hOx := fun y hy => hOw.out y hy x hokx
          have hROx := fun y hy => hROw.out y hy x hokx
          obtain ⟨x0, xn⟩ := x
          dsimp only at *
          generalize (ownH H z (pk (x0, xn))).getD zeroPV = P at *
          generalize (ownH H z (pk (x0, xn))).isSome = bI at *
          have hSP := v_SameProp P
          unfold propV encP at hSP
          have hi13 : (Tryz.prog.info? 36).map (·.size) = some (encP P).toArray.size := infoProp
          have hi13l : (Tryz.prog.info? 36).map (·.size) = some (encP P).length := infoProp
          have ho13 := all_oneCell_toArray (encP_one P)
          have hq := fun (y : World) => zeroQ_set y P
          have hth := fun (y : World) => (zeroQ_there y : (y.alloc (.cells zeroQ 36)).there y.heap.size 0 (encP P).toArray.size)
          replace hOx := Lib.hid hOx
          replace hROx := Lib.hid hROx
          replace hSP := Lib.hid hSP
          replace hq := Lib.hid hq
          replace hbj := Lib.hid hbj
          obtain ⟨W10, hW10⟩ : ∃ W10, W9.alloc (.cells #[.string x0, .int .i64 xn] 31) = W10 := ⟨_, rfl⟩
          have hb10 : Below W9.heap.size W9 W10 := by rw [← hW10]; exact (Below.refl _ _).alloc (Nat.le_refl _) _
          have d10 : W10.heap[W9.heap.size]? = some (.cells #[.string x0, .int .i64 xn] 31 (0, 0)) := by rw [← hW10]; exact heap_alloc_new W9 _
          have hkc : ∀ y, Below W10.heap.size W10 y → y.cell? ⟨W9.heap.size, 0, none⟩ = some (.string x0) ∧ y.cell? ⟨W9.heap.size, 1, none⟩ = some (.int .i64 xn) := fun y hy => by
            have h1 := (hy.block _ (heapH_lt d10)).trans d10
            exact ⟨by rw [cell_of_row _ _ 0 _ _ _ h1]; rfl, by rw [cell_of_row _ _ 1 _ _ _ h1]; rfl⟩
          obtain ⟨kc0, kc1⟩ := hkc W10 (Below.refl _ _)
          have hL10 := hL9.below hb10
          replace hkc := Lib.hid hkc
          replace hb10 := Lib.hid hb10
          have tokD : True := trivial
          have tokE : True := trivial
          clear hx hy8 d10 hL9 hokx
          go_wp2_with (first | (go_at_call 44; refine (hOx.out _ hL10).mono ?_; rintro e y11 ⟨rfl, hb11⟩; have hth11 := hth y11; obtain ⟨hq1, hq2⟩ := hq.out y11; clear kc0 kc1) | (clear tokD; refine wpList_store_mid rfl 36 (.tmp 8) (.tmp 94) rfl y11.heap.size 0 (encP P).toArray rfl rfl hth11 hi13 ho13 ?_; generalize hW12 : World.setCells _ _ _ _ = W12; rw [show (y11.alloc (.cells zeroQ 36)).setCells y11.heap.size 0 (encP P) = W12 from hW12] at hq1 hq2; clear hW12 hth11; have hb12 := hb11.trans (hq1.mono hb11.size); have hL12 := (hL10.below hb11).below hq1; obtain ⟨kc0, kc1⟩ := hkc.out W12 hb12) | (go_at_call 14; refine (hROx.out _ hL12).mono ?_; rintro e y13 ⟨rfl, hb13⟩; have hth13 := hth y13; obtain ⟨hq3, hq4⟩ := hq.out y13; clear kc0 kc1) | (clear tokE; refine wpList_store_mid rfl 36 (.tmp 10) (.tmp 101) rfl y13.heap.size 0 (encP P).toArray rfl rfl hth13 hi13 ho13 ?_; generalize hW14 : World.setCells _ _ _ _ = W14; rw [show (y13.alloc (.cells zeroQ 36)).setCells y13.heap.size 0 (encP P) = W14 from hW14] at hq3 hq4; clear hW14 hth13; have hb14 := hb13.trans (hq3.mono hb13.size); obtain ⟨a0, a1, a2, a3, a4, a5, a6, a7, a8, a9, a10, a11, a12⟩ := cells13 ((hb14.block _ (heapH_lt hq2)).trans hq2); obtain ⟨s0, s1, s2, s3, s4, s5, s6, s7, s8, s9, s10, s11, s12⟩ := cells13 hq4) | (go_at_call 15; refine (hSP.out _).mono ?_; rintro e y15 ⟨rfl, hb15⟩))
          have hfinj := hbj.out.trans ((hb10.out.trans ((hb12.trans ((hb14.trans (hb15.mono hb14.size)).mono hb12.size)).mono hb10.out.size)).mono hbj.out.size)
          exact ⟨⟨j + 1, by omega, by go_num, hfinj⟩, by simp [intOf]; omega⟩
        · obtain rfl : j = Z8.length := by omega
          clear hj hgj
          go_wp2_with fail
          have hzz := hz'.out
          exact ⟨⟨m + 1, by omega, by congr 1; omega, hB8.out.trans (hbj.mono hB8.out.size)⟩, by simp [intOf]; omega⟩
    · obtain rfl : m = H.length + 3 := by omega
      have hle : ¬ (((H.length + 3 : Nat) : Int) - 1 ≤ (H.length : Int) + 1) := by omega
      clear hm hge
      go_wp2
      go_ret
      exact ⟨rfl, hbel⟩
end Go.Proofs.YtoccmiinkfhohaaGreat

/-
  The reference's Order: what stands in its three rows, list by list and in memory.
-/
import Derived.Test.YtkbjakadngnokaaK2
import Derived.Deep.RegionLawGrows
import Derived.Laws.AppendOwnNone
namespace Go.Proofs.Ytkbjakadngnokaa
open Go.RowKit Go.Shelf Go.Lib Go.Sort Go.Proofs
set_option maxHeartbeats 400000
set_option maxRecDepth 8000

/-- a key that is an index -/
def Ixd (x : KK) : Prop := ¬ 0 < x.2 ∧ idxOf (U x.1) = some (rk x)
theorem rk_sym {x : KK} (h : 0 < x.2) : rk x = 8589934592 := by simp [rk, rankK, h]
theorem rk_txt {x : KK} (h : ¬ 0 < x.2) (h2 : idxOf (U x.1) = none) : rk x = 4294967296 := by simp [rk, rankK, h, h2]
theorem rk_idx {x : KK} {m : Nat} (h : ¬ 0 < x.2) (h2 : idxOf (U x.1) = some m) : rk x = m ∧ Ixd x ∧ m ≤ 4294967294 := by
  have e : rk x = m := by simp [rk, rankK, h, h2]
  exact ⟨e, ⟨h, by rw [e]; exact h2⟩, idxOf_le _ _ h2⟩
theorem Ixd.le {x : KK} (h : Ixd x) : rk x ≤ 4294967294 := idxOf_le _ _ h.2
def RefI (l : List KK) (k : Nat) (F T S : List KK) : Prop :=
  Srt F ∧ (∀ x ∈ F, Ixd x) ∧ (∀ x ∈ T, rk x = 4294967296) ∧ (∀ x ∈ S, rk x = 8589934592) ∧ Eqv (F ++ (T ++ S)) (l.take k)
theorem ref_start (l : List KK) : RefI l 0 [] [] [] := ⟨List.Pairwise.nil, by simp, by simp, by simp, Eqv.refl _⟩
theorem RefI.len {l : List KK} {k : Nat} {F T S : List KK} (h : RefI l k F T S) (hk : k ≤ l.length) : F.length + T.length + S.length = k := by
  have := h.2.2.2.2.len
  simp at this; omega
theorem RefI.mem {l : List KK} {k : Nat} {F T S : List KK} (h : RefI l k F T S) {x : KK} (hx : x ∈ F) : x ∈ l := List.mem_of_mem_take (h.2.2.2.2.mem (List.mem_append_left _ hx))
theorem ref_sym {l : List KK} {k : Nat} {F T S : List KK} {x : KK} (h : RefI l k F T S) (hx : l[k]? = some x) (hs : 0 < x.2) : RefI l (k + 1) F T (S ++ [x]) := by
  obtain ⟨h1, h2, h3, h4, h5⟩ := h
  refine ⟨h1, h2, h3, ?_, ?_⟩
  · intro y hy
    rcases List.mem_append.1 hy with hy | hy
    · exact h4 y hy
    · simp at hy; subst hy; exact rk_sym hs
  · rw [List.take_add_one, hx]
    simpa using h5.app (Eqv.refl [x])
theorem ref_txt {l : List KK} {k : Nat} {F T S : List KK} {x : KK} (h : RefI l k F T S) (hx : l[k]? = some x) (hs : ¬ 0 < x.2) (hi : idxOf (U x.1) = none) : RefI l (k + 1) F (T ++ [x]) S := by
  obtain ⟨h1, h2, h3, h4, h5⟩ := h
  have hr := rk_txt hs hi
  refine ⟨h1, h2, ?_, h4, ?_⟩
  · intro y hy
    rcases List.mem_append.1 hy with hy | hy
    · exact h3 y hy
    · simp at hy; subst hy; exact hr
  · rw [List.take_add_one, hx]
    refine Eqv.trans ?_ (h5.app (Eqv.refl [x]))
    have : Eqv ([x] ++ S) (S ++ [x]) := Eqv.swap (fun a ha b hb => by simp at ha; subst ha; rw [hr, h4 b hb]; decide)
    have := (Eqv.refl (F ++ T)).app this
    simpa using this
theorem ref_idx {l : List KK} {k m : Nat} {F1 F2 T S : List KK} {x : KK} (h : RefI l k (F1 ++ F2) T S) (hx : l[k]? = some x) (hs : ¬ 0 < x.2) (hi : idxOf (U x.1) = some m) (h1le : ∀ y ∈ F1, rk y ≤ rk x) (h2lt : ∀ y ∈ F2, rk x < rk y) : RefI l (k + 1) (F1 ++ (x :: F2)) T S := by
  obtain ⟨h1, h2, h3, h4, h5⟩ := h
  obtain ⟨hr, hix, hm⟩ := rk_idx hs hi
  obtain ⟨p1, p2, p3⟩ := h1.parts
  refine ⟨?_, ?_, h3, h4, ?_⟩
  · refine p1.app (List.pairwise_cons.2 ⟨fun y hy => Nat.le_of_lt (h2lt y hy), p2⟩) ?_
    intro a ha b hb
    rcases List.mem_cons.1 hb with rfl | hb
    · exact h1le a ha
    · exact p3 a ha b hb
  · intro y hy
    rcases List.mem_append.1 hy with hy | hy
    · exact h2 y (List.mem_append_left _ hy)
    · rcases List.mem_cons.1 hy with rfl | hy
      · exact hix
      · exact h2 y (List.mem_append_right _ hy)
  · rw [List.take_add_one, hx]
    refine Eqv.trans ?_ (h5.app (Eqv.refl [x]))
    have : Eqv ([x] ++ (F2 ++ (T ++ S))) ((F2 ++ (T ++ S)) ++ [x]) := Eqv.swap (fun a ha b hb => by
      simp at ha; subst ha
      rcases List.mem_append.1 hb with hb | hb
      · have := h2lt b hb; omega
      · rcases List.mem_append.1 hb with hb | hb
        · rw [h3 b hb]; omega
        · rw [h4 b hb]; omega)
    have := (Eqv.refl F1).app this
    simpa using this
theorem ref_end {l : List KK} {F T S : List KK} (h : RefI l l.length F T S) : Srt (F ++ T ++ S) ∧ Eqv (F ++ T ++ S) l := by
  obtain ⟨h1, h2, h3, h4, h5⟩ := h
  rw [List.take_length] at h5
  constructor
  · have c : ∀ (L : List KK) (r : Nat), (∀ x ∈ L, rk x = r) → Srt L := by
      intro L r h
      exact List.Pairwise.imp_of_mem (R := fun _ _ => True) (fun ha hb _ => by rw [h _ ha, h _ hb]; exact Nat.le_refl _) (List.pairwise_of_forall (fun _ _ => trivial))
    refine (h1.app (c T _ h3) ?_).app (c S _ h4) ?_
    · intro a ha b hb; rw [h3 b hb]; have := (h2 a ha).le; omega
    · intro a ha b hb
      rw [h4 b hb]
      rcases List.mem_append.1 ha with ha | ha
      · have := (h2 a ha).le; omega
      · rw [h3 a ha]; decide
  · rw [List.append_assoc]; exact h5
/-- three rows of the call's own, each in a block of its own -/
def Own3 (w : World) (B : Nat) (vf vt vs : Value) (F T S : List KK) : Prop :=
  w.ownsRow B 29 2 vf F.length (flatK F) ∧ w.ownsRow B 29 2 vt T.length (flatK T) ∧ w.ownsRow B 29 2 vs S.length (flatK S) ∧
  (∀ k, vf.ownBlock = some k → vt.ownBlock ≠ some k ∧ vs.ownBlock ≠ some k) ∧ (∀ k, vt.ownBlock = some k → vs.ownBlock ≠ some k) ∧
  (T = [] → vt = .slice none 0 0) ∧ (S = [] → vs = .slice none 0 0) ∧ (F = [] → vf = .slice none 0 0)
theorem own_below' {w w' : World} {B e size n : Nat} {v : Value} {xs : List Value} (h : w.ownsRow B e size v n xs) (hb : Below w.heap.size w w') : w'.ownsRow B e size v n xs :=
  h.kept (row := none) ⟨hb.os, hb.tape, hb.output, hb.size, fun k hk _ => hb.block k hk⟩ (by cases h : v.ownBlock with | none => exact .inl rfl | some q => exact .inr (by simp))
theorem Own3.keep {w w' : World} {B : Nat} {vf vt vs : Value} {F T S : List KK} (h : Own3 w B vf vt vs F T S) (hb : Below w.heap.size w w') : Own3 w' B vf vt vs F T S :=
  ⟨own_below' h.1 hb, own_below' h.2.1 hb, own_below' h.2.2.1 hb, h.2.2.2⟩
theorem own3_start (w : World) : Own3 w w.heap.size (.slice none 0 0) (.slice none 0 0) (.slice none 0 0) [] [] [] :=
  ⟨⟨rfl, .inl ⟨rfl, rfl⟩⟩, ⟨rfl, .inl ⟨rfl, rfl⟩⟩, ⟨rfl, .inl ⟨rfl, rfl⟩⟩, (fun k h => by cases h), (fun k h => by cases h), (fun _ => rfl), (fun _ => rfl), (fun _ => rfl)⟩
theorem disj_kept {v v' : Value} {k : Nat} (h : ∀ k, v.ownBlock = some k → v'.ownBlock ≠ some k) (h2 : v'.ownBlock = some k) : v.ownBlock = none ∨ v.ownBlock ≠ some k := by
  cases hv : v.ownBlock with
  | none => exact .inl rfl
  | some q => right; intro e; injection e with e; subst e; exact h q hv h2
theorem row_kept {w w' : World} {B n gg : Nat} {v v' : Value} {xs : List Value} (h : w.ownsRow B 29 2 v n xs) (hg : w.grownBy w' v'.ownBlock) (hd : ∀ k, v'.ownBlock = some k → v.ownBlock ≠ some k) (hat : v'.ownBlock = some gg ∨ gg = w.heap.size) :
    w'.ownsRow B 29 2 v n xs ∧ v.ownBlock ≠ some gg := by
  refine ⟨h.kept hg ?_, ?_⟩
  · cases hv : v.ownBlock with
    | none => exact .inl rfl
    | some q => right; intro e; exact hd q e.symm hv
  · rcases hat with h1 | h1
    · exact hd gg h1
    · intro e; have := (h.lt gg e).2; omega
/-- behind an append to the symbols -/
theorem own3_sym {w w' : World} {B gg cap n : Nat} {vf vt vs : Value} {F T S : List KK} {x : KK} (h : Own3 w B vf vt vs F T S) (hn : n = S.length + 1) (ho : w'.ownsRow B 29 2 (.slice (some ⟨gg, 0, none⟩) n cap) n (flatK S ++ encK x)) (hg : w.grownBy w' vs.ownBlock) (hat : vs.ownBlock = some gg ∨ gg = w.heap.size) :
    Own3 w' B vf vt (.slice (some ⟨gg, 0, none⟩) n cap) F T (S ++ [x]) := by
  obtain ⟨h1, h2, h3, h4, h5, h6, h7, h8⟩ := h
  obtain ⟨a1, a2⟩ := row_kept h1 hg (fun k hk e => (h4 k e).2 hk) hat
  obtain ⟨b1, b2⟩ := row_kept h2 hg (fun k hk e => h5 k e hk) hat
  refine ⟨a1, b1, ?_, ?_, ?_, h6, (fun h => by simp at h), h8⟩
  · have e1 : (S ++ [x]).length = n := by simp [hn]
    have e2 : flatK (S ++ [x]) = flatK S ++ encK x := by rw [flatK_app]; simp [flatK]
    rw [e1, e2]; exact ho
  · intro k hk
    refine ⟨(h4 k hk).1, ?_⟩
    intro e; simp [Value.ownBlock] at e; subst e; exact a2 hk
  · intro k hk e
    simp [Value.ownBlock] at e; subst e; exact b2 hk
theorem own3_txt {w w' : World} {B gg cap n : Nat} {vf vt vs : Value} {F T S : List KK} {x : KK} (h : Own3 w B vf vt vs F T S) (hn : n = T.length + 1) (ho : w'.ownsRow B 29 2 (.slice (some ⟨gg, 0, none⟩) n cap) n (flatK T ++ encK x)) (hg : w.grownBy w' vt.ownBlock) (hat : vt.ownBlock = some gg ∨ gg = w.heap.size) :
    Own3 w' B vf (.slice (some ⟨gg, 0, none⟩) n cap) vs F (T ++ [x]) S := by
  obtain ⟨h1, h2, h3, h4, h5, h6, h7, h8⟩ := h
  obtain ⟨a1, a2⟩ := row_kept h1 hg (fun k hk e => (h4 k e).1 hk) hat
  obtain ⟨b1, b2⟩ := row_kept h3 hg (fun k hk e => h5 k hk e) hat
  refine ⟨a1, ?_, b1, ?_, ?_, (fun h => by simp at h), h7, h8⟩
  · have e1 : (T ++ [x]).length = n := by simp [hn]
    have e2 : flatK (T ++ [x]) = flatK T ++ encK x := by rw [flatK_app]; simp [flatK]
    rw [e1, e2]; exact ho
  · intro k hk
    refine ⟨?_, (h4 k hk).2⟩
    intro e; simp [Value.ownBlock] at e; subst e; exact a2 hk
  · intro k hk e
    simp [Value.ownBlock] at hk; subst hk; exact b2 e
theorem own3_fst {w w' : World} {B : Nat} {vf vt vs vf' : Value} {F F' T S : List KK} (h : Own3 w B vf vt vs F T S) (hB : B ≤ w.heap.size) (ho : w'.ownsRow w.heap.size 29 2 vf' F'.length (flatK F')) (hne : F' ≠ []) (hg : w.grownBy w' none) :
    Own3 w' B vf' vt vs F' T S := by
  obtain ⟨h1, h2, h3, h4, h5, h6, h7, _⟩ := h
  have k : ∀ {v : Value} {n : Nat} {xs : List Value}, w.ownsRow B 29 2 v n xs → w'.ownsRow B 29 2 v n xs := fun h => h.kept hg (by rename_i v _ _; cases hv : v.ownBlock with | none => exact .inl rfl | some q => exact .inr (by simp))
  refine ⟨⟨ho.1, ?_⟩, k h2, k h3, ?_, h5, h6, h7, (fun h => absurd h hne)⟩
  · rcases ho.2 with h | ⟨g, c, cur, e, hb, r⟩
    · exact .inl h
    · exact .inr ⟨g, c, cur, e, Nat.le_trans hB hb, r⟩
  · intro q hq
    have hq1 := (ho.lt q hq).1
    exact ⟨fun e => by have := (h2.lt q e).2; omega, fun e => by have := (h3.lt q e).2; omega⟩
theorem own_rdk {w : World} {B n : Nat} {v : Value} {Z : List KK} (h : w.ownsRow B 29 2 v n (flatK Z)) : RdK w v Z := by
  rcases h.2 with ⟨rfl, hn⟩ | ⟨g, cap, cur, rfl, _⟩
  · have := h.1
    rw [flatK_len] at this
    exact .inl ⟨rfl, List.length_eq_zero_iff.1 (by omega)⟩
  · obtain ⟨r1, r2, r3, r4⟩ := rowL_own h
    subst r3
    exact rdk_rowL r1 r4
end Go.Proofs.Ytkbjakadngnokaa

/-
  Contracts: The reference's Order: what stands in its three rows, list by list and in memory. The contract of the reference's Order. A key as it is compared; lists in order, of keys that compare alike; what a map tells; keys and ways as a map's keys. Blocks and whose they are: what a call turns; rows and maps of an owner. The contracts of Cut (of a whole text) and of the two plains. Rows of things of a fixed size; where a key stands; the state of a tree of shapes. The contracts of is and Find of a tree of shapes.
-/
import Derived.Test.YtkbohoolnpaleaaGreatDoorW6
import Derived.Deep.RegionLawGrows
import Derived.Laws.AppendOwnNone
import Derived.Test.YtkbohoolnpaleaaGreatDoorW7
import Derived.Maps.OwnSet
import Derived.Maps.OwnOps
import Derived.Maps.Views
import Derived.DeepKeys4
import Derived.ArgAppend
import Derived.BigQuiet
import Derived.Deep.QuietTactic
namespace Go.Proofs.YtkbohoolnpaleaaGreatDoor
open Go.RowKit Go.Shelf Go.Lib Go.Sort Go.Proofs
set_option maxHeartbeats 400000
set_option maxRecDepth 100000

/-- a key that is an index -/
def Ixd (x : KK) : Prop := ¬ 0 < x.2 ∧ idxOf (U x.1) = some (rk x)
theorem rk_sym {x : KK} (h : 0 < x.2) : rk x = 8589934592 := by simp [rk, rankK, h]
theorem rk_txt {x : KK} (h : ¬ 0 < x.2) (h2 : idxOf (U x.1) = none) : rk x = 4294967296 := by simp [rk, rankK, h, h2]
theorem rk_idx {x : KK} {m : Nat} (h : ¬ 0 < x.2) (h2 : idxOf (U x.1) = some m) : rk x = m ∧ Ixd x ∧ m ≤ 4294967294 := by
  have e : rk x = m := by simp [rk, rankK, h, h2]
  exact ⟨e, ⟨h, by rw [e]; exact h2⟩, idxOf_le _ _ h2⟩
theorem Ixd.le {x : KK} (h : Ixd x) : rk x ≤ 4294967294 := idxOf_le _ _ h.2
def RefI (l : List KK) (k : Nat) (F T S : List KK) : Prop :=
  Srt F ∧ (∀ x ∈ F, Ixd x) ∧ (∀ x ∈ T, rk x = 4294967296) ∧ (∀ x ∈ S, rk x = 8589934592) ∧ Eqv (F ++ (T ++ S)) (l.take k)
theorem ref_start (l : List KK) : RefI l 0 [] [] [] := ⟨List.Pairwise.nil, by simp, by simp, by simp, Eqv.refl _⟩
theorem RefI.len {l : List KK} {k : Nat} {F T S : List KK} (h : RefI l k F T S) (hk : k ≤ l.length) : F.length + T.length + S.length = k := by
  have := h.2.2.2.2.len
  simp at this; omega
theorem RefI.mem {l : List KK} {k : Nat} {F T S : List KK} (h : RefI l k F T S) {x : KK} (hx : x ∈ F) : x ∈ l := List.mem_of_mem_take (h.2.2.2.2.mem (List.mem_append_left _ hx))
theorem ref_sym {l : List KK} {k : Nat} {F T S : List KK} {x : KK} (h : RefI l k F T S) (hx : l[k]? = some x) (hs : 0 < x.2) : RefI l (k + 1) F T (S ++ [x]) := by
  obtain ⟨h1, h2, h3, h4, h5⟩ := h
  refine ⟨h1, h2, h3, ?_, ?_⟩
  · intro y hy
    rcases List.mem_append.1 hy with hy | hy
    · exact h4 y hy
    · simp at hy; subst hy; exact rk_sym hs
  · rw [List.take_add_one, hx]
    simpa using h5.app (Eqv.refl [x])
theorem ref_txt {l : List KK} {k : Nat} {F T S : List KK} {x : KK} (h : RefI l k F T S) (hx : l[k]? = some x) (hs : ¬ 0 < x.2) (hi : idxOf (U x.1) = none) : RefI l (k + 1) F (T ++ [x]) S := by
  obtain ⟨h1, h2, h3, h4, h5⟩ := h
  have hr := rk_txt hs hi
  refine ⟨h1, h2, ?_, h4, ?_⟩
  · intro y hy
    rcases List.mem_append.1 hy with hy | hy
    · exact h3 y hy
    · simp at hy; subst hy; exact hr
  · rw [List.take_add_one, hx]
    refine Eqv.trans ?_ (h5.app (Eqv.refl [x]))
    have : Eqv ([x] ++ S) (S ++ [x]) := Eqv.swap (fun a ha b hb => by simp at ha; subst ha; rw [hr, h4 b hb]; decide)
    have := (Eqv.refl (F ++ T)).app this
    simpa using this
theorem ref_idx {l : List KK} {k m : Nat} {F1 F2 T S : List KK} {x : KK} (h : RefI l k (F1 ++ F2) T S) (hx : l[k]? = some x) (hs : ¬ 0 < x.2) (hi : idxOf (U x.1) = some m) (h1le : ∀ y ∈ F1, rk y ≤ rk x) (h2lt : ∀ y ∈ F2, rk x < rk y) : RefI l (k + 1) (F1 ++ (x :: F2)) T S := by
  obtain ⟨h1, h2, h3, h4, h5⟩ := h
  obtain ⟨hr, hix, hm⟩ := rk_idx hs hi
  obtain ⟨p1, p2, p3⟩ := h1.parts
  refine ⟨?_, ?_, h3, h4, ?_⟩
  · refine p1.app (List.pairwise_cons.2 ⟨fun y hy => Nat.le_of_lt (h2lt y hy), p2⟩) ?_
    intro a ha b hb
    rcases List.mem_cons.1 hb with rfl | hb
    · exact h1le a ha
    · exact p3 a ha b hb
  · intro y hy
    rcases List.mem_append.1 hy with hy | hy
    · exact h2 y (List.mem_append_left _ hy)
    · rcases List.mem_cons.1 hy with rfl | hy
      · exact hix
      · exact h2 y (List.mem_append_right _ hy)
  · rw [List.take_add_one, hx]
    refine Eqv.trans ?_ (h5.app (Eqv.refl [x]))
    have : Eqv ([x] ++ (F2 ++ (T ++ S))) ((F2 ++ (T ++ S)) ++ [x]) := Eqv.swap (fun a ha b hb => by
      simp at ha; subst ha
      rcases List.mem_append.1 hb with hb | hb
      · have := h2lt b hb; omega
      · rcases List.mem_append.1 hb with hb | hb
        · rw [h3 b hb]; omega
        · rw [h4 b hb]; omega)
    have := (Eqv.refl F1).app this
    simpa using this
theorem ref_end {l : List KK} {F T S : List KK} (h : RefI l l.length F T S) : Srt (F ++ T ++ S) ∧ Eqv (F ++ T ++ S) l := by
  obtain ⟨h1, h2, h3, h4, h5⟩ := h
  rw [List.take_length] at h5
  constructor
  · have c : ∀ (L : List KK) (r : Nat), (∀ x ∈ L, rk x = r) → Srt L := by
      intro L r h
      exact List.Pairwise.imp_of_mem (R := fun _ _ => True) (fun ha hb _ => by rw [h _ ha, h _ hb]; exact Nat.le_refl _) (List.pairwise_of_forall (fun _ _ => trivial))
    refine (h1.app (c T _ h3) ?_).app (c S _ h4) ?_
    · intro a ha b hb; rw [h3 b hb]; have := (h2 a ha).le; omega
    · intro a ha b hb
      rw [h4 b hb]
      rcases List.mem_append.1 ha with ha | ha
      · have := (h2 a ha).le; omega
      · rw [h3 a ha]; decide
  · rw [List.append_assoc]; exact h5
/-- three rows of the call's own, each in a block of its own -/
def Own3 (w : World) (B : Nat) (vf vt vs : Value) (F T S : List KK) : Prop :=
  w.ownsRow B 43 2 vf F.length (flatK F) ∧ w.ownsRow B 43 2 vt T.length (flatK T) ∧ w.ownsRow B 43 2 vs S.length (flatK S) ∧
  (∀ k, vf.ownBlock = some k → vt.ownBlock ≠ some k ∧ vs.ownBlock ≠ some k) ∧ (∀ k, vt.ownBlock = some k → vs.ownBlock ≠ some k) ∧
  (T = [] → vt = .slice none 0 0) ∧ (S = [] → vs = .slice none 0 0) ∧ (F = [] → vf = .slice none 0 0)
theorem own_below' {w w' : World} {B e size n : Nat} {v : Value} {xs : List Value} (h : w.ownsRow B e size v n xs) (hb : Below w.heap.size w w') : w'.ownsRow B e size v n xs :=
  h.kept (row := none) ⟨hb.os, hb.tape, hb.output, hb.size, fun k hk _ => hb.block k hk⟩ (by cases h : v.ownBlock with | none => exact .inl rfl | some q => exact .inr (by simp))
theorem Own3.keep {w w' : World} {B : Nat} {vf vt vs : Value} {F T S : List KK} (h : Own3 w B vf vt vs F T S) (hb : Below w.heap.size w w') : Own3 w' B vf vt vs F T S :=
  ⟨own_below' h.1 hb, own_below' h.2.1 hb, own_below' h.2.2.1 hb, h.2.2.2⟩
theorem own3_start (w : World) : Own3 w w.heap.size (.slice none 0 0) (.slice none 0 0) (.slice none 0 0) [] [] [] :=
  ⟨⟨rfl, .inl ⟨rfl, rfl⟩⟩, ⟨rfl, .inl ⟨rfl, rfl⟩⟩, ⟨rfl, .inl ⟨rfl, rfl⟩⟩, (fun k h => by cases h), (fun k h => by cases h), (fun _ => rfl), (fun _ => rfl), (fun _ => rfl)⟩
theorem disj_kept {v v' : Value} {k : Nat} (h : ∀ k, v.ownBlock = some k → v'.ownBlock ≠ some k) (h2 : v'.ownBlock = some k) : v.ownBlock = none ∨ v.ownBlock ≠ some k := by
  cases hv : v.ownBlock with
  | none => exact .inl rfl
  | some q => right; intro e; injection e with e; subst e; exact h q hv h2
theorem row_kept {w w' : World} {B n gg : Nat} {v v' : Value} {xs : List Value} (h : w.ownsRow B 43 2 v n xs) (hg : w.grownBy w' v'.ownBlock) (hd : ∀ k, v'.ownBlock = some k → v.ownBlock ≠ some k) (hat : v'.ownBlock = some gg ∨ gg = w.heap.size) :
    w'.ownsRow B 43 2 v n xs ∧ v.ownBlock ≠ some gg := by
  refine ⟨h.kept hg ?_, ?_⟩
  · cases hv : v.ownBlock with
    | none => exact .inl rfl
    | some q => right; intro e; exact hd q e.symm hv
  · rcases hat with h1 | h1
    · exact hd gg h1
    · intro e; have := (h.lt gg e).2; omega
/-- behind an append to the symbols -/
theorem own3_sym {w w' : World} {B gg cap n : Nat} {vf vt vs : Value} {F T S : List KK} {x : KK} (h : Own3 w B vf vt vs F T S) (hn : n = S.length + 1) (ho : w'.ownsRow B 43 2 (.slice (some ⟨gg, 0, none⟩) n cap) n (flatK S ++ encK x)) (hg : w.grownBy w' vs.ownBlock) (hat : vs.ownBlock = some gg ∨ gg = w.heap.size) :
    Own3 w' B vf vt (.slice (some ⟨gg, 0, none⟩) n cap) F T (S ++ [x]) := by
  obtain ⟨h1, h2, h3, h4, h5, h6, h7, h8⟩ := h
  obtain ⟨a1, a2⟩ := row_kept h1 hg (fun k hk e => (h4 k e).2 hk) hat
  obtain ⟨b1, b2⟩ := row_kept h2 hg (fun k hk e => h5 k e hk) hat
  refine ⟨a1, b1, ?_, ?_, ?_, h6, (fun h => by simp at h), h8⟩
  · have e1 : (S ++ [x]).length = n := by simp [hn]
    have e2 : flatK (S ++ [x]) = flatK S ++ encK x := by rw [flatK_app]; simp [flatK]
    rw [e1, e2]; exact ho
  · intro k hk
    refine ⟨(h4 k hk).1, ?_⟩
    intro e; simp [Value.ownBlock] at e; subst e; exact a2 hk
  · intro k hk e
    simp [Value.ownBlock] at e; subst e; exact b2 hk
theorem own3_txt {w w' : World} {B gg cap n : Nat} {vf vt vs : Value} {F T S : List KK} {x : KK} (h : Own3 w B vf vt vs F T S) (hn : n = T.length + 1) (ho : w'.ownsRow B 43 2 (.slice (some ⟨gg, 0, none⟩) n cap) n (flatK T ++ encK x)) (hg : w.grownBy w' vt.ownBlock) (hat : vt.ownBlock = some gg ∨ gg = w.heap.size) :
    Own3 w' B vf (.slice (some ⟨gg, 0, none⟩) n cap) vs F (T ++ [x]) S := by
  obtain ⟨h1, h2, h3, h4, h5, h6, h7, h8⟩ := h
  obtain ⟨a1, a2⟩ := row_kept h1 hg (fun k hk e => (h4 k e).1 hk) hat
  obtain ⟨b1, b2⟩ := row_kept h3 hg (fun k hk e => h5 k hk e) hat
  refine ⟨a1, ?_, b1, ?_, ?_, (fun h => by simp at h), h7, h8⟩
  · have e1 : (T ++ [x]).length = n := by simp [hn]
    have e2 : flatK (T ++ [x]) = flatK T ++ encK x := by rw [flatK_app]; simp [flatK]
    rw [e1, e2]; exact ho
  · intro k hk
    refine ⟨?_, (h4 k hk).2⟩
    intro e; simp [Value.ownBlock] at e; subst e; exact a2 hk
  · intro k hk e
    simp [Value.ownBlock] at hk; subst hk; exact b2 e
theorem own3_fst {w w' : World} {B : Nat} {vf vt vs vf' : Value} {F F' T S : List KK} (h : Own3 w B vf vt vs F T S) (hB : B ≤ w.heap.size) (ho : w'.ownsRow w.heap.size 43 2 vf' F'.length (flatK F')) (hne : F' ≠ []) (hg : w.grownBy w' none) :
    Own3 w' B vf' vt vs F' T S := by
  obtain ⟨h1, h2, h3, h4, h5, h6, h7, _⟩ := h
  have k : ∀ {v : Value} {n : Nat} {xs : List Value}, w.ownsRow B 43 2 v n xs → w'.ownsRow B 43 2 v n xs := fun h => h.kept hg (by rename_i v _ _; cases hv : v.ownBlock with | none => exact .inl rfl | some q => exact .inr (by simp))
  refine ⟨⟨ho.1, ?_⟩, k h2, k h3, ?_, h5, h6, h7, (fun h => absurd h hne)⟩
  · rcases ho.2 with h | ⟨g, c, cur, e, hb, r⟩
    · exact .inl h
    · exact .inr ⟨g, c, cur, e, Nat.le_trans hB hb, r⟩
  · intro q hq
    have hq1 := (ho.lt q hq).1
    exact ⟨fun e => by have := (h2.lt q e).2; omega, fun e => by have := (h3.lt q e).2; omega⟩
theorem own_rdk {w : World} {B n : Nat} {v : Value} {Z : List KK} (h : w.ownsRow B 43 2 v n (flatK Z)) : RdK w v Z := by
  rcases h.2 with ⟨rfl, hn⟩ | ⟨g, cap, cur, rfl, _⟩
  · have := h.1
    rw [flatK_len] at this
    exact .inl ⟨rfl, List.length_eq_zero_iff.1 (by omega)⟩
  · obtain ⟨r1, r2, r3, r4⟩ := rowL_own h
    subst r3
    exact rdk_rowL r1 r4
end Go.Proofs.YtkbohoolnpaleaaGreatDoor
namespace Go.Proofs.YtkbohoolnpaleaaGreatDoor
open Go.RowKit Go.Shelf Go.Lib Go.Sort Go.Proofs
set_option maxHeartbeats 1000000
set_option maxRecDepth 100000

end Go.Proofs.YtkbohoolnpaleaaGreatDoor
namespace Go.Proofs.YtkbohoolnpaleaaGreatDoor
open Go.RowKit Go.Shelf Go.Lib Go.Sort Go.Proofs Go.Maps
set_option maxHeartbeats 1000000
set_option maxRecDepth 8000

theorem baH_eq {a b : ByteArray} (h : a.toList = b.toList) : a = b := by
  rw [ByteArray.toList_eq, ByteArray.toList_eq] at h
  cases a with | mk a => cases b with | mk b =>
  congr 1
  exact Array.toList_inj.1 h
theorem U_evenH (s : ByteArray) : U (evenB s) = U s := by
  unfold U
  rw [evenB_size]
  have : s.size / 2 * 2 / 2 = s.size / 2 := by omega
  rw [this]
  exact unitsN_even s _ (Nat.le_refl _)
theorem cmpU_evenH (x s : ByteArray) : cmpU (U x) (U s) = 0 ↔ evenB x = evenB s := by
  constructor
  · intro h
    have h1 := cmpU_eq h
    have h2 := even_flat x
    have h3 := even_flat s
    rw [h1, ← h3] at h2
    exact baH_eq h2
  · intro h
    rw [← U_evenH x, h, U_evenH]
    exact cmpU_self _
theorem evenB_evenH (s : ByteArray) : evenB (evenB s) = evenB s := by
  have h2 := even_flat (evenB s)
  rw [U_evenH, ← even_flat s] at h2
  exact baH_eq h2
/-- a key as it is compared -/
def pk (x : KK) : KK := if 0 < x.2 then (⟨#[]⟩, x.2) else (evenB x.1, 0)
theorem pk_pk (x : KK) : pk (pk x) = pk x := by
  unfold pk
  split
  · simp_all
  · simp [evenB_evenH]
theorem sameK_pk (x y : KK) : sameK x.1 y.1 x.2 y.2 = decide (pk x = pk y) := by
  unfold sameK pk
  have hc := cmpU_evenH x.1 y.1
  by_cases h1 : 0 < x.2 <;> by_cases h2 : 0 < y.2
  · simp [h1, h2]
  · have e1 : x.2 ≠ y.2 := by omega
    have e2 : x.2 ≠ 0 := by omega
    simp [h1, h2, e1, e2]
  · have e1 : x.2 ≠ y.2 := by omega
    have e2 : y.2 ≠ 0 := by omega
    have e3 : ¬ (0 = y.2) := fun h => e2 h.symm
    simp [h1, h2, e1, e3]
  · simp [h1, h2, hc]
theorem rk_pk (x : KK) : rk (pk x) = rk x := by
  unfold rk pk rankK
  by_cases h1 : 0 < x.2
  · simp [h1]
  · simp [h1, U_evenH]
theorem cls_pk (r : Nat) (l : List KK) : cls r (l.map pk) = (cls r l).map pk := by
  unfold cls
  rw [List.filter_map]
  congr 1
  apply List.filter_congr
  intro x _
  simp [rk_pk]
theorem ord_eq {Z Z' l l' : List KK} (h1 : Srt Z) (h2 : Eqv Z l) (h3 : Srt Z') (h4 : Eqv Z' l') (h : l.map pk = l'.map pk) : Z.map pk = Z'.map pk := by
  have s1 : ∀ {Z : List KK}, Srt Z → Srt (Z.map pk) := fun {Z} h => by
    unfold Srt at *
    rw [List.pairwise_map]
    exact h.imp (fun h => by rw [rk_pk, rk_pk]; exact h)
  refine srt_eqv_eq (s1 h1) (s1 h3) fun r => ?_
  rw [cls_pk, cls_pk, h2 r, h4 r, ← cls_pk, ← cls_pk, h]
/-- what a map tells -/
def TellsL (D : DataW Unit) (f : Lit → Option Int) : Prop :=
  ∀ l, Maps.has D l = (f l).isSome ∧ ∀ i, f l = some i → D.atKey l (.lit (.int .i64 0)) = .lit (.int .i64 i)
theorem tellsL_nil : TellsL (.map []) (fun _ => none) := fun l => ⟨by simp [Maps.has], fun i h => by cases h⟩
theorem tellsL_put {D : DataW Unit} {f : Lit → Option Int} (hm : IsMap D) (h : TellsL D f) (k : Lit) (hk : WideAt.IsKeyLit k) (v : Int) : ∃ g, TellsL (D.put k (.lit (.int .i64 v))) g ∧ g k = some v ∧ ∀ l, l ≠ k → g l = f l := by
  classical
  refine ⟨fun l => if l = k then some v else f l, fun l => ?_, by simp, fun l hl => by simp [hl]⟩
  by_cases e : l = k
  · subst e
    rw [has_put_same hm hk, atKey_put_same hm hk]
    simp
  · rw [has_put_other e, atKey_put_other e]
    simpa [e] using h l
theorem tellsL_del {D : DataW Unit} {f : Lit → Option Int} (h : TellsL D f) (k : Lit) : ∃ g, TellsL (D.del k) g ∧ g k = none ∧ ∀ l, l ≠ k → g l = f l := by
  classical
  refine ⟨fun l => if l = k then none else f l, fun l => ?_, by simp, fun l hl => by simp [hl]⟩
  by_cases e : l = k
  · subst e
    rw [has_del_same]
    simp
  · rw [has_del_other e, atKey_del_other e]
    simpa [e] using h l
theorem tellsL_at {D : DataW Unit} {f : Lit → Option Int} (h : TellsL D f) {k : Lit} {c : Int} (hc : D.atKey k (.lit (.int .i64 0)) = .lit (.int .i64 c)) : (∃ i, f k = some i ∧ c = i ∧ Maps.has D k = true) ∨ (f k = none ∧ Maps.has D k = false) := by
  obtain ⟨h1, h2⟩ := h k
  cases e : f k with
  | none => rw [e] at h1; exact .inr ⟨rfl, h1⟩
  | some i =>
    rw [e] at h1
    have := h2 i e
    rw [hc] at this
    injection this with this
    injection this with _ this
    exact .inl ⟨i, rfl, this, h1⟩
theorem laidOut : laidOutB Tryz.prog = true := by kernel_rfl
theorem rowKey : (43 : TypeId) < Tryz.prog.types.size := of_decide_eq_true (by kernel_rfl)
theorem wideKey : (match Tryz.prog.underlying 43 with | some (.array _ _) | some (.struct _) => true | _ => false) = true := by kernel_rfl
theorem lawKey : Keyed Tryz.prog 43 := Keyed.of_law (deep_law_laid laidOut (m := 2) (by omega) rowKey (by kernel_rfl) wideKey)
theorem rowWay : (277 : TypeId) < Tryz.prog.types.size := of_decide_eq_true (by kernel_rfl)
theorem wideWay : (match Tryz.prog.underlying 277 with | some (.array _ _) | some (.struct _) => true | _ => false) = true := by kernel_rfl
theorem lawWay : Keyed Tryz.prog 277 := Keyed.of_law (deep_law_laid laidOut (m := 3) (by omega) rowWay (by kernel_rfl) wideWay)
theorem zeroIntH (w : World) : (zeroValue 3).run Tryz.prog w = .ok (.int .i64 0) w := by kernel_rfl
/-- a key that may stand in a map -/
def okK (x : KK) : Prop := x.1.size ≤ 1099511627776 ∧ (Lit.int .i64 x.2).wf = true
def klK (x : KK) : Lit := .string (keyBytes [.string x.1.data.toList, .int .i64 x.2])
theorem sizeTypes : ∃ m, Tryz.prog.types.size = m + 2 := ⟨Tryz.prog.types.size - 2, by have : 2 ≤ Tryz.prog.types.size := of_decide_eq_true (by kernel_rfl); omega⟩
theorem ktKey : Tryz.prog.keyType 43 = true := by kernel_rfl
theorem ktWay : Tryz.prog.keyType 277 = true := by kernel_rfl
theorem cellsKey : Tryz.prog.cellsOf 43 = 2 := by kernel_rfl
theorem cellsWay : Tryz.prog.cellsOf 277 = 5 := by kernel_rfl
theorem cellsStr : Tryz.prog.cellsOf 24 = 1 := by kernel_rfl
theorem cellsInt : Tryz.prog.cellsOf 3 = 1 := by kernel_rfl
theorem cellsBool : Tryz.prog.cellsOf 4 = 1 := by kernel_rfl
theorem keyOf_K (x : KK) (h : okK x) : keyOf Tryz.prog 43 (keyV x.1 x.2) = some (klK x) := by
  obtain ⟨m, hm⟩ := sizeTypes
  have h1 : x.1.size ≤ maxLen := by have := h.1; unfold maxLen; omega
  have h2 := h.2
  have hf : (keyV x.1 x.2).formed Tryz.prog 43 = true := by simp [keyV, Value.formed, Tryz.underlying43, cellsKey]
  unfold keyOf
  simp only [Tryz.underlying43]
  rw [if_pos (by simp [ktKey, hf]), hm]
  unfold Program.keyLits
  simp only [Tryz.underlying43, Value.cells, keyV]
  rw [if_pos (by rw [cellsKey]; exact ⟨rfl, by kernel_rfl⟩)]
  simp [cellsStr, cellsInt, Program.keyLits, Tryz.underlying24, Tryz.underlying3, h1, h2, klK]
def klW (fr : Int) (ch : Bool) (x : KK) (fl : Int) : Lit := .string (keyBytes [.int .i64 fr, .bool ch, .string x.1.data.toList, .int .i64 x.2, .int .i64 fl])
def wayV (fr : Int) (ch : Bool) (x : KK) (fl : Int) : Value := .agg #[.int .i64 fr, .bool ch, .string x.1, .int .i64 x.2, .int .i64 fl]
theorem keyOf_W (fr : Int) (ch : Bool) (x : KK) (fl : Int) (h : okK x) (hf : (Lit.int .i64 fr).wf = true) (hg : (Lit.int .i64 fl).wf = true) : keyOf Tryz.prog 277 (wayV fr ch x fl) = some (klW fr ch x fl) := by
  obtain ⟨m, hm⟩ := sizeTypes
  have h1 : x.1.size ≤ maxLen := by have := h.1; unfold maxLen; omega
  have h2 := h.2
  have hfo : (wayV fr ch x fl).formed Tryz.prog 277 = true := by simp [wayV, Value.formed, Tryz.underlying277, cellsWay]
  unfold keyOf
  simp only [Tryz.underlying277]
  rw [if_pos (by simp [ktWay, hfo]), hm]
  unfold Program.keyLits
  simp only [Tryz.underlying277, Value.cells, wayV]
  rw [if_pos (by rw [cellsWay]; exact ⟨rfl, by kernel_rfl⟩)]
  have hk : Tryz.prog.keyLits (m + 2) 43 [.string x.1, .int .i64 x.2] = some [.string x.1.data.toList, .int .i64 x.2] := by
    unfold Program.keyLits
    simp only [Tryz.underlying43]
    rw [if_pos (by rw [cellsKey]; exact ⟨rfl, by kernel_rfl⟩)]
    simp [cellsStr, cellsInt, Program.keyLits, Tryz.underlying24, Tryz.underlying3, h1, h2]
  simp [cellsInt, cellsKey, cellsBool, hk]
  simp [Program.keyLits, Tryz.underlying3, Tryz.underlying4, hf, hg, klW]
theorem klK_inj {x y : KK} (hx : okK x) (hy : okK y) (h : klK x = klK y) : x = y := by
  have h1 := keyOf_K x hx
  rw [h] at h1
  have := lawKey.inj h1 (keyOf_K y hy)
  unfold keyV at this
  injection this with this
  simp at this
  exact Prod.ext this.1 this.2
theorem klW_inj {a a' : Int} {c c' : Bool} {x y : KK} {g g' : Int} (hx : okK x) (hy : okK y) (ha : (Lit.int .i64 a).wf = true) (ha' : (Lit.int .i64 a').wf = true) (hg : (Lit.int .i64 g).wf = true) (hg' : (Lit.int .i64 g').wf = true) (h : klW a c x g = klW a' c' y g') : a = a' ∧ c = c' ∧ x = y ∧ g = g' := by
  have h1 := keyOf_W a c x g hx ha hg
  rw [h] at h1
  have := lawWay.inj h1 (keyOf_W a' c' y g' hy ha' hg')
  unfold wayV at this
  injection this with this
  simp at this
  exact ⟨this.1, this.2.1, Prod.ext this.2.2.1 this.2.2.2.1, this.2.2.2.2⟩
theorem isKey_klK (x : KK) : WideAt.IsKeyLit (klK x) := by unfold klK; trivial
theorem isKey_klW (a : Int) (c : Bool) (x : KK) (g : Int) : WideAt.IsKeyLit (klW a c x g) := by unfold klW; trivial
theorem pk_ok {x : KK} (h : okK x) : okK (pk x) := by
  unfold pk
  split
  · exact ⟨Nat.zero_le _, h.2⟩
  · refine ⟨?_, ?_⟩
    · show (evenB x.1).size ≤ _
      rw [evenB_size]; have := h.1; omega
    · show (Lit.int .i64 0).wf = true
      decide
end Go.Proofs.YtkbohoolnpaleaaGreatDoor
namespace Go.Proofs.YtkbohoolnpaleaaGreatDoor
open Go.RowKit Go.Shelf Go.Lib Go.Sort Go.Proofs Go.Maps
set_option maxHeartbeats 1000000
set_option maxRecDepth 8000

/-- no block that is still to come has an owner -/
def Norm (f : Nat → Nat) (w : World) : Prop := ∀ r, w.heap.size ≤ r → f r = 0
/-- a call that turns old blocks of the owners C alone; f, f': whose each block is, before and behind it -/
structure Turn (C : Nat → Prop) (f f' : Nat → Nat) (w w' : World) : Prop where
  os : w'.os = w.os
  tape : w'.tape = w.tape
  output : w'.output = w.output
  size : w.heap.size ≤ w'.heap.size
  agree : ∀ r, r < w.heap.size → f' r = f r
  norm : Norm f' w'
  block : ∀ r, r < w.heap.size → ¬ C (f r) → w'.heap[r]? = w.heap[r]?
theorem Turn.refl (C : Nat → Prop) {f : Nat → Nat} {w : World} (h : Norm f w) : Turn C f f w w := ⟨rfl, rfl, rfl, Nat.le_refl _, fun _ _ => rfl, h, fun _ _ _ => rfl⟩
theorem Turn.of_below (C : Nat → Prop) {f : Nat → Nat} {w w' : World} (h : Norm f w) (hb : Below w.heap.size w w') : Turn C f f w w' :=
  ⟨hb.os, hb.tape, hb.output, hb.size, fun _ _ => rfl, fun r hr => h r (Nat.le_trans hb.size hr), fun r hr _ => hb.block r hr⟩
theorem Turn.trans {C : Nat → Prop} {f f' f'' : Nat → Nat} {w w' w'' : World} (h : Turn C f f' w w') (h' : Turn C f' f'' w' w'') : Turn C f f'' w w'' :=
  ⟨h'.os.trans h.os, h'.tape.trans h.tape, h'.output.trans h.output, Nat.le_trans h.size h'.size,
    fun r hr => (h'.agree r (Nat.lt_of_lt_of_le hr h.size)).trans (h.agree r hr), h'.norm,
    fun r hr hc => (h'.block r (Nat.lt_of_lt_of_le hr h.size) (by rw [h.agree r hr]; exact hc)).trans (h.block r hr hc)⟩
theorem Turn.mono {C C' : Nat → Prop} {f f' : Nat → Nat} {w w' : World} (h : Turn C f f' w w') (hC : ∀ c, C c → C' c) : Turn C' f f' w w' :=
  ⟨h.os, h.tape, h.output, h.size, h.agree, h.norm, fun r hr hc => h.block r hr (fun hx => hc (hC _ hx))⟩
theorem Turn.below {C : Nat → Prop} {f f' : Nat → Nat} {w w' : World} (h : Turn C f f' w w') {B : Nat} (hB : B ≤ w.heap.size) (hf : ∀ r, r < B → ¬ C (f r)) : Below B w w' :=
  ⟨h.os, h.tape, h.output, h.size, fun r hr => h.block r (Nat.lt_of_lt_of_le hr hB) (hf r hr)⟩
/-- the new blocks get an owner each -/
def give (f : Nat → Nat) (w w' : World) (g : Nat → Nat) : Nat → Nat := fun r => if r < w.heap.size then f r else if r < w'.heap.size then g r else 0
theorem give_old {f : Nat → Nat} {w w' : World} {g : Nat → Nat} {r : Nat} (h : r < w.heap.size) : give f w w' g r = f r := by simp [give, h]
theorem give_new {f : Nat → Nat} {w w' : World} {g : Nat → Nat} {r : Nat} (h : w.heap.size ≤ r) (h' : r < w'.heap.size) : give f w w' g r = g r := by
  have : ¬ r < w.heap.size := by omega
  simp [give, this, h']
/-- the state before a piece of a call, with its owners, and a step that only makes blocks or turns those of C -/
theorem Turn.give {C : Nat → Prop} {f f' : Nat → Nat} {w w' w'' : World} (h : Turn C f f' w w') (g : Nat → Nat) (ho : w''.os = w'.os) (ht : w''.tape = w'.tape) (hp : w''.output = w'.output) (hs : w'.heap.size ≤ w''.heap.size)
    (hb : ∀ r, r < w'.heap.size → ¬ C (f' r) → w''.heap[r]? = w'.heap[r]?) : Turn C f (give f' w' w'' g) w w'' :=
  h.trans ⟨ho, ht, hp, hs, fun r hr => give_old hr, fun r hr => by unfold Go.Proofs.YtkbohoolnpaleaaGreatDoor.give; rw [if_neg (by omega), if_neg (by omega)], hb⟩
theorem Turn.grown {C : Nat → Prop} {f f' : Nat → Nat} {w w' w'' : World} (h : Turn C f f' w w') (g : Nat → Nat) {k : Option Nat} (hg : w'.grownBy w'' k) (hk : ∀ r, k = some r → C (f' r)) : Turn C f (Go.Proofs.YtkbohoolnpaleaaGreatDoor.give f' w' w'' g) w w'' :=
  h.give g hg.os hg.tape hg.output hg.size (fun r hr hc => hg.block r hr (fun e => hc (hk r e.symm)))
theorem Turn.set {C : Nat → Prop} {f f' : Nat → Nat} {w w' : World} (h : Turn C f f' w w') (b i : Nat) (u : Value) (hb : C (f' b)) : Turn C f f' w (w'.setCell ⟨b, i, none⟩ u) :=
  h.trans ⟨rfl, rfl, rfl, by simp [World.setCell], fun _ _ => rfl, fun r hr => h.norm r (by simpa [World.setCell] using hr),
    fun r _ hc => Below.heap_setCell _ _ _ _ (fun e => hc (by rw [e]; exact hb))⟩
theorem Turn.alloc {C : Nat → Prop} {f f' : Nat → Nat} {w w' : World} (h : Turn C f f' w w') (o : Obj) : Turn C f f' w (w'.alloc o) :=
  h.trans (Turn.of_below C h.norm ((Below.refl _ w').alloc (Nat.le_refl _) o))
theorem Turn.then {C : Nat → Prop} {f f' : Nat → Nat} {w w' w'' : World} (h : Turn C f f' w w') (hb : Below w'.heap.size w' w'') : Turn C f f' w w'' := h.trans (Turn.of_below C h.norm hb)
/-- a row, and whose it is -/
def RowO (w : World) (f : Nat → Nat) (c : Nat) (e : TypeId) (size : Nat) (v : Value) (n : Nat) (xs : List Value) : Prop := w.ownsRow 0 e size v n xs ∧ ∀ k, v.ownBlock = some k → f k = c
theorem own_at {w w' : World} {B e size n : Nat} {v : Value} {xs : List Value} (h : w.ownsRow B e size v n xs) (hk : ∀ k, v.ownBlock = some k → w'.heap[k]? = w.heap[k]?) : w'.ownsRow B e size v n xs := by
  refine ⟨h.1, ?_⟩
  rcases h.2 with h | ⟨g, cap, cur, rfl, hb, hg, r⟩
  · exact .inl h
  · exact .inr ⟨g, cap, cur, rfl, hb, by rw [hk g rfl]; exact hg, r⟩
theorem RowO.turn {C : Nat → Prop} {f f' : Nat → Nat} {w w' : World} {c : Nat} {e : TypeId} {size : Nat} {v : Value} {n : Nat} {xs : List Value} (h : RowO w f c e size v n xs) (ht : Turn C f f' w w') (hc : ¬ C c) : RowO w' f' c e size v n xs := by
  obtain ⟨h1, h2⟩ := h
  refine ⟨own_at h1 fun k hk => ht.block k (h1.lt k hk).2 (by rw [h2 k hk]; exact hc), fun k hk => (ht.agree k (h1.lt k hk).2).trans (h2 k hk)⟩
/-- a map of at most n entries that tells g -/
def MapG (w : World) (k : TypeId) (b n : Nat) (g : Lit → Option Int) : Prop :=
  ∃ D, w.ownsMap Tryz.prog k (plainElem Tryz.prog 3) b (Maps.size D) D ∧ TellsL D g ∧ Maps.size D ≤ n
/-- .. and whose it is -/
def MapO (w : World) (f : Nat → Nat) (c : Nat) (k : TypeId) (b n : Nat) (g : Lit → Option Int) : Prop := MapG w k b n g ∧ f b = c
theorem heapH_lt {w : World} {tb : Nat} {o : Obj} (h : w.heap[tb]? = some o) : tb < w.heap.size := (Array.getElem?_eq_some_iff.1 h).1
theorem MapG.lt {w : World} {k : TypeId} {b n : Nat} {g : Lit → Option Int} (h : MapG w k b n g) : b < w.heap.size := by
  obtain ⟨D, h1, _⟩ := h
  exact h1.lt
theorem MapG.at {w w' : World} {k : TypeId} {b n : Nat} {g : Lit → Option Int} (h : MapG w k b n g) (hb : w'.heap[b]? = w.heap[b]?) : MapG w' k b n g := by
  obtain ⟨D, ⟨es, cl, h1, h2⟩, h3⟩ := h
  exact ⟨D, ⟨es, cl, hb.trans h1, h2⟩, h3⟩
theorem MapG.made (w : World) (k : TypeId) (n : Nat) : MapG (w.alloc (.map #[] 0)) k w.heap.size n (fun _ => none) :=
  ⟨.map [], World.ownsMap_made w Tryz.prog k _, tellsL_nil, Nat.zero_le _⟩
theorem MapO.lt {w : World} {f : Nat → Nat} {c : Nat} {k : TypeId} {b n : Nat} {g : Lit → Option Int} (h : MapO w f c k b n g) : b < w.heap.size := h.1.lt
theorem MapO.turn {C : Nat → Prop} {f f' : Nat → Nat} {w w' : World} {c : Nat} {k : TypeId} {b n : Nat} {g : Lit → Option Int} (h : MapO w f c k b n g) (ht : Turn C f f' w w') (hc : ¬ C c) : MapO w' f' c k b n g :=
  ⟨h.1.at (ht.block b h.lt (by rw [h.2]; exact hc)), (ht.agree b h.lt).trans h.2⟩
/-- the map as it was, or with one pair stored -/
def MapU (y : World) (k : TypeId) (b n : Nat) (g : Lit → Option Int) (kl : Lit) (v : Int) : Prop :=
  MapG y k b n g ∨ ∃ g', MapG y k b (n + 1) g' ∧ g' kl = some v ∧ ∀ l, l ≠ kl → g' l = g l
theorem store_U {k t : TypeId} (K : Keyed Tryz.prog k) (ht : Tryz.prog.underlying t = some (.map k 3)) {b n : Nat} {g : Lit → Option Int} {key : Value} {kl : Lit} (hkey : keyOf Tryz.prog k key = some kl) (hl : WideAt.IsKeyLit kl) {v : Int} (hv : (Lit.int .i64 v).wf = true) (hn : n + 1 < maxLen) :
    ∃ U : World → World, ∀ y, MapU y k b n g kl v → (Instr.mapUpdate t (.map (some b)) key (.int .i64 v)).run Tryz.prog y = .ok () (U y) ∧ (∃ g', MapG (U y) k b (n + 1) g' ∧ g' kl = some v ∧ ∀ l, l ≠ kl → g' l = g l) ∧ y.mapTurned (U y) b := by
  have key : ∀ y : World, ∃ y' : World, MapU y k b n g kl v → (Instr.mapUpdate t (.map (some b)) key (.int .i64 v)).run Tryz.prog y = .ok () y' ∧ (∃ g', MapG y' k b (n + 1) g' ∧ g' kl = some v ∧ ∀ l, l ≠ kl → g' l = g l) ∧ y.mapTurned y' b := by
    intro y
    by_cases hU : MapU y k b n g kl v
    · have go : ∀ (m : Nat) (g0 : Lit → Option Int), MapG y k b m g0 → m < maxLen → (m + (if (g0 kl).isSome then 0 else 1) ≤ n + 1) → (∀ l, l ≠ kl → g0 l = g l) → ∃ y' : World, (Instr.mapUpdate t (.map (some b)) key (.int .i64 v)).run Tryz.prog y = .ok () y' ∧ (∃ g', MapG y' k b (n + 1) g' ∧ g' kl = some v ∧ ∀ l, l ≠ kl → g' l = g l) ∧ y.mapTurned y' b := by
        intro m g0 hG hm hsz hg0
        obtain ⟨D, h1, h2, h3⟩ := hG
        have hval : plainElem (H := Unit) Tryz.prog 3 (.int .i64 v) = some (.lit (.int .i64 v), []) := plainElem_int Tryz.underlying3 hv
        obtain ⟨y', r1, r2, r3⟩ := h1.store K ht (Nat.lt_of_le_of_lt h3 hm) hkey hval
        obtain ⟨g', q1, q2, q3⟩ := tellsL_put h1.isMap h2 kl hl v
        have hs := size_put (k := kl) (h1.tidy K) (.lit (.int .i64 v))
        rw [(h2 kl).1] at hs
        refine ⟨y', r1, ⟨g', ⟨_, ?_, q1, ?_⟩, q2, fun l hl' => (q3 l hl').trans (hg0 l hl')⟩, r3⟩
        · obtain ⟨es, cl, a1, a2, a3, a4⟩ := r2
          refine ⟨es, cl, a1, a2, ?_, a4⟩
          rw [a4]
          simp [Maps.size, length_sorted]
        · cases hb : (g0 kl).isSome <;> rw [hb] at hs hsz <;> simp at hs hsz <;> omega
      rcases hU with hU | ⟨g1, hU, hk1, hk2⟩
      · obtain ⟨y', h⟩ := go n g hU (by omega) (by split <;> omega) (fun _ _ => rfl)
        exact ⟨y', fun _ => h⟩
      · obtain ⟨y', h⟩ := go (n + 1) g1 hU hn (by rw [hk1]; simp) hk2
        exact ⟨y', fun _ => h⟩
    · exact ⟨y, fun h => absurd h hU⟩
  obtain ⟨U, hU⟩ := Classical.axiomOfChoice key
  exact ⟨U, hU⟩
theorem blk_turn {C : Nat → Prop} {f f' : Nat → Nat} {w w' : World} {c b : Nat} {o : Obj} (h : w.heap[b]? = some o ∧ f b = c) (ht : Turn C f f' w w') (hc : ¬ C c) : w'.heap[b]? = some o ∧ f' b = c := by
  have hlt := heapH_lt h.1
  exact ⟨by rw [ht.block b hlt (by rw [h.2]; exact hc)]; exact h.1, (ht.agree b hlt).trans h.2⟩
end Go.Proofs.YtkbohoolnpaleaaGreatDoor
namespace Go.Proofs.YtkbohoolnpaleaaGreatDoor
open Go.RowKit Go.Shelf Go.Lib Go.Sort Go.Proofs Go.Maps
set_option maxHeartbeats 1000000
set_option maxRecDepth 100000

theorem c_UCutH (s : ByteArray) (hs : s.size ≤ 1099511627776) (w : World) :
    Calls Tryz.prog 114 #[.string s, .int .i64 0, .int .i64 ((s.size / 2 : Nat) : Int)] w fun e w' => e = .returned (.string (evenB s)) ∧ w' = w := by
  have hL := Lib.hid (c_ULen s hs w)
  unfold evenB
  generalize hm : s.size / 2 = m at *
  have hm2 : m * 2 ≤ s.size := by omega
  have hm3 : s.size < m * 2 + 2 := by omega
  clear hm
  rcases Nat.eq_zero_or_pos m with h0 | h0
  · subst h0
    have e : s.extract 0 (0 * 2) = ⟨#[]⟩ := by simp; rfl
    rw [e]
    clear e
    go_enter Tryz.func114, Tryz.ntmps114
    go_wp2_with (go_at_call 59; refine hL.out.mono ?_; rintro e w1 ⟨rfl, rfl⟩)
    go_ret
    exact ⟨rfl, rfl⟩
  · have e1 : (0 : Int) ≤ (m : Int) := by omega
    have e2 : ¬ (m : Int) ≤ 0 := by omega
    have e3 : (2 : Int) * (m : Int) ≤ (s.size : Int) := by omega
    have e4 : (2 * (m : Int)).toNat = m * 2 := by omega
    go_enter Tryz.func114, Tryz.ntmps114
    go_wp2_with (go_at_call 59; refine hL.out.mono ?_; rintro e w1 ⟨rfl, rfl⟩)
    go_ret
    exact ⟨rfl, rfl⟩
theorem two_belowH (w : World) (o o' : Obj) : Below w.heap.size w ((w.alloc o).alloc o') := ((Below.refl _ w).alloc (Nat.le_refl _) o).alloc (by simp) o'
theorem c_Splain (k : KK) (hk : k.1.size ≤ 1099511627776) (w : World) :
    Calls Tryz.prog 200 #[keyV k.1 k.2] w fun e w' => e = .returned (keyV (pk k).1 (pk k).2) ∧ Below w.heap.size w w' := by
  have hL := Lib.hid (c_ULen k.1 hk)
  have hC := Lib.hid (c_UCutH k.1 hk)
  have hb := two_belowH w
  unfold keyV pk
  obtain ⟨s, n⟩ := k
  dsimp only at *
  by_cases h0 : 0 < n
  · rw [if_pos h0]
    dsimp only
    have hb0 := Lib.hid hb
    clear hb
    go_enter Tryz.func200, Tryz.ntmps200
    go_wp2
    refine bodyPost_ret (results_cell_row rfl _ _ (w.heap.size + 1) 43 #[.string ⟨#[]⟩, .int .i64 n] (0, 0) _ rfl (heap_alloc2_new w _ _) Tryz.underlying43 rfl infoKeyRow) rfl ?_
    exact ⟨rfl, hb0.out _ _⟩
  · rw [if_neg h0]
    dsimp only
    have hb0 := Lib.hid hb
    clear hb
    generalize evenB s = E at *
    go_enter Tryz.func200, Tryz.ntmps200
    go_wp2_with fail
    go_region_held3 (fun y => y.cell? ⟨w.heap.size, 0, none⟩ = some (.string s)) (first | assumption | rfl | go_keep) (first | (go_at_call 59; refine (hL.out _).mono ?_; rintro e w1 ⟨rfl, rfl⟩) | (go_at_call 114; refine (hC.out _).mono ?_; rintro e w1 ⟨rfl, rfl⟩))
    all_goals (go_wp2_with fail)
    all_goals refine bodyPost_ret (results_cell_row rfl _ _ (w.heap.size + 1) 43 #[.string E, .int .i64 0] (0, 0) _ rfl (heap_alloc2_new w _ _) Tryz.underlying43 rfl infoKeyRow) rfl ?_
    all_goals exact ⟨rfl, (hb0.out _ _).drew⟩
theorem c_Hplain (k : KK) (hk : k.1.size ≤ 1099511627776) (w : World) :
    Calls Tryz.prog 92 #[keyV k.1 k.2] w fun e w' => e = .returned (keyV (pk k).1 (pk k).2) ∧ Below w.heap.size w w' := by
  have hL := Lib.hid (c_ULen k.1 hk)
  have hC := Lib.hid (c_UCutH k.1 hk)
  have hb := two_belowH w
  unfold keyV pk
  obtain ⟨s, n⟩ := k
  dsimp only at *
  by_cases h0 : 0 < n
  · rw [if_pos h0]
    dsimp only
    have hb0 := Lib.hid hb
    clear hb
    go_enter Tryz.func92, Tryz.ntmps92
    go_wp2
    refine bodyPost_ret (results_cell_row rfl _ _ (w.heap.size + 1) 43 #[.string ⟨#[]⟩, .int .i64 n] (0, 0) _ rfl (heap_alloc2_new w _ _) Tryz.underlying43 rfl infoKeyRow) rfl ?_
    exact ⟨rfl, hb0.out _ _⟩
  · rw [if_neg h0]
    dsimp only
    have hb0 := Lib.hid hb
    clear hb
    generalize evenB s = E at *
    go_enter Tryz.func92, Tryz.ntmps92
    go_wp2_with fail
    go_region_held3 (fun y => y.cell? ⟨w.heap.size, 0, none⟩ = some (.string s)) (first | assumption | rfl | go_keep) (first | (go_at_call 59; refine (hL.out _).mono ?_; rintro e w1 ⟨rfl, rfl⟩) | (go_at_call 114; refine (hC.out _).mono ?_; rintro e w1 ⟨rfl, rfl⟩))
    all_goals (go_wp2_with fail)
    all_goals refine bodyPost_ret (results_cell_row rfl _ _ (w.heap.size + 1) 43 #[.string E, .int .i64 0] (0, 0) _ rfl (heap_alloc2_new w _ _) Tryz.underlying43 rfl infoKeyRow) rfl ?_
    all_goals exact ⟨rfl, (hb0.out _ _).drew⟩
end Go.Proofs.YtkbohoolnpaleaaGreatDoor
namespace Go.Proofs.YtkbohoolnpaleaaGreatDoor
open Go.RowKit Go.Shelf Go.Lib Go.Sort Go.Proofs Go.Maps
set_option maxHeartbeats 1000000
set_option maxRecDepth 8000

theorem fm_len {α : Type} {enc : α → List Value} {k : Nat} (h : ∀ x, (enc x).length = k) (l : List α) : (l.flatMap enc).length = l.length * k := by
  induction l with
  | nil => simp
  | cons a l ih => rw [List.flatMap_cons, List.length_append, ih, h, List.length_cons, Nat.add_mul, Nat.one_mul, Nat.add_comm]
theorem fm_get {α : Type} {enc : α → List Value} {k : Nat} (h : ∀ x, (enc x).length = k) {l : List α} : ∀ {i : Nat} {x : α}, l[i]? = some x → ∀ {j : Nat} {v : Value}, (enc x)[j]? = some v → (l.flatMap enc)[i * k + j]? = some v := by
  induction l with
  | nil => intro i x hx; simp at hx
  | cons a l ih =>
    intro i x hx j v hv
    have hj : j < k := by rw [← h x]; exact (List.getElem?_eq_some_iff.1 hv).1
    rw [List.flatMap_cons]
    cases i with
    | zero =>
      simp at hx; subst hx
      rw [List.getElem?_append_left (by rw [h]; omega)]
      simpa using hv
    | succ i =>
      rw [List.getElem?_append_right (by rw [h, Nat.add_mul]; omega), h]
      have e : (i + 1) * k + j - k = i * k + j := by rw [Nat.add_mul]; omega
      rw [e]
      exact ih (by simpa using hx) hv
/-- where a key stands -/
def idx : List KK → KK → Option Nat
  | [], _ => none
  | a :: l, x => if a = x then some 0 else (idx l x).map (· + 1)
theorem idx_none {l : List KK} {x : KK} : idx l x = none ↔ x ∉ l := by
  induction l with
  | nil => simp [idx]
  | cons a l ih =>
    by_cases e : a = x
    · simp [idx, e]
    · have e' : ¬ x = a := fun h => e h.symm
      simp [idx, e, ih, e']
theorem idx_some {l : List KK} {x : KK} : ∀ {i : Nat}, idx l x = some i → l[i]? = some x := by
  induction l with
  | nil => simp [idx]
  | cons a l ih =>
    intro i h
    by_cases e : a = x
    · simp [idx, e] at h; subst h; simp [e]
    · simp [idx, e] at h
      obtain ⟨j, hj, rfl⟩ := h
      simpa using ih hj
theorem idx_at {l : List KK} {x : KK} (hn : l.Nodup) : ∀ {i : Nat}, l[i]? = some x → idx l x = some i := by
  induction l with
  | nil => intro i h; simp at h
  | cons a l ih =>
    intro i h
    obtain ⟨h1, h2⟩ := List.nodup_cons.1 hn
    cases i with
    | zero => simp at h; simp [idx, h]
    | succ i =>
      have h3 : l[i]? = some x := by simpa using h
      have e : a ≠ x := fun e => h1 (e ▸ List.mem_of_getElem? h3)
      simp [idx, e, ih h2 h3]
theorem idx_snoc {l : List KK} {x y : KK} : idx (l ++ [x]) y = match idx l y with | some i => some i | none => if x = y then some l.length else none := by
  induction l with
  | nil => simp [idx]
  | cons a l ih =>
    by_cases e : a = y
    · simp [idx, e]
    · simp only [List.cons_append, idx, e, if_false, ih]
      cases h : idx l y with
      | some i => simp
      | none => by_cases e2 : x = y <;> simp [e2]
theorem idx_lt {l : List KK} {x : KK} {i : Nat} (h : idx l x = some i) : i < l.length := (List.getElem?_eq_some_iff.1 (idx_some h)).1
/-- a slot: a key with its flags -/
abbrev SL := KK × Int
def encS (x : SL) : List Value := [.string x.1.1, .int .i64 x.1.2, .int .i64 x.2]
def flatS (l : List SL) : List Value := l.flatMap encS
theorem flatS_len (l : List SL) : (flatS l).length = l.length * 3 := fm_len (k := 3) (fun _ => rfl) l
theorem flatS_get {l : List SL} {i : Nat} {x : SL} (h : l[i]? = some x) : (flatS l)[i * 3]? = some (.string x.1.1) ∧ (flatS l)[i * 3 + 1]? = some (.int .i64 x.1.2) ∧ (flatS l)[i * 3 + 2]? = some (.int .i64 x.2) :=
  ⟨fm_get (enc := encS) (k := 3) (fun _ => rfl) h (j := 0) rfl, fm_get (enc := encS) (k := 3) (fun _ => rfl) h (j := 1) rfl, fm_get (enc := encS) (k := 3) (fun _ => rfl) h (j := 2) rfl⟩
def encE (e : Value × Nat) : List Value := [e.1, .map (some e.2)]
def flatE (l : List (Value × Nat)) : List Value := l.flatMap encE
theorem flatE_len (l : List (Value × Nat)) : (flatE l).length = l.length * 2 := fm_len (k := 2) (fun _ => rfl) l
theorem flatE_get {l : List (Value × Nat)} {i : Nat} {x : Value × Nat} (h : l[i]? = some x) : (flatE l)[i * 2]? = some x.1 ∧ (flatE l)[i * 2 + 1]? = some (.map (some x.2)) :=
  ⟨fm_get (enc := encE) (k := 2) (fun _ => rfl) h (j := 0) rfl, fm_get (enc := encE) (k := 2) (fun _ => rfl) h (j := 1) rfl⟩
/-- a shape's slots and its map: nobody turns them -/
def ShapeO (w : World) (f : Nat → Nat) (sv : Value) (mb : Nat) (ks : List KK) : Prop :=
  ∃ (ss : List SL) (g : Lit → Option Int) (n : Nat), RowO w f 9 225 3 sv ss.length (flatS ss) ∧ ss.map (fun x => pk x.1) = ks ∧ (∀ x ∈ ss, okK x.1) ∧ ks.Nodup ∧ MapO w f 9 43 mb n g ∧ n ≤ ks.length ∧ (∀ x, okK x → g (klK x) = (idx ks x).map Int.ofNat)
/-- a tree of shapes: of each the keys, as they are compared -/
def TreeO (w : World) (f : Nat → Nat) (tb : Nat) (L : List (List KK)) : Prop :=
  ∃ (rv : Value) (bw n : Nat) (ents : List (Value × Nat)) (gw : Lit → Option Int),
    (w.heap[tb]? = some (.cells #[.int .i64 1, rv, .map (some bw)] 82 (0, 0)) ∧ f tb = 3) ∧ RowO w f 4 78 2 rv L.length (flatE ents) ∧ ents.length = L.length ∧ MapO w f 5 277 bw n gw ∧ n ≤ L.length ∧
    (∀ (a : Int) (ch : Bool) (k : KK) (fl t : Int), okK k → (Lit.int .i64 a).wf = true → (Lit.int .i64 fl).wf = true → gw (klW a ch k fl) = some t → ∃ (i j : Nat) (A : List KK), a = i ∧ t = j ∧ L[i]? = some A ∧ L[j]? = some (if ch then A else A ++ [k])) ∧
    (∀ (i : Nat) (ks : List KK), L[i]? = some ks → ∃ e : Value × Nat, ents[i]? = some e ∧ ShapeO w f e.1 e.2 ks)
theorem ShapeO.turn {C : Nat → Prop} {f f' : Nat → Nat} {w w' : World} {sv : Value} {mb : Nat} {ks : List KK} (h : ShapeO w f sv mb ks) (ht : Turn C f f' w w') (hc : ¬ C 9) : ShapeO w' f' sv mb ks := by
  obtain ⟨ss, g, n, h1, h2, h3, h4, h5, h6, h7⟩ := h
  exact ⟨ss, g, n, h1.turn ht hc, h2, h3, h4, h5.turn ht hc, h6, h7⟩
theorem TreeO.turn {C : Nat → Prop} {f f' : Nat → Nat} {w w' : World} {tb : Nat} {L : List (List KK)} (h : TreeO w f tb L) (ht : Turn C f f' w w') (h3 : ¬ C 3) (h4 : ¬ C 4) (h5 : ¬ C 5) (h9 : ¬ C 9) : TreeO w' f' tb L := by
  obtain ⟨rv, bw, n, ents, gw, q1, q2, q3, q4, q5, q6, q7⟩ := h
  exact ⟨rv, bw, n, ents, gw, blk_turn q1 ht h3, q2.turn ht h4, q3, q4.turn ht h5, q5, q6, fun i ks hi => by
    obtain ⟨e, he, hs⟩ := q7 i ks hi
    exact ⟨e, he, hs.turn ht h9⟩⟩
end Go.Proofs.YtkbohoolnpaleaaGreatDoor
namespace Go.Proofs.YtkbohoolnpaleaaGreatDoor
open Go.RowKit Go.Shelf Go.Lib Go.Sort Go.Proofs Go.Maps
set_option maxHeartbeats 1000000
set_option maxRecDepth 100000

/-- a look-up of a key, in every world in which the map is what it was -/
theorem look_K {w : World} {f : Nat → Nat} {c b n : Nat} {g : Lit → Option Int} (h : MapO w f c 43 b n g) (x : KK) (hx : okK x) :
    ∃ z : Int, (∀ i, g (klK x) = some i → z = i) ∧ ∀ y : World, y.heap[b]? = w.heap[b]? → (Instr.lookup 75 (.map (some b)) (keyV x.1 x.2) true).run Tryz.prog y = .ok (.tuple #[.int .i64 z, .bool (g (klK x)).isSome]) y := by
  obtain ⟨⟨D, ⟨es, cl, h1, h2⟩, h3, h4⟩, h5⟩ := h
  have hz : plainElem (H := Unit) Tryz.prog 3 (.int .i64 0) = some (.lit (.int .i64 0), []) := plainElem_int Tryz.underlying3 (by decide)
  have key : ∀ y : World, y.heap[b]? = w.heap[b]? → ∃ z : Int, D.atKey (klK x) (.lit (.int .i64 0)) = .lit (.int .i64 z) ∧ (Instr.lookup 75 (.map (some b)) (keyV x.1 x.2) true).run Tryz.prog y = .ok (.tuple #[.int .i64 z, .bool (g (klK x)).isSome]) y := by
    intro y hy
    have hm : y.ownsMap Tryz.prog 43 (plainElem Tryz.prog 3) b (Maps.size D) D := ⟨es, cl, hy.trans h1, h2⟩
    obtain ⟨v, ps, hr, hv⟩ := hm.look_ok lawKey Tryz.underlying75 (zeroIntH y) hz (keyOf_K x hx)
    obtain ⟨z, rfl, hzz, _⟩ := plainElem_int_inv Tryz.underlying3 hv
    refine ⟨z, congrArg Prod.fst hzz, ?_⟩
    rw [← (h3 (klK x)).1]
    exact hr
  obtain ⟨z, hz1, _⟩ := key w rfl
  refine ⟨z, fun i hi => ?_, fun y hy => ?_⟩
  · have := (h3 (klK x)).2 i hi
    rw [hz1] at this
    injection this with this
    injection this
  · obtain ⟨z', hz2, hr⟩ := key y hy
    rw [hz1] at hz2
    injection hz2 with hz2
    injection hz2 with _ hz2
    subst hz2
    exact hr
theorem TreeO.form {w : World} {f : Nat → Nat} {tb : Nat} {L : List (List KK)} (h : TreeO w f tb L) :
    ∃ p c, w.cell? ⟨tb, 0, none⟩ = some (.int .i64 1) ∧ w.cell? ⟨tb, 1, none⟩ = some (.slice p L.length c) ∧
      ∀ s ks, L[s]? = some ks → ∃ rb sv mb, p = some ⟨rb, 0, none⟩ ∧ tb < w.heap.size ∧ rb < w.heap.size ∧ mb < w.heap.size ∧ w.cell? ⟨rb, s * 2, none⟩ = some sv ∧ w.cell? ⟨rb, s * 2 + 1, none⟩ = some (.map (some mb)) ∧ ShapeO w f sv mb ks := by
  obtain ⟨rv, bw, n, ents, gw, q1, q2, q3, q4, q5, q6, q7⟩ := h
  have hrv : ∃ p c, rv = .slice p L.length c ∧ (∀ rb, p = some ⟨rb, 0, none⟩ → rv.ownBlock = some rb) ∧ (0 < L.length → ∃ rb, p = some ⟨rb, 0, none⟩) := by
    rcases q2.1.2 with ⟨e, h⟩ | ⟨g, cap, cur, e, _⟩
    · rw [h]; exact ⟨none, 0, e, fun _ h => by (cases h), fun h => by omega⟩
    · exact ⟨_, _, e, fun rb h => by cases h; rw [e]; rfl, fun _ => ⟨g, rfl⟩⟩
  obtain ⟨p, c, rfl, hb, hp⟩ := hrv
  refine ⟨p, c, ?_, ?_, fun s ks hs => ?_⟩
  · rw [cell_of_row w tb 0 _ _ _ q1.1]; rfl
  · rw [cell_of_row w tb 1 _ _ _ q1.1]; rfl
  obtain ⟨rb, hrb⟩ := hp (by have := (List.getElem?_eq_some_iff.1 hs).1; omega)
  obtain ⟨e, he, hS⟩ := q7 s ks hs
  have hob := hb rb hrb
  obtain ⟨g1, g2⟩ := flatE_get he
  have c1 := q2.1.cells hob _ _ g1
  have c2 := q2.1.cells hob _ _ g2
  rw [add_zero_addr] at c1 c2
  obtain ⟨ss, gg, nn, r1, r2, r3, r4, r5, r6, r7⟩ := hS
  exact ⟨rb, e.1, e.2, hrb, heapH_lt q1.1, (q2.1.lt rb hob).2, r5.lt, c1, c2, ⟨ss, gg, nn, r1, r2, r3, r4, r5, r6, r7⟩⟩
/-- y has all that W has, and more -/
def Onto (W y : World) : Prop := (∀ a : Addr, a.block < W.heap.size → y.cell? a = W.cell? a) ∧ (∀ b : Nat, b < W.heap.size → y.heap[b]? = W.heap[b]?) ∧ Below W.heap.size W y
theorem onto_drew (W : World) : (∀ a : Addr, a.block < W.heap.size → W.drew.cell? a = W.cell? a) ∧ (∀ b : Nat, b < W.heap.size → W.drew.heap[b]? = W.heap[b]?) ∧ Below W.heap.size W W.drew := ⟨fun _ _ => rfl, fun _ _ => rfl, (Below.refl _ W).drew⟩
theorem onto_below {W y y' : World} (h : (∀ a : Addr, a.block < W.heap.size → y.cell? a = W.cell? a) ∧ (∀ b : Nat, b < W.heap.size → y.heap[b]? = W.heap[b]?) ∧ Below W.heap.size W y) (hb : Below y.heap.size y y') :
    (∀ a : Addr, a.block < W.heap.size → y'.cell? a = W.cell? a) ∧ (∀ b : Nat, b < W.heap.size → y'.heap[b]? = W.heap[b]?) ∧ Below W.heap.size W y' := by
  obtain ⟨h1, h2, h3⟩ := h
  exact ⟨fun a ha => by rw [hb.cell (Nat.lt_of_lt_of_le ha h3.size)]; exact h1 a ha, fun b hb' => (hb.block b (Nat.lt_of_lt_of_le hb' h3.size)).trans (h2 b hb'), h3.trans (hb.mono h3.size)⟩
theorem c_Sis {w : World} {f : Nat → Nat} {tb : Nat} {L : List (List KK)} (h : TreeO w f tb L) (s : Nat) (hs : s < L.length) :
    Calls Tryz.prog 112 #[.pointer (some ⟨tb, 0, none⟩), .int .i64 (s : Int)] w fun e w' => e = .returned (.bool true) ∧ w' = w := by
  obtain ⟨p, c, c0, c1, _⟩ := h.form
  have p1 : (0 : Int) ≤ (s : Int) := by omega
  have p2 : (s : Int) < (L.length : Int) := by omega
  generalize L.length = n at *
  clear h
  go_enter Tryz.func112, Tryz.ntmps112
  go_wp2
  go_ret
  exact ⟨rfl, rfl⟩
theorem c_SFind {w : World} {f : Nat → Nat} {tb : Nat} {L : List (List KK)} (hN : Norm f w) (h : TreeO w f tb L) (s : Nat) (ks : List KK) (hs : L[s]? = some ks) (k : KK) (hk : okK k) :
    Calls Tryz.prog 196 #[.pointer (some ⟨tb, 0, none⟩), .int .i64 (s : Int), keyV k.1 k.2] w fun e w' => Below w.heap.size w w' ∧
      ((∃ (i : Nat) (fl : Int), idx ks (pk k) = some i ∧ e = .returned (.tuple #[.int .i64 (i : Int), .int .i64 fl, .bool true])) ∨ (idx ks (pk k) = none ∧ e = .returned (.tuple #[.int .i64 0, .int .i64 0, .bool false]))) := by
  obtain ⟨p, c, c0, c1, hrow⟩ := h.form
  obtain ⟨rb, sv, mb, rfl, l1, l2, l3, c2, c3, hS⟩ := hrow s ks hs
  have hsl := (List.getElem?_eq_some_iff.1 hs).1
  obtain ⟨ss, gg, nn, r1, r2, r3, r4, r5, r6, r7⟩ := hS
  obtain ⟨z, hz, hlk⟩ := look_K r5 (pk k) (pk_ok hk)
  rw [r7 _ (pk_ok hk)] at hz hlk
  have hP := Lib.hid (c_Splain k hk.1)
  have hI := Lib.hid (c_Sis ((h.turn (Turn.of_below (fun _ => False) (w' := w.alloc (.cells #[.string k.1, .int .i64 k.2] 43)) hN ((Below.refl _ w).alloc (Nat.le_refl _) _)) id id id id)) s hsl)
  have b0 := two_belowH w
  have a0 := heap_alloc_new w (.cells #[.string k.1, .int .i64 k.2] 43)
  have p1 : (0 : Int) ≤ (s : Int) := by omega
  have p2 : (s : Int) < (L.length : Int) := by omega
  unfold keyV
  obtain ⟨ks0, kn⟩ := k
  dsimp only at *
  generalize pk (ks0, kn) = K at *
  clear h hrow hs r3 r4 r5 r6 r7 b0 a0
  go_enter Tryz.func196, Tryz.ntmps196
  go_wp2_with (go_at_call 112; refine hI.out.mono ?_; rintro e w1 ⟨rfl, rfl⟩)
  have e1 : (w.alloc (.cells #[.string ks0, .int .i64 kn] 43)).cell? ⟨w.heap.size, 0, none⟩ = some (.string ks0) := by rw [cell_of_row _ w.heap.size 0 _ _ _ (heap_alloc_new w _)]; rfl
  have e2 : (w.alloc (.cells #[.string ks0, .int .i64 kn] 43)).cell? ⟨w.heap.size, 1, none⟩ = some (.int .i64 kn) := by rw [cell_of_row _ w.heap.size 1 _ _ _ (heap_alloc_new w _)]; rfl
  have hal : Below w.heap.size w (w.alloc (.cells #[.string ks0, .int .i64 kn] 43)) := (Below.refl _ w).alloc (Nat.le_refl _) _
  have hsz : (w.alloc (.cells #[.string ks0, .int .i64 kn] 43)).heap.size = w.heap.size + 1 := by simp
  generalize w.alloc (.cells #[.string ks0, .int .i64 kn] 43) = W at *
  rw [← hal.cell l1] at c1
  rw [← hal.cell l2] at c2 c3
  have m0 : W.heap[mb]? = w.heap[mb]? := hal.block mb l3
  rw [← m0] at hlk
  have l0 : w.heap.size < W.heap.size := by omega
  replace l1 : tb < W.heap.size := by omega
  replace l2 : rb < W.heap.size := by omega
  replace l3 : mb < W.heap.size := by omega
  clear c0 m0
  replace hsz := Lib.hid hsz
  have hlen : ss.length = ks.length := by rw [← r2]; simp
  cases hidx : idx ks K with
  | none =>
    rw [hidx] at hlk
    dsimp only [Option.map, Option.isSome] at hlk
    go_region_held3 (fun y => (∀ a : Addr, a.block < W.heap.size → y.cell? a = W.cell? a) ∧ (∀ b : Nat, b < W.heap.size → y.heap[b]? = W.heap[b]?) ∧ Below W.heap.size W y) (first | assumption | exact onto_drew W | exact onto_below (by assumption) (by assumption)) (first | (go_at_call 200; refine (hP.out _).mono ?_; rintro e y' ⟨rfl, hb⟩))
    have hO := Lib.hid (onto_below (onto_drew W) hb)
    clear hb
    go_wp2
    go_ret3
    exact ⟨hal.trans (hO.out.2.2.mono (by have := hsz.out; omega)), .inr ⟨hidx, rfl⟩⟩
  | some i =>
    rw [hidx] at hlk hz
    dsimp only [Option.map, Option.isSome] at hlk
    obtain rfl := hz _ rfl
    have hi : i < ss.length := by rw [hlen]; exact idx_lt hidx
    obtain ⟨g, cap, rfl, g1, g2⟩ := r1.1.form (by omega)
    have hg := (r1.1.lt g rfl).2
    have c4 := r1.1.cells (g := g) rfl _ _ (flatS_get (List.getElem?_eq_getElem hi)).2.2
    rw [add_zero_addr] at c4
    generalize ss[i].2 = fl at *
    rw [← hal.cell (show ({ block := g, off := i * 3 + 2, spot := none } : Addr).block < _ from hg)] at c4
    replace hg : g < W.heap.size := by have := hsz.out; omega
    have p3 : (0 : Int) ≤ (i : Int) := by omega
    have p4 : (i : Int) < (ss.length : Int) := by omega
    go_region_held3 (fun y => (∀ a : Addr, a.block < W.heap.size → y.cell? a = W.cell? a) ∧ (∀ b : Nat, b < W.heap.size → y.heap[b]? = W.heap[b]?) ∧ Below W.heap.size W y) (first | assumption | exact onto_drew W | exact onto_below (by assumption) (by assumption)) (first | (go_at_call 200; refine (hP.out _).mono ?_; rintro e y' ⟨rfl, hb⟩))
    have hO := onto_below (onto_drew W) hb
    rw [← hO.1 _ (show (⟨tb, 1, none⟩ : Addr).block < _ from l1)] at c1
    rw [← hO.1 _ (show (⟨rb, s * 2, none⟩ : Addr).block < _ from l2)] at c2
    rw [← hO.1 _ (show (⟨g, i * 3 + 2, none⟩ : Addr).block < _ from hg)] at c4
    replace hO := Lib.hid hO
    clear hb hlk
    go_wp2_with fail
    clear r1 r2 hz
    go_quiet (fail)
    go_wp2
    go_ret3
    exact ⟨bel_drewN (hal.trans (hO.out.2.2.mono (by have := hsz.out; omega))) _, .inl ⟨i, fl, hidx, rfl⟩⟩
end Go.Proofs.YtkbohoolnpaleaaGreatDoor

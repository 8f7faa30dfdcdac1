/-
  Contracts: The reference's Order: what stands in its three rows, list by list and in memory. The contract of the reference's Order. The contract of the reference's Make: the text of units. The contracts of the reference's Of, Ascii and Name, of texts of bytes below 128. A key as it is compared; lists in order, of keys that compare alike; what a map tells; keys and ways as a map's keys.
-/
import Derived.Test.YtoccmiinkfhohaaGreatW3
import Derived.Deep.RegionLawGrows
import Derived.Laws.AppendOwnNone
import Derived.Laws.IdiomStrings
import Derived.Laws.BytesArg
import Derived.Maps.OwnSet
import Derived.Maps.OwnOps
import Derived.Maps.Views
import Derived.DeepKeys4
namespace Go.Proofs.YtoccmiinkfhohaaGreat
open Go.RowKit Go.Shelf Go.Lib Go.Sort Go.Proofs
set_option maxHeartbeats 400000
set_option maxRecDepth 100000

/-- a key that is an index -/
def Ixd (x : KK) : Prop := ¬ 0 < x.2 ∧ idxOf (U x.1) = some (rk x)
theorem rk_sym {x : KK} (h : 0 < x.2) : rk x = 8589934592 := by simp [rk, rankK, h]
theorem rk_txt {x : KK} (h : ¬ 0 < x.2) (h2 : idxOf (U x.1) = none) : rk x = 4294967296 := by simp [rk, rankK, h, h2]
theorem rk_idx {x : KK} {m : Nat} (h : ¬ 0 < x.2) (h2 : idxOf (U x.1) = some m) : rk x = m ∧ Ixd x ∧ m ≤ 4294967294 := by
  have e : rk x = m := by simp [rk, rankK, h, h2]
  exact ⟨e, ⟨h, by rw [e]; exact h2⟩, idxOf_le _ _ h2⟩
theorem Ixd.le {x : KK} (h : Ixd x) : rk x ≤ 4294967294 := idxOf_le _ _ h.2
def RefI (l : List KK) (k : Nat) (F T S : List KK) : Prop :=
  Srt F ∧ (∀ x ∈ F, Ixd x) ∧ (∀ x ∈ T, rk x = 4294967296) ∧ (∀ x ∈ S, rk x = 8589934592) ∧ Eqv (F ++ (T ++ S)) (l.take k)
theorem ref_start (l : List KK) : RefI l 0 [] [] [] := ⟨List.Pairwise.nil, by simp, by simp, by simp, Eqv.refl _⟩
theorem RefI.len {l : List KK} {k : Nat} {F T S : List KK} (h : RefI l k F T S) (hk : k ≤ l.length) : F.length + T.length + S.length = k := by
  have := h.2.2.2.2.len
  simp at this; omega
theorem RefI.mem {l : List KK} {k : Nat} {F T S : List KK} (h : RefI l k F T S) {x : KK} (hx : x ∈ F) : x ∈ l := List.mem_of_mem_take (h.2.2.2.2.mem (List.mem_append_left _ hx))
theorem ref_sym {l : List KK} {k : Nat} {F T S : List KK} {x : KK} (h : RefI l k F T S) (hx : l[k]? = some x) (hs : 0 < x.2) : RefI l (k + 1) F T (S ++ [x]) := by
  obtain ⟨h1, h2, h3, h4, h5⟩ := h
  refine ⟨h1, h2, h3, ?_, ?_⟩
  · intro y hy
    rcases List.mem_append.1 hy with hy | hy
    · exact h4 y hy
    · simp at hy; subst hy; exact rk_sym hs
  · rw [List.take_add_one, hx]
    simpa using h5.app (Eqv.refl [x])
theorem ref_txt {l : List KK} {k : Nat} {F T S : List KK} {x : KK} (h : RefI l k F T S) (hx : l[k]? = some x) (hs : ¬ 0 < x.2) (hi : idxOf (U x.1) = none) : RefI l (k + 1) F (T ++ [x]) S := by
  obtain ⟨h1, h2, h3, h4, h5⟩ := h
  have hr := rk_txt hs hi
  refine ⟨h1, h2, ?_, h4, ?_⟩
  · intro y hy
    rcases List.mem_append.1 hy with hy | hy
    · exact h3 y hy
    · simp at hy; subst hy; exact hr
  · rw [List.take_add_one, hx]
    refine Eqv.trans ?_ (h5.app (Eqv.refl [x]))
    have : Eqv ([x] ++ S) (S ++ [x]) := Eqv.swap (fun a ha b hb => by simp at ha; subst ha; rw [hr, h4 b hb]; decide)
    have := (Eqv.refl (F ++ T)).app this
    simpa using this
theorem ref_idx {l : List KK} {k m : Nat} {F1 F2 T S : List KK} {x : KK} (h : RefI l k (F1 ++ F2) T S) (hx : l[k]? = some x) (hs : ¬ 0 < x.2) (hi : idxOf (U x.1) = some m) (h1le : ∀ y ∈ F1, rk y ≤ rk x) (h2lt : ∀ y ∈ F2, rk x < rk y) : RefI l (k + 1) (F1 ++ (x :: F2)) T S := by
  obtain ⟨h1, h2, h3, h4, h5⟩ := h
  obtain ⟨hr, hix, hm⟩ := rk_idx hs hi
  obtain ⟨p1, p2, p3⟩ := h1.parts
  refine ⟨?_, ?_, h3, h4, ?_⟩
  · refine p1.app (List.pairwise_cons.2 ⟨fun y hy => Nat.le_of_lt (h2lt y hy), p2⟩) ?_
    intro a ha b hb
    rcases List.mem_cons.1 hb with rfl | hb
    · exact h1le a ha
    · exact p3 a ha b hb
  · intro y hy
    rcases List.mem_append.1 hy with hy | hy
    · exact h2 y (List.mem_append_left _ hy)
    · rcases List.mem_cons.1 hy with rfl | hy
      · exact hix
      · exact h2 y (List.mem_append_right _ hy)
  · rw [List.take_add_one, hx]
    refine Eqv.trans ?_ (h5.app (Eqv.refl [x]))
    have : Eqv ([x] ++ (F2 ++ (T ++ S))) ((F2 ++ (T ++ S)) ++ [x]) := Eqv.swap (fun a ha b hb => by
      simp at ha; subst ha
      rcases List.mem_append.1 hb with hb | hb
      · have := h2lt b hb; omega
      · rcases List.mem_append.1 hb with hb | hb
        · rw [h3 b hb]; omega
        · rw [h4 b hb]; omega)
    have := (Eqv.refl F1).app this
    simpa using this
theorem ref_end {l : List KK} {F T S : List KK} (h : RefI l l.length F T S) : Srt (F ++ T ++ S) ∧ Eqv (F ++ T ++ S) l := by
  obtain ⟨h1, h2, h3, h4, h5⟩ := h
  rw [List.take_length] at h5
  constructor
  · have c : ∀ (L : List KK) (r : Nat), (∀ x ∈ L, rk x = r) → Srt L := by
      intro L r h
      exact List.Pairwise.imp_of_mem (R := fun _ _ => True) (fun ha hb _ => by rw [h _ ha, h _ hb]; exact Nat.le_refl _) (List.pairwise_of_forall (fun _ _ => trivial))
    refine (h1.app (c T _ h3) ?_).app (c S _ h4) ?_
    · intro a ha b hb; rw [h3 b hb]; have := (h2 a ha).le; omega
    · intro a ha b hb
      rw [h4 b hb]
      rcases List.mem_append.1 ha with ha | ha
      · have := (h2 a ha).le; omega
      · rw [h3 a ha]; decide
  · rw [List.append_assoc]; exact h5
/-- three rows of the call's own, each in a block of its own -/
def Own3 (w : World) (B : Nat) (vf vt vs : Value) (F T S : List KK) : Prop :=
  w.ownsRow B 31 2 vf F.length (flatK F) ∧ w.ownsRow B 31 2 vt T.length (flatK T) ∧ w.ownsRow B 31 2 vs S.length (flatK S) ∧
  (∀ k, vf.ownBlock = some k → vt.ownBlock ≠ some k ∧ vs.ownBlock ≠ some k) ∧ (∀ k, vt.ownBlock = some k → vs.ownBlock ≠ some k) ∧
  (T = [] → vt = .slice none 0 0) ∧ (S = [] → vs = .slice none 0 0) ∧ (F = [] → vf = .slice none 0 0)
theorem own_below' {w w' : World} {B e size n : Nat} {v : Value} {xs : List Value} (h : w.ownsRow B e size v n xs) (hb : Below w.heap.size w w') : w'.ownsRow B e size v n xs :=
  h.kept (row := none) ⟨hb.os, hb.tape, hb.output, hb.size, fun k hk _ => hb.block k hk⟩ (by cases h : v.ownBlock with | none => exact .inl rfl | some q => exact .inr (by simp))
theorem Own3.keep {w w' : World} {B : Nat} {vf vt vs : Value} {F T S : List KK} (h : Own3 w B vf vt vs F T S) (hb : Below w.heap.size w w') : Own3 w' B vf vt vs F T S :=
  ⟨own_below' h.1 hb, own_below' h.2.1 hb, own_below' h.2.2.1 hb, h.2.2.2⟩
theorem own3_start (w : World) : Own3 w w.heap.size (.slice none 0 0) (.slice none 0 0) (.slice none 0 0) [] [] [] :=
  ⟨⟨rfl, .inl ⟨rfl, rfl⟩⟩, ⟨rfl, .inl ⟨rfl, rfl⟩⟩, ⟨rfl, .inl ⟨rfl, rfl⟩⟩, (fun k h => by cases h), (fun k h => by cases h), (fun _ => rfl), (fun _ => rfl), (fun _ => rfl)⟩
theorem disj_kept {v v' : Value} {k : Nat} (h : ∀ k, v.ownBlock = some k → v'.ownBlock ≠ some k) (h2 : v'.ownBlock = some k) : v.ownBlock = none ∨ v.ownBlock ≠ some k := by
  cases hv : v.ownBlock with
  | none => exact .inl rfl
  | some q => right; intro e; injection e with e; subst e; exact h q hv h2
theorem row_kept {w w' : World} {B n gg : Nat} {v v' : Value} {xs : List Value} (h : w.ownsRow B 31 2 v n xs) (hg : w.grownBy w' v'.ownBlock) (hd : ∀ k, v'.ownBlock = some k → v.ownBlock ≠ some k) (hat : v'.ownBlock = some gg ∨ gg = w.heap.size) :
    w'.ownsRow B 31 2 v n xs ∧ v.ownBlock ≠ some gg := by
  refine ⟨h.kept hg ?_, ?_⟩
  · cases hv : v.ownBlock with
    | none => exact .inl rfl
    | some q => right; intro e; exact hd q e.symm hv
  · rcases hat with h1 | h1
    · exact hd gg h1
    · intro e; have := (h.lt gg e).2; omega
/-- behind an append to the symbols -/
theorem own3_sym {w w' : World} {B gg cap n : Nat} {vf vt vs : Value} {F T S : List KK} {x : KK} (h : Own3 w B vf vt vs F T S) (hn : n = S.length + 1) (ho : w'.ownsRow B 31 2 (.slice (some ⟨gg, 0, none⟩) n cap) n (flatK S ++ encK x)) (hg : w.grownBy w' vs.ownBlock) (hat : vs.ownBlock = some gg ∨ gg = w.heap.size) :
    Own3 w' B vf vt (.slice (some ⟨gg, 0, none⟩) n cap) F T (S ++ [x]) := by
  obtain ⟨h1, h2, h3, h4, h5, h6, h7, h8⟩ := h
  obtain ⟨a1, a2⟩ := row_kept h1 hg (fun k hk e => (h4 k e).2 hk) hat
  obtain ⟨b1, b2⟩ := row_kept h2 hg (fun k hk e => h5 k e hk) hat
  refine ⟨a1, b1, ?_, ?_, ?_, h6, (fun h => by simp at h), h8⟩
  · have e1 : (S ++ [x]).length = n := by simp [hn]
    have e2 : flatK (S ++ [x]) = flatK S ++ encK x := by rw [flatK_app]; simp [flatK]
    rw [e1, e2]; exact ho
  · intro k hk
    refine ⟨(h4 k hk).1, ?_⟩
    intro e; simp [Value.ownBlock] at e; subst e; exact a2 hk
  · intro k hk e
    simp [Value.ownBlock] at e; subst e; exact b2 hk
theorem own3_txt {w w' : World} {B gg cap n : Nat} {vf vt vs : Value} {F T S : List KK} {x : KK} (h : Own3 w B vf vt vs F T S) (hn : n = T.length + 1) (ho : w'.ownsRow B 31 2 (.slice (some ⟨gg, 0, none⟩) n cap) n (flatK T ++ encK x)) (hg : w.grownBy w' vt.ownBlock) (hat : vt.ownBlock = some gg ∨ gg = w.heap.size) :
    Own3 w' B vf (.slice (some ⟨gg, 0, none⟩) n cap) vs F (T ++ [x]) S := by
  obtain ⟨h1, h2, h3, h4, h5, h6, h7, h8⟩ := h
  obtain ⟨a1, a2⟩ := row_kept h1 hg (fun k hk e => (h4 k e).1 hk) hat
  obtain ⟨b1, b2⟩ := row_kept h3 hg (fun k hk e => h5 k hk e) hat
  refine ⟨a1, ?_, b1, ?_, ?_, (fun h => by simp at h), h7, h8⟩
  · have e1 : (T ++ [x]).length = n := by simp [hn]
    have e2 : flatK (T ++ [x]) = flatK T ++ encK x := by rw [flatK_app]; simp [flatK]
    rw [e1, e2]; exact ho
  · intro k hk
    refine ⟨?_, (h4 k hk).2⟩
    intro e; simp [Value.ownBlock] at e; subst e; exact a2 hk
  · intro k hk e
    simp [Value.ownBlock] at hk; subst hk; exact b2 e
theorem own3_fst {w w' : World} {B : Nat} {vf vt vs vf' : Value} {F F' T S : List KK} (h : Own3 w B vf vt vs F T S) (hB : B ≤ w.heap.size) (ho : w'.ownsRow w.heap.size 31 2 vf' F'.length (flatK F')) (hne : F' ≠ []) (hg : w.grownBy w' none) :
    Own3 w' B vf' vt vs F' T S := by
  obtain ⟨h1, h2, h3, h4, h5, h6, h7, _⟩ := h
  have k : ∀ {v : Value} {n : Nat} {xs : List Value}, w.ownsRow B 31 2 v n xs → w'.ownsRow B 31 2 v n xs := fun h => h.kept hg (by rename_i v _ _; cases hv : v.ownBlock with | none => exact .inl rfl | some q => exact .inr (by simp))
  refine ⟨⟨ho.1, ?_⟩, k h2, k h3, ?_, h5, h6, h7, (fun h => absurd h hne)⟩
  · rcases ho.2 with h | ⟨g, c, cur, e, hb, r⟩
    · exact .inl h
    · exact .inr ⟨g, c, cur, e, Nat.le_trans hB hb, r⟩
  · intro q hq
    have hq1 := (ho.lt q hq).1
    exact ⟨fun e => by have := (h2.lt q e).2; omega, fun e => by have := (h3.lt q e).2; omega⟩
theorem own_rdk {w : World} {B n : Nat} {v : Value} {Z : List KK} (h : w.ownsRow B 31 2 v n (flatK Z)) : RdK w v Z := by
  rcases h.2 with ⟨rfl, hn⟩ | ⟨g, cap, cur, rfl, _⟩
  · have := h.1
    rw [flatK_len] at this
    exact .inl ⟨rfl, List.length_eq_zero_iff.1 (by omega)⟩
  · obtain ⟨r1, r2, r3, r4⟩ := rowL_own h
    subst r3
    exact rdk_rowL r1 r4
end Go.Proofs.YtoccmiinkfhohaaGreat
namespace Go.Proofs.YtoccmiinkfhohaaGreat
open Go.RowKit Go.Shelf Go.Lib Go.Sort Go.Proofs
set_option maxHeartbeats 1000000
set_option maxRecDepth 100000

theorem c_Order4R (v : Value) (l : List KK) (hl : l.length ≤ 1099511627776) (hsm : Small l) (w : World) (h : RdK w v l) :
    Calls Tryz.prog 55 #[v] w fun e w' => ∃ v' Z, e = .returned v' ∧ (∃ n, w'.ownsRow w.heap.size 31 2 v' n (flatK Z)) ∧ Srt Z ∧ Eqv Z l ∧ Below w.heap.size w w' := by
  obtain ⟨p, c, rfl, hpc, hlc, hcell⟩ := h.form
  obtain ⟨i0, hi0, hz0, hz1, hz2⟩ := info_parts infoKey
  have hL : ∀ k, k < l.length → ∃ x b o, l[k]? = some x ∧ x.1.size ≤ 1099511627776 ∧ p = some ⟨b, o, none⟩ ∧ ∀ y, Below w.heap.size w y → y.cell? ⟨b, o + k * 2, none⟩ = some (.string x.1) ∧ y.cell? ⟨b, o + k * 2 + 1, none⟩ = some (.int .i64 x.2) := by
    intro k hk
    have hx : l[k]? = some l[k] := List.getElem?_eq_getElem hk
    obtain ⟨b, o, q1, q2, q3⟩ := hcell k _ hx
    exact ⟨_, b, o, hx, hsm _ (List.getElem_mem hk), q1, q3⟩
  have hO0 := own3_start w
  have hR0 := ref_start l
  have hsm := Lib.hid hsm
  have hL := Lib.hid hL
  clear h hpc hcell hlc
  go_enter Tryz.func55, Tryz.ntmps55
  go_wp2
  go_loopw [3, 4, 5, 15] (fun vf vt vs vk wr => ∃ (k : Nat) (F T S : List KK), k ≤ l.length ∧ vk = .int .i64 (k : Int) ∧ RefI l k F T S ∧ Own3 wr w.heap.size vf vt vs F T S ∧ Below w.heap.size w wr) (fun _ _ _ vk _ => l.length - (intOf vk).toNat)
  case atStart => exact ⟨0, [], [], [], by omega, rfl, hR0, hO0, Below.refl _ _⟩
  case round =>
    obtain ⟨k, F, T, S, hk, rfl, hR, hO, hbel⟩ := hrel
    clear hR0 hO0
    rcases Nat.lt_or_ge k l.length with hlt | hge
    · obtain ⟨x, b, o, hx, hxs, rfl, hy⟩ := hL.out k hlt
      obtain ⟨d1, d2⟩ := hy wr hbel
      have hlt' : (k : Int) < (l.length : Int) := by omega
      have hFl := hR.len hk
      have hsz0 := hbel.size
      by_cases hsym : 0 < x.2
      · have hR2 := Lib.hid (ref_sym hR hx hsym)
        have hbelA := hbel.alloc hbel.size (.cells #[.string x.1, .int .i64 x.2] 31)
        have hOA := hO.keep ((Below.refl _ wr).alloc (Nat.le_refl _) (.cells #[.string x.1, .int .i64 x.2] 31))
        have hOB := hOA.keep ((Below.refl _ _).alloc (Nat.le_refl _) (.cells #[.string x.1, .int .i64 x.2] 31))
        have hown := hOB.2.2.1
        have hO1 := Lib.hid hOB
        have hszA := hbelA.size
        clear hR hO hOA hOB hx hy
        go_wp2_with (at_builtin; refine wpList_append_lies _ (by rfl) _ _ _ (by rfl) w.heap.size 31 i0 _ 2 24 Tryz.underlying56 hi0 hz0 hz1 hz2 rfl (by omega) u5 S.length (flatK S) (by rfl) hown ⟨wr.heap.size + 1, 0, none⟩ 1 1 [.string x.1, .int .i64 x.2] (by rfl) (by rfl) (World.news_of_block (cs := #[.string x.1, .int .i64 x.2]) (t := 31) (fr := (0, 0)) (by exact heap_alloc2_new wr _ _)) (by simp [Value.oneCell']) (by omega) (by unfold maxLen; omega) (by omega) (by simp; omega) _ rfl ?_; intro gg cap w2 hown2 hgrow hat hlt2)
        have hO3 := Lib.hid (own3_sym hO1.out rfl hown2 hgrow hat)
        have hbel2 := Lib.hid ((hbelA.alloc hszA _).grown hgrow (by simp; omega) (own_base hown))
        go_roundw
        case rel => exact ⟨k + 1, F, T, S ++ [x], by omega, by go_num, hR2.out, hO3.out, hbel2.out⟩
        case measure => simp [intOf]; omega
      · have hbelA := hbel.alloc hbel.size (.cells #[.string x.1, .int .i64 x.2] 31)
        have hOA := hO.keep ((Below.refl _ wr).alloc (Nat.le_refl _) (.cells #[.string x.1, .int .i64 x.2] 31))
        have hI := Lib.hid (c_Index4 x.1 hxs (wr.alloc (.cells #[.string x.1, .int .i64 x.2] 31)))
        have hxk := heap_alloc_new wr (.cells #[.string x.1, .int .i64 x.2] 31)
        cases hix : idxOf (U x.1) with
        | none =>
          rw [hix] at hI
          unfold idxV at hI
          simp only [Option.getD, Option.isSome] at hI
          have hR2 := Lib.hid (ref_txt hR hx hsym hix)
          clear hR hO hx hy hix
          have hbelA := Lib.hid hbelA
          have hOA := Lib.hid hOA
          have hxk := Lib.hid hxk
          go_wp2_with fail
          refine hI.out.mono ?_
          rintro e w1 ⟨rfl, hb1⟩
          have hh1 := (hb1.block wr.heap.size (by simp)).trans hxk.out
          have e1 : w1.cell? ⟨wr.heap.size, 0, none⟩ = some (.string x.1) := by rw [cell_of_row _ _ _ _ _ _ hh1]; rfl
          have e2 : w1.cell? ⟨wr.heap.size, 1, none⟩ = some (.int .i64 x.2) := by rw [cell_of_row _ _ _ _ _ _ hh1]; rfl
          have hbel1 := hbelA.out.trans (hb1.mono hbelA.out.size)
          have hOB := (hOA.out.keep hb1).keep ((Below.refl _ w1).alloc (Nat.le_refl _) (.cells #[.string x.1, .int .i64 x.2] 31))
          have hown := hOB.2.1
          have hO1 := Lib.hid hOB
          have hsz1 := hbel1.size
          clear hb1 hh1 hOB hI
          go_wp2_with (at_builtin; refine wpList_append_lies _ (by rfl) _ _ _ (by rfl) w.heap.size 31 i0 _ 2 24 Tryz.underlying56 hi0 hz0 hz1 hz2 rfl (by omega) u4 T.length (flatK T) (by rfl) hown ⟨w1.heap.size, 0, none⟩ 1 1 [.string x.1, .int .i64 x.2] (by rfl) (by rfl) (World.news_of_block (cs := #[.string x.1, .int .i64 x.2]) (t := 31) (fr := (0, 0)) (by exact heap_alloc_new w1 _)) (by simp [Value.oneCell']) (by omega) (by unfold maxLen; omega) (by omega) (by simp; omega) _ rfl ?_; intro gg cap w2 hown2 hgrow hat hlt2)
          have hO3 := Lib.hid (own3_txt hO1.out rfl hown2 hgrow hat)
          have hbel2 := Lib.hid ((hbel1.alloc hsz1 _).grown hgrow (by simp; omega) (own_base hown))
          go_roundw
          case rel => exact ⟨k + 1, F, T ++ [x], S, by omega, by go_num, hR2.out, hO3.out, hbel2.out⟩
          case measure => simp [intOf]; omega
        | some m =>
          rw [hix] at hI
          unfold idxV at hI
          simp only [Option.getD, Option.isSome] at hI
          obtain ⟨hrx, hxx, hmle⟩ := rk_idx hsym hix
          have hF : ∀ j, j < F.length → ∃ y, F[j]? = some y ∧ y.1.size ≤ 1099511627776 ∧ ∃ n : Nat, idxOf (U y.1) = some n ∧ rk y = n := by
            intro j hj
            have h1 : F[j]? = some F[j] := List.getElem?_eq_getElem hj
            have h2 := hR.2.1 _ (List.getElem_mem hj)
            exact ⟨_, h1, hsm.out _ (hR.mem (List.getElem_mem hj)), _, h2.2, rfl⟩
          have hSF := hR.1
          have hR2 := fun F1 F2 (e : F = F1 ++ F2) => Lib.hid (fun h1 h2 => ref_idx (e ▸ hR) hx hsym hix h1 h2)
          have hF := Lib.hid hF
          have hSF := Lib.hid hSF
          clear hR hO hx hy hix
          have hbelA := Lib.hid hbelA
          have hOA := Lib.hid hOA
          have hxk := Lib.hid hxk
          have hvf : (F = [] ∧ u3 = .slice none 0 0) ∨ (0 < F.length ∧ ∃ g cq, u3 = .slice (some ⟨g, 0, none⟩) F.length cq ∧ F.length ≤ cq ∧ g < wr.heap.size + 1 ∧ ∀ y, Below (wr.alloc (.cells #[.string x.1, .int .i64 x.2] 31)).heap.size (wr.alloc (.cells #[.string x.1, .int .i64 x.2] 31)) y → ∀ j z, (flatK F)[j]? = some z → y.cell? ⟨g, j, none⟩ = some z) := by
            by_cases hF0 : F = []
            · exact .inl ⟨hF0, hOA.out.2.2.2.2.2.2.2 hF0⟩
            · have hpos : 0 < F.length := List.length_pos_iff.2 hF0
              obtain ⟨g, cq, e, hgB, hgl⟩ := hOA.out.1.form hpos
              have ho := hOA.out.1
              rw [e] at ho
              refine .inr ⟨hpos, g, cq, e, (rowL_own ho).2.2.2, by simpa using hgl, fun y hy j z hz => ?_⟩
              have := (own_below' ho hy).cells (g := g) rfl j z hz
              rw [add_zero_addr] at this
              exact this
          have hxc : ∀ y, Below (wr.alloc (.cells #[.string x.1, .int .i64 x.2] 31)).heap.size (wr.alloc (.cells #[.string x.1, .int .i64 x.2] 31)) y → y.cell? ⟨wr.heap.size, 0, none⟩ = some (.string x.1) ∧ y.cell? ⟨wr.heap.size, 1, none⟩ = some (.int .i64 x.2) := by
            intro y hy
            have hh := (hy.block wr.heap.size (by simp)).trans hxk.out
            exact ⟨by rw [cell_of_row _ _ _ _ _ _ hh]; rfl, by rw [cell_of_row _ _ _ _ _ _ hh]; rfl⟩
          have hxc := Lib.hid hxc
          have hR2 := Lib.hid hR2
          rcases hvf with ⟨hF0, rfl⟩ | ⟨hpos, g, cq, rfl, hcq, hgl, hgc⟩
          · subst hF0
            go_wp2_with fail
            refine hI.out.mono ?_
            rintro e w1 ⟨rfl, hb1⟩
            obtain ⟨e1, e2⟩ := hxc.out w1 hb1
            have hbel1 := Lib.hid (hbelA.out.trans (hb1.mono hbelA.out.size))
            have hO1 := Lib.hid (hOA.out.keep hb1)
            clear hb1 hI hOA hbelA hxk hxc
            go_wp2
            go_loopw [10] (fun va wr2 => va = .int .i64 0 ∧ wr2 = w1) (fun va _ => 0)
            case atStart => exact ⟨rfl, rfl⟩
            case round =>
              obtain ⟨rfl, rfl⟩ := hrel
              go_wp2
              go_region_law (first | (refine step_append_grows rfl _ _ _ rfl 31 i0 _ 2 24 Tryz.underlying56 hi0 hz0 hz1 hz2 rfl (by omega) none 0 0 [] rfl (fun _ => ⟨rfl, rfl⟩) rfl (fun b hb => by cases hb) ⟨wr.heap.size, 0, none⟩ 1 1 [.string x.1, .int .i64 x.2] rfl rfl (World.news_of_block (cs := #[.string x.1, .int .i64 x.2]) (t := 31) (fr := (0, 0)) (by exact heap_alloc_new _ _)) (by simp [Value.oneCell']) (by omega) (by unfold maxLen; omega) (by omega) ?_; intro v' w2 hown2 hgrow))
              have hO2 := own3_fst (F' := [x]) (hO1.out.keep ((Below.refl _ wr).drew.alloc (Nat.le_refl _) (.cells #[.string x.1, .int .i64 x.2] 31))) (by have := hbel1.out.size; simp; omega) hown2 (by simp) hgrow
              have hbel2 := Lib.hid (((hbel1.out.drew).alloc (by exact hbel1.out.size) (.cells #[.string x.1, .int .i64 x.2] 31)).grown hgrow (by have := hbel1.out.size; simp; omega) (fun k hk => by cases hk))
              have hO2 := Lib.hid hO2
              have hR3 := Lib.hid ((hR2.out [] [] rfl).out (by simp) (by simp))
              clear hown2 hgrow hO1 hbel1
              go_wp2
              go_roundw
              case rel => exact ⟨k + 1, [x], T, S, by omega, by go_num, hR3.out, hO2.out, hbel2.out⟩
              case measure => simp [intOf]; omega
          · have hzz : ∀ y, Below (wr.alloc (.cells #[.string x.1, .int .i64 x.2] 31)).heap.size (wr.alloc (.cells #[.string x.1, .int .i64 x.2] 31)) y → ∀ j z, F[j]? = some z → y.cell? ⟨g, j * 2, none⟩ = some (.string z.1) ∧ y.cell? ⟨g, j * 2 + 1, none⟩ = some (.int .i64 z.2) := by
              intro y hy j z hz
              obtain ⟨q1, q2⟩ := flatK_get F j z hz
              exact ⟨hgc y hy _ _ q1, hgc y hy _ _ q2⟩
            replace hgc := Lib.hid hgc
            replace hzz := Lib.hid hzz
            have hFl2 : F.length ≤ 1099511627776 := by omega
            go_wp2_with fail
            refine hI.out.mono ?_
            rintro e w1 ⟨rfl, hb1⟩
            have hbel1 := Lib.hid (hbelA.out.trans (hb1.mono hbelA.out.size))
            have hO1 := Lib.hid (hOA.out.keep hb1)
            have hb1 := Lib.hid hb1
            clear hI hOA hbelA hxk
            go_wp2
            go_loopw [10] (fun va wr2 => ∃ a : Nat, a ≤ F.length ∧ va = .int .i64 (a : Int) ∧ (∀ y ∈ F.drop a, rk x < rk y) ∧ Below w1.heap.size w1 wr2) (fun va _ => (intOf va).toNat)
            case atStart => exact ⟨F.length, Nat.le_refl _, rfl, by simp, Below.refl _ _⟩
            case round =>
              obtain ⟨a, ha, rfl, hdr, hb2⟩ := hrel
              have hdr := Lib.hid hdr
              have hb12 := below_after hb1.out hb2
              have hb2 := Lib.hid hb2
              obtain ⟨e1, e2⟩ := hxc.out _ hb12
              have hb12 := Lib.hid hb12
              rcases Nat.eq_zero_or_pos a with ha0 | ha0
              · subst ha0
                have hc2 := Lib.hid (fun (y : World) (hy : Below w1.heap.size w1 y) (j : Nat) z (hz : (flatK (F))[j]? = some z) => show y.cell? ((⟨g, 0, none⟩ : Addr).add j) = some z by
                  rw [add_zero_addr]; exact hgc.out y (below_after hb1.out hy) j z hz)
                have hc1 := Lib.hid (fun (y : World) (hy : Below w1.heap.size w1 y) (j : Nat) z (hz : (flatK ([]))[j]? = some z) => show y.cell? ((⟨g, 0, none⟩ : Addr).add j) = some z by
                  simp [flatK] at hz)
                have hW := Lib.hid (below_after hb2.out ((Below.refl _ wr).drew.alloc (Nat.le_refl _) (.cells #[.string x.1, .int .i64 x.2] 31)))
                go_wp2
                go_region_law (first | (refine step_append_grows rfl _ _ _ rfl 31 i0 _ 2 24 Tryz.underlying56 hi0 hz0 hz1 hz2 rfl (by omega) (some ⟨wr.heap.size, 0, none⟩) 1 1 [.string x.1, .int .i64 x.2] rfl (fun h => by cases h) rfl (fun b hb => by cases hb; exact World.news_of_block (cs := #[.string x.1, .int .i64 x.2]) (t := 31) (fr := (0, 0)) (by exact heap_alloc_new _ _)) ⟨g, 0, none⟩ (F.length) (cq) (flatK (F)) rfl (flatK_len F) (hc2.out _ hW.out) (flatK_one _) (by omega) (by unfold maxLen; omega) (by omega) ?_; intro v6 w5 hown6 hgrow6; obtain ⟨g6, c6, rfl, _, hl6⟩ := hown6.form (by omega); have hb5 := Lib.hid (below_after hW.out ((Below.refl _ _).grown hgrow6 (Nat.le_refl _) (fun k hk => by cases hk))); have hcc := hown6.cells (g := g6) rfl) | (refine step_append_grows rfl _ _ _ rfl 31 i0 _ 2 24 Tryz.underlying56 hi0 hz0 hz1 hz2 rfl (by omega) (some ⟨g, 0, none⟩) 0 0 (flatK ([])) rfl (fun h => by cases h) rfl (fun b hb => by cases hb; exact hc1.out _ hb5.out) ⟨g6, 0, none⟩ (1 + (F.length)) c6 ([.string x.1, .int .i64 x.2] ++ flatK (F)) rfl (by simp [flatK_len]; omega) hcc (flatK_one (x :: (F))) (by omega) (by unfold maxLen; omega) (by omega) ?_; intro v7 w6 hown7 hgrow7))
                have hO2 := own3_fst (F' := [] ++ x :: (F)) (hO1.out.keep hb5.out) (by have := hbel1.out.size; have := hb5.out.size; omega) (by rw [show ([] ++ x :: F : List KK).length = 0 + (1 + F.length) from (by simp; omega)]; exact hown7) (by simp) hgrow7
                have hbel2 := Lib.hid ((hbel1.out.trans (hb5.out.mono hbel1.out.size)).grown hgrow7 (by have := hbel1.out.size; have := hb5.out.size; omega) (fun k hk => by cases hk))
                have hO2 := Lib.hid hO2
                have hR3 := Lib.hid ((hR2.out ([]) (F) (rfl)).out (by simp) (by simpa using hdr.out))
                clear hown6 hgrow6 hown7 hgrow7 hO1 hbel1 hcc hb5 hW
                go_wp2
                go_roundw
                case rel => exact ⟨k + 1, [] ++ x :: (F), T, S, by omega, by go_num, hR3.out, hO2.out, hbel2.out⟩
                case measure => simp [intOf]; omega
              · obtain ⟨ap, rfl⟩ : ∃ ap, a = ap + 1 := ⟨a - 1, by omega⟩
                obtain ⟨y, hy1, hy2, n, hy3, hy4⟩ := hF.out ap (by omega)
                obtain ⟨c1, c2⟩ := hzz.out wr hb12.out ap y hy1
                have hw1 : IntKind.i64.wrap (ap : Int) = (ap : Int) := by rw [IntKind.wrap_i64]; omega
                have hp1 : (0 : Int) < (ap : Int) + 1 := by omega
                have hp2 : (ap : Int) < (F.length : Int) := by omega
                have hp3 : (ap : Int) + 1 ≤ (F.length : Int) := by omega
                have hp4 : (ap : Int) + 1 ≤ (cq : Int) := by omega
                have hp5 : ((ap : Int) + 1).toNat = ap + 1 := by omega
                have hp6 : (0 : Int) ≤ (ap : Int) + 1 := by omega
                have hI2 := Lib.hid (c_Index4 y.1 hy2 wr)
                rw [hy3] at hI2
                unfold idxV at hI2
                simp only [Option.getD, Option.isSome] at hI2
                have hdc : F.drop ap = y :: F.drop (ap + 1) := by
                  obtain ⟨h1, h2⟩ := List.getElem?_eq_some_iff.1 hy1
                  rw [List.drop_eq_getElem_cons h1, h2]
                have htc : F.take (ap + 1) = F.take ap ++ [y] := by rw [List.take_add_one, hy1]; rfl
                have hsplit := Lib.hid (List.take_append_drop (ap + 1) F).symm
                have hlenT : (F.take (ap + 1)).length = ap + 1 := by rw [List.length_take]; omega
                have hlenT := Lib.hid hlenT
                by_cases hnm : n ≤ m
                · have hT1 := Lib.hid (fun z (hz : z ∈ F.take (ap + 1)) => show rk z ≤ rk x from Nat.le_trans (last_ge (A := F.take ap) (x := y) (B := F.drop (ap + 1)) hSF.out (by rw [← hdc, List.take_append_drop]) (htc ▸ hz)) (by omega))
                  have hnm' : (n : Int) ≤ (m : Int) := by omega
                  clear hdc htc hy1 hy3 hy4 hnm
                  go_wp2_with fail
                  refine hI2.out.mono ?_
                  rintro e w3 ⟨rfl, hb3⟩
                  have hb13 := below_after hb12.out hb3
                  obtain ⟨e1, e2⟩ := hxc.out _ hb13
                  have hb3 := below_after hb2.out hb3
                  clear hI2 hb13 c1 c2
                  rcases Nat.lt_or_ge (ap + 1) F.length with hm | hm
                  · have hcne : ¬ cq = ap + 1 := by omega
                    have hc2 := Lib.hid (fun (y : World) (hy : Below w1.heap.size w1 y) (j : Nat) z (hz : (flatK (F.drop (ap + 1)))[j]? = some z) => show y.cell? ((⟨g, (ap + 1) * 2, none⟩ : Addr).add j) = some z by
                      obtain ⟨hz1, hz2⟩ := List.getElem?_eq_some_iff.1 hz
                      have e1 : (⟨g, (ap + 1) * 2, none⟩ : Addr).add j = ⟨g, (ap + 1) * 2 + j, none⟩ := by unfold Addr.add; split <;> simp_all
                      rw [e1]
                      refine hgc.out y (below_after hb1.out hy) _ z ?_
                      rw [hsplit.out, flatK_app, List.getElem?_append_right (by rw [flatK_len, hlenT.out]; omega), flatK_len, hlenT.out, Nat.add_sub_cancel_left]
                      exact hz)
                    have hc1 := Lib.hid (fun (y : World) (hy : Below w1.heap.size w1 y) (j : Nat) z (hz : (flatK (F.take (ap + 1)))[j]? = some z) => show y.cell? ((⟨g, 0, none⟩ : Addr).add j) = some z by
                      rw [add_zero_addr]
                      refine hgc.out y (below_after hb1.out hy) _ z ?_
                      obtain ⟨hz1, hz2⟩ := List.getElem?_eq_some_iff.1 hz
                      rw [hsplit.out, flatK_app, List.getElem?_append_left hz1]
                      exact hz)
                    have hW := Lib.hid (below_after hb3 ((Below.refl _ w3).drew.alloc (Nat.le_refl _) (.cells #[.string x.1, .int .i64 x.2] 31)))
                    go_wp2
                    go_region_law (first | (refine step_append_grows rfl _ _ _ rfl 31 i0 _ 2 24 Tryz.underlying56 hi0 hz0 hz1 hz2 rfl (by omega) (some ⟨w3.heap.size, 0, none⟩) 1 1 [.string x.1, .int .i64 x.2] rfl (fun h => by cases h) rfl (fun b hb => by cases hb; exact World.news_of_block (cs := #[.string x.1, .int .i64 x.2]) (t := 31) (fr := (0, 0)) (by exact heap_alloc_new _ _)) ⟨g, (ap + 1) * 2, none⟩ (F.length - (ap + 1)) (cq - (ap + 1)) (flatK (F.drop (ap + 1))) rfl (by rw [flatK_len, List.length_drop]) (hc2.out _ hW.out) (flatK_one _) (by omega) (by unfold maxLen; omega) (by omega) ?_; intro v6 w5 hown6 hgrow6; obtain ⟨g6, c6, rfl, _, hl6⟩ := hown6.form (by omega); have hb5 := Lib.hid (below_after hW.out ((Below.refl _ _).grown hgrow6 (Nat.le_refl _) (fun k hk => by cases hk))); have hcc := hown6.cells (g := g6) rfl) | (refine step_append_grows rfl _ _ _ rfl 31 i0 _ 2 24 Tryz.underlying56 hi0 hz0 hz1 hz2 rfl (by omega) (some ⟨g, 0, none⟩) (ap + 1) (ap + 1) (flatK (F.take (ap + 1))) rfl (fun h => by cases h) (by rw [flatK_len, hlenT.out]) (fun b hb => by cases hb; exact hc1.out _ hb5.out) ⟨g6, 0, none⟩ (1 + (F.length - (ap + 1))) c6 ([.string x.1, .int .i64 x.2] ++ flatK (F.drop (ap + 1))) rfl (by simp [flatK_len]; omega) hcc (flatK_one (x :: (F.drop (ap + 1)))) (by omega) (by unfold maxLen; omega) (by omega) ?_; intro v7 w6 hown7 hgrow7))
                    have hO2 := own3_fst (F' := F.take (ap + 1) ++ x :: (F.drop (ap + 1))) (hO1.out.keep hb5.out) (by have := hbel1.out.size; have := hb5.out.size; omega) (by rw [show (F.take (ap + 1) ++ x :: F.drop (ap + 1)).length = ap + 1 + (1 + (F.length - (ap + 1))) from (by simp; omega), flatK_app]; exact hown7) (by simp) hgrow7
                    have hbel2 := Lib.hid ((hbel1.out.trans (hb5.out.mono hbel1.out.size)).grown hgrow7 (by have := hbel1.out.size; have := hb5.out.size; omega) (fun k hk => by cases hk))
                    have hO2 := Lib.hid hO2
                    have hR3 := Lib.hid ((hR2.out (F.take (ap + 1)) (F.drop (ap + 1)) (hsplit.out)).out hT1.out hdr.out)
                    clear hown6 hgrow6 hown7 hgrow7 hO1 hbel1 hcc hb5 hW
                    go_wp2
                    go_roundw
                    case rel => exact ⟨k + 1, F.take (ap + 1) ++ x :: (F.drop (ap + 1)), T, S, by omega, by go_num, hR3.out, hO2.out, hbel2.out⟩
                    case measure => simp [intOf]; omega
                  · obtain hm : F.length = ap + 1 := by omega
                    by_cases hcq1 : cq = ap + 1
                    · skip
                      have hc1 := Lib.hid (fun (y : World) (hy : Below w1.heap.size w1 y) (j : Nat) z (hz : (flatK (F.take (ap + 1)))[j]? = some z) => show y.cell? ((⟨g, 0, none⟩ : Addr).add j) = some z by
                        rw [add_zero_addr]
                        refine hgc.out y (below_after hb1.out hy) _ z ?_
                        obtain ⟨hz1, hz2⟩ := List.getElem?_eq_some_iff.1 hz
                        rw [hsplit.out, flatK_app, List.getElem?_append_left hz1]
                        exact hz)
                      have hW := Lib.hid (below_after hb3 ((Below.refl _ w3).drew.alloc (Nat.le_refl _) (.cells #[.string x.1, .int .i64 x.2] 31)))
                      go_wp2
                      go_region_law (first | (refine step_append_grows rfl _ _ _ rfl 31 i0 _ 2 24 Tryz.underlying56 hi0 hz0 hz1 hz2 rfl (by omega) (some ⟨g, 0, none⟩) (ap + 1) (ap + 1) (flatK (F.take (ap + 1))) rfl (fun h => by cases h) (by rw [flatK_len, hlenT.out]) (fun b hb => by cases hb; exact hc1.out _ hW.out) ⟨w3.heap.size, 0, none⟩ 1 1 [.string x.1, .int .i64 x.2] rfl rfl (World.news_of_block (cs := #[.string x.1, .int .i64 x.2]) (t := 31) (fr := (0, 0)) (by exact heap_alloc_new _ _)) (by simp [Value.oneCell']) (by omega) (by unfold maxLen; omega) (by omega) ?_; intro v7 w6 hown7 hgrow7))
                      have hO2 := own3_fst (F' := F.take (ap + 1) ++ [x]) (hO1.out.keep hW.out) (by have := hbel1.out.size; have := hW.out.size; omega) (by rw [show (F.take (ap + 1) ++ [x]).length = ap + 1 + 1 from (by simp; omega), flatK_app]; exact hown7) (by simp) hgrow7
                      have hbel2 := Lib.hid ((hbel1.out.trans (hW.out.mono hbel1.out.size)).grown hgrow7 (by have := hbel1.out.size; have := hW.out.size; omega) (fun k hk => by cases hk))
                      have hO2 := Lib.hid hO2
                      have hR3 := Lib.hid ((hR2.out (F.take (ap + 1)) [] (by rw [List.append_nil, List.take_of_length_le (by omega)])).out hT1.out (by simp))
                      clear hown7 hgrow7 hO1 hbel1 hW
                      go_wp2
                      go_roundw
                      case rel => exact ⟨k + 1, F.take (ap + 1) ++ [x], T, S, by omega, by go_num, hR3.out, hO2.out, hbel2.out⟩
                      case measure => simp [intOf]; omega
                    · skip
                      have hc1 := Lib.hid (fun (y : World) (hy : Below w1.heap.size w1 y) (j : Nat) z (hz : (flatK (F.take (ap + 1)))[j]? = some z) => show y.cell? ((⟨g, 0, none⟩ : Addr).add j) = some z by
                        rw [add_zero_addr]
                        refine hgc.out y (below_after hb1.out hy) _ z ?_
                        obtain ⟨hz1, hz2⟩ := List.getElem?_eq_some_iff.1 hz
                        rw [hsplit.out, flatK_app, List.getElem?_append_left hz1]
                        exact hz)
                      have hW := Lib.hid (below_after hb3 ((Below.refl _ w3).drew.alloc (Nat.le_refl _) (.cells #[.string x.1, .int .i64 x.2] 31)))
                      go_wp2
                      go_region_law (first | (refine step_append_grows rfl _ _ _ rfl 31 i0 _ 2 24 Tryz.underlying56 hi0 hz0 hz1 hz2 rfl (by omega) (some ⟨g, 0, none⟩) (ap + 1) (ap + 1) (flatK (F.take (ap + 1))) rfl (fun h => by cases h) (by rw [flatK_len, hlenT.out]) (fun b hb => by cases hb; exact hc1.out _ hW.out) ⟨w3.heap.size, 0, none⟩ 1 1 [.string x.1, .int .i64 x.2] rfl rfl (World.news_of_block (cs := #[.string x.1, .int .i64 x.2]) (t := 31) (fr := (0, 0)) (by exact heap_alloc_new _ _)) (by simp [Value.oneCell']) (by omega) (by unfold maxLen; omega) (by omega) ?_; intro v7 w6 hown7 hgrow7))
                      have hO2 := own3_fst (F' := F.take (ap + 1) ++ [x]) (hO1.out.keep hW.out) (by have := hbel1.out.size; have := hW.out.size; omega) (by rw [show (F.take (ap + 1) ++ [x]).length = ap + 1 + 1 from (by simp; omega), flatK_app]; exact hown7) (by simp) hgrow7
                      have hbel2 := Lib.hid ((hbel1.out.trans (hW.out.mono hbel1.out.size)).grown hgrow7 (by have := hbel1.out.size; have := hW.out.size; omega) (fun k hk => by cases hk))
                      have hO2 := Lib.hid hO2
                      have hR3 := Lib.hid ((hR2.out (F.take (ap + 1)) [] (by rw [List.append_nil, List.take_of_length_le (by omega)])).out hT1.out (by simp))
                      clear hown7 hgrow7 hO1 hbel1 hW
                      go_wp2
                      go_roundw
                      case rel => exact ⟨k + 1, F.take (ap + 1) ++ [x], T, S, by omega, by go_num, hR3.out, hO2.out, hbel2.out⟩
                      case measure => simp [intOf]; omega
                · have hd2 := Lib.hid (show ∀ z ∈ F.drop ap, rk x < rk z by
                    rw [hdc]
                    intro z hz
                    rcases List.mem_cons.1 hz with rfl | hz
                    · omega
                    · exact hdr.out z hz)
                  have hnm' : ¬ (n : Int) ≤ (m : Int) := by omega
                  clear hdc htc hy1 hy3 hy4 hnm
                  go_wp2_with fail
                  refine hI2.out.mono ?_
                  rintro e w3 ⟨rfl, hb3⟩
                  have hb3 := Lib.hid (below_after hb2.out hb3)
                  clear hI2 c1 c2
                  go_wp2
                  go_roundw
                  case rel => exact ⟨ap, by omega, by go_num, hd2.out, hb3.out⟩
                  case measure => simp [intOf]
    · obtain rfl : k = l.length := by omega
      have hend := ref_end hR
      have hlen := hR.len hk
      have hend := Lib.hid hend
      obtain ⟨q1, q2, q3, q4, q5, q6, q7, q8⟩ := hO
      have hB := hbel.size
      have hFT : flatK (F ++ T) = flatK F ++ flatK T := flatK_app F T
      have hFT := Lib.hid hFT
      have hFTS : flatK (F ++ T ++ S) = flatK (F ++ T) ++ flatK S := flatK_app _ S
      have hFTS := Lib.hid hFTS
      replace q4 := Lib.hid q4
      replace q5 := Lib.hid q5
      have hbel := Lib.hid hbel
      clear hR
      by_cases hT : T = []
      · have hv4 := q6 hT
        subst hT
        subst hv4
        by_cases hS : S = []
        · have hv5 := q7 hS
          subst hS
          subst hv5
          have q1' := Lib.hid q1
          clear q2 q3 q6 q7 q8
          go_wp2_with (first | (at_builtin; refine wpList_append_own_none (by rfl) _ _ _ (by rfl) w.heap.size 31 i0 2 Tryz.underlying56 hi0 u3 F.length (flatK F) rfl q1'.out rfl ?_))
          go_ret
          have e : F ++ [] ++ [] = F := by simp
          rw [e] at hend
          exact ⟨_, F, rfl, ⟨_, q1'.out⟩, hend.out.1, hend.out.2, hbel.out⟩
        · have hSp : 0 < S.length := List.length_pos_iff.2 hS
          obtain ⟨gs, cs, e5, _, _⟩ := q3.form hSp
          subst e5
          have hcs := Lib.hid (q3.cells (g := gs) rfl)
          clear q2 q6 q7 q8
          go_wp2_with (first | (at_builtin; refine wpList_append_own_none (by rfl) _ _ _ (by rfl) w.heap.size 31 i0 2 Tryz.underlying56 hi0 u3 F.length (flatK F) rfl q1 rfl ?_) | (at_builtin; refine wpList_append_lies _ (by rfl) _ _ _ (by rfl) w.heap.size 31 i0 _ 2 24 Tryz.underlying56 hi0 hz0 hz1 hz2 rfl (by omega) u3 F.length (flatK F) rfl q1 ⟨gs, 0, none⟩ S.length cs (flatK S) (by rfl) (flatK_len S) hcs.out (flatK_one _) (by omega) (by unfold maxLen; omega) (by omega) hB _ rfl ?_; intro gg cap w2 hown2 hgrow hat hlt2))
          go_ret
          have e : F ++ [] ++ S = F ++ S := by simp
          rw [e] at hend
          rw [← flatK_app] at hown2
          exact ⟨_, F ++ S, rfl, ⟨_, hown2⟩, hend.out.1, hend.out.2, hbel.out.grown hgrow hB (own_base q1)⟩
      · have hTp : 0 < T.length := List.length_pos_iff.2 hT
        obtain ⟨gt, ct, e4, _, _⟩ := q2.form hTp
        subst e4
        have hct := Lib.hid (q2.cells (g := gt) rfl)
        by_cases hS : S = []
        · have hv5 := q7 hS
          subst hS
          subst hv5
          clear q2 q6 q7 q8
          go_wp2_with (first | (at_builtin; refine wpList_append_lies _ (by rfl) _ _ _ (by rfl) w.heap.size 31 i0 _ 2 24 Tryz.underlying56 hi0 hz0 hz1 hz2 rfl (by omega) u3 F.length (flatK F) rfl q1 ⟨gt, 0, none⟩ T.length ct (flatK T) (by rfl) (flatK_len T) hct.out (flatK_one _) (by omega) (by unfold maxLen; omega) (by omega) hB _ rfl ?_; intro gg cap w2 hown2 hgrow hat hlt2) | (at_builtin; refine wpList_append_own_none (by rfl) _ _ _ (by rfl) w.heap.size 31 i0 2 Tryz.underlying56 hi0 (.slice (some ⟨gg, 0, none⟩) (F.length + T.length) cap) (F.length + T.length) (flatK F ++ flatK T) rfl hown2 rfl ?_))
          go_ret
          have e : F ++ T ++ [] = F ++ T := by simp
          rw [e] at hend
          rw [← flatK_app] at hown2
          exact ⟨_, F ++ T, rfl, ⟨_, hown2⟩, hend.out.1, hend.out.2, hbel.out.grown hgrow hB (own_base q1)⟩
        · have hSp : 0 < S.length := List.length_pos_iff.2 hS
          obtain ⟨gs, cs, e5, _, _⟩ := q3.form hSp
          subst e5
          clear q2 q6 q7 q8
          go_wp2_with (first | (at_builtin; refine wpList_append_lies _ (by rfl) _ _ _ (by rfl) w.heap.size 31 i0 _ 2 24 Tryz.underlying56 hi0 hz0 hz1 hz2 rfl (by omega) u3 F.length (flatK F) rfl q1 ⟨gt, 0, none⟩ T.length ct (flatK T) (by rfl) (flatK_len T) hct.out (flatK_one _) (by omega) (by unfold maxLen; omega) (by omega) hB _ rfl ?_; intro gg cap w2 hown2 hgrow hat hlt2; have hks := row_kept q3 hgrow (fun k hk e => (q4.out k hk).2 e) hat; have hcs := Lib.hid (hks.1.cells (g := gs) rfl)) | (at_builtin; refine wpList_append_lies _ (by rfl) _ _ _ (by rfl) w.heap.size 31 i0 _ 2 24 Tryz.underlying56 hi0 hz0 hz1 hz2 rfl (by omega) (.slice (some ⟨gg, 0, none⟩) (F.length + T.length) cap) (F.length + T.length) (flatK F ++ flatK T) rfl hown2 ⟨gs, 0, none⟩ S.length cs (flatK S) (by rfl) (flatK_len S) hcs.out (flatK_one _) (by omega) (by unfold maxLen; omega) (by omega) (Nat.le_trans hB hgrow.size) _ rfl ?_; intro gg3 cap3 w3 hown3 hgrow3 hat3 hlt3))
          go_ret
          rw [← flatK_app, ← flatK_app, hlen] at hown3
          exact ⟨_, F ++ T ++ S, rfl, ⟨_, hown3⟩, hend.out.1, hend.out.2, (hbel.out.grown hgrow hB (own_base q1)).grown hgrow3 (Nat.le_trans hB hgrow.size) (own_base hown2)⟩
/-- .. the list lies in a new block, if it has any element -/
theorem c_Order4F (v : Value) (l : List KK) (hl : l.length ≤ 1099511627776) (hsm : Small l) (w : World) (h : RdK w v l) :
    Calls Tryz.prog 55 #[v] w fun e w' => ∃ v' Z, e = .returned v' ∧ RdK w' v' Z ∧ Srt Z ∧ Eqv Z l ∧ Below w.heap.size w w' ∧ ∀ p n c, v' = .slice (some p) (n + 1) c → w.heap.size ≤ p.block := by
  refine (c_Order4R v l hl hsm w h).mono ?_
  rintro e w' ⟨v', Z, rfl, ⟨n, h1⟩, h2, h3, h4⟩
  refine ⟨v', Z, rfl, own_rdk h1, h2, h3, h4, fun p m c e => ?_⟩
  rcases h1.2 with ⟨e1, _⟩ | ⟨g, cap, cur, e1, hg, _⟩
  · rw [e1] at e; injection e with e; cases e
  · rw [e1] at e; injection e with e; injection e with e; rw [← e]; exact hg
theorem c_Order4 (v : Value) (l : List KK) (hl : l.length ≤ 1099511627776) (hsm : Small l) (w : World) (h : RdK w v l) :
    Calls Tryz.prog 55 #[v] w fun e w' => ∃ v' Z, e = .returned v' ∧ RdK w' v' Z ∧ Srt Z ∧ Eqv Z l ∧ Below w.heap.size w w' :=
  (c_Order4F v l hl hsm w h).mono fun _ _ ⟨v', Z, h1, h2, h3, h4, h5, _⟩ => ⟨v', Z, h1, h2, h3, h4, h5⟩
end Go.Proofs.YtoccmiinkfhohaaGreat
namespace Go.Proofs.YtoccmiinkfhohaaGreat
open Go.RowKit Go.Shelf Go.Lib Go.Sort Go.Proofs
set_option maxHeartbeats 400000
set_option maxRecDepth 100000

def byteU (u : Nat) : List UInt8 := [UInt8.ofNat (u / 256), UInt8.ofNat (u % 256)]
def bytesU (us : List Nat) : List UInt8 := us.flatMap byteU
def textU (us : List Nat) : ByteArray := ⟨(bytesU us).toArray⟩
def cellsB (l : List UInt8) : List Value := l.map fun b => .int .u8 (b.toNat : Int)
theorem bytesU_len (us : List Nat) : (bytesU us).length = 2 * us.length := by
  induction us with
  | nil => rfl
  | cons u us ih => simp only [bytesU, List.flatMap_cons, List.length_append, List.length_cons] at ih ⊢; rw [ih]; simp [byteU]; omega
theorem bytesU_snoc (us : List Nat) (k u : Nat) (h : us[k]? = some u) : bytesU (us.take (k + 1)) = bytesU (us.take k) ++ byteU u := by
  unfold bytesU
  rw [List.take_add_one, h]; simp
theorem infoU8 : (Tryz.prog.info? 5).map (fun i => (i.zero, i.size, i.bytes)) = some (some (.int .u8 0), 1, 1) := by kernel_rfl
theorem c_MakeR (us : List Nat) (v : Value) (hus : ∀ u ∈ us, u < 65536) (hl : us.length ≤ 549755813888) (w : World) (h : Rd w.heap.size w v (u16s us)) :
    Calls Tryz.prog 77 #[v] w fun e w' => e = .returned (.string (textU us)) ∧ Below w.heap.size w w' := by
  obtain ⟨i0, hi0, hz0, hz1, hz2⟩ := info_parts infoU8
  obtain ⟨p, c, rfl, hcell⟩ := h
  have hlen : (u16s us).length = us.length := by simp [u16s]
  rw [hlen] at hcell ⊢
  have hget : ∀ k, k < us.length → ∃ u g, us[k]? = some u ∧ u < 65536 ∧ p = some ⟨g, 0, none⟩ ∧ ∀ y, Below w.heap.size w y → y.cell? ⟨g, k, none⟩ = some (.int .u16 (u : Int)) := by
    intro k hk
    have hx : us[k]? = some us[k] := List.getElem?_eq_getElem hk
    obtain ⟨g, g1, g2, g3, g4⟩ := hcell k (.int .u16 (us[k] : Int)) (by simp [u16s, hk])
    refine ⟨us[k], g, hx, hus _ (List.getElem_mem hk), g2, fun y hy => ?_⟩
    rw [hy.cell (p := ⟨g, k, none⟩) (by exact g1)]
    exact g4
  have hsn := bytesU_snoc us
  have hbl : ∀ k, (bytesU (us.take k)).length = 2 * (us.take k).length := fun k => bytesU_len _
  have hend : bytesU (us.take us.length) = bytesU us := by rw [List.take_length]
  have h0 : bytesU (us.take 0) = [] := rfl
  unfold textU
  generalize bytesU us = E at *
  generalize hF : (fun k => bytesU (us.take k)) = F at *
  have hF' : ∀ k, bytesU (us.take k) = F k := fun k => by rw [← hF]
  simp only [hF'] at hsn hbl hend h0
  have hFl : ∀ k, k ≤ us.length → (F k).length = 2 * k := fun k hk => by rw [hbl, List.length_take]; omega
  clear hcell hlen hus hF hF' hbl
  generalize us.length = n at *
  replace hget := Lib.hid hget
  replace hsn := Lib.hid hsn
  replace hend := Lib.hid hend
  replace h0 := Lib.hid h0
  replace hFl := Lib.hid hFl
  go_enter Tryz.func77, Tryz.ntmps77
  go_wp2
  go_loopw [3, 8] (fun vb vk wr => ∃ k : Nat, k ≤ n ∧ vk = .int .i64 (k : Int) ∧ wr.ownsRow w.heap.size 5 1 vb (2 * k) (cellsB (F k)) ∧ Below w.heap.size w wr) (fun _ vk _ => n - (intOf vk).toNat)
  case atStart => exact ⟨0, by omega, rfl, ⟨by rw [h0.out]; rfl, .inl ⟨rfl, rfl⟩⟩, Below.refl _ _⟩
  case round =>
    obtain ⟨k, hk, rfl, hown, hbel⟩ := hrel
    rcases Nat.lt_or_ge k n with hlt | hge
    · obtain ⟨u, g, hu, hu2, rfl, hy⟩ := hget.out k hlt
      have d1 := hy wr hbel
      have hs := Lib.hid (hsn.out k u hu)
      clear hu hy
      have hk2 := Lib.hid (hFl.out k hk)
      have hcB : cellsB (F k) ++ [.int .u8 ((u : Int) / 256), .int .u8 ((u : Int) % 256)] = cellsB (F (k + 1)) := by
        rw [hs.out]
        simp only [cellsB, List.map_append, byteU, List.map_cons, List.map_nil]
        congr 2
        · congr 1
          simp; omega
        · congr 2
          simp
      replace hcB := Lib.hid hcB
      go_wp2_with (at_builtin; refine wpList_append_lies _ (by rfl) _ _ _ (by rfl) w.heap.size 5 i0 _ 1 1 Tryz.underlying163 hi0 hz0 hz1 hz2 rfl (by omega) u3 (2 * k) (cellsB (F k)) (by rfl) (hown.alloc _) ⟨wr.heap.size, 0, none⟩ 2 2 [.int .u8 ((u : Int) / 256), .int .u8 ((u : Int) % 256)] (by rfl) (by rfl) (World.news_of_block (cs := #[.int .u8 ((u : Int) / 256), .int .u8 ((u : Int) % 256)]) (t := 5) (fr := (0, 0)) (by exact heap_alloc_new wr _)) (by simp [Value.oneCell']) (by omega) (by unfold maxLen; omega) (by omega) (by have := hbel.size; simp; omega) (wr.heap.size + 1) (by simp) ?_; intro gg cap w2 hown2 hgrow hat hlt2)
      have hown3 : w2.ownsRow w.heap.size 5 1 (.slice (some ⟨gg, 0, none⟩) (2 * k + 2) cap) (2 * (k + 1)) (cellsB (F (k + 1))) := by
        rw [← hcB.out]; exact hown2
      have hbel2 : Below w.heap.size w w2 := (hbel.alloc hbel.size _).grown hgrow (by have := hbel.size; simp; omega) (own_base hown)
      clear hown2 hgrow
      go_roundw
      case rel => exact ⟨k + 1, by omega, by go_num, hown3, hbel2⟩
      case measure => simp [intOf]; omega
    · obtain rfl : k = n := by omega
      have hE := hend.out
      have hkl := hFl.out k hk
      have hcv : (convert 163 29 u3).run Tryz.prog wr = .ok (.string ⟨E.toArray⟩) wr := by
        rw [hE] at hown hkl
        rcases Nat.eq_zero_or_pos k with h1 | h1
        · subst h1
          have hE0 : E = [] := List.length_eq_zero_iff.1 (by omega)
          subst hE0
          rcases hown with ⟨_, ⟨rfl, _⟩ | ⟨g, cap, cur, rfl, _⟩⟩
          · exact run_convert_bytes_nil (P := Tryz.prog) wr 163 5 Tryz.underlying163 Tryz.underlying5 0 0 29 Tryz.underlying29
          · exact run_convert_bytes_back (P := Tryz.prog) wr 163 29 5 ⟨g, 0, none⟩ cap [] Tryz.underlying163 Tryz.underlying5 Tryz.underlying29 (fun j hj => by simp at hj)
        · obtain ⟨g, cap, rfl, _, _⟩ := hown.form (by omega)
          have hc := World.ownsRow.cells hown (g := g) rfl
          rw [← hkl]
          refine run_convert_bytes_back (P := Tryz.prog) wr 163 29 5 ⟨g, 0, none⟩ cap E Tryz.underlying163 Tryz.underlying5 Tryz.underlying29 (fun j hj => hc j _ ?_)
          simp [cellsB, hj]
      clear hown hkl hE
      go_wp2
      go_ret
      exact ⟨rfl, hbel⟩
end Go.Proofs.YtoccmiinkfhohaaGreat
namespace Go.Proofs.YtoccmiinkfhohaaGreat
open Go.RowKit Go.Shelf Go.Lib Go.Sort Go.Proofs
set_option maxHeartbeats 400000
set_option maxRecDepth 100000

theorem c_point (s : ByteArray) (b : Nat) (h0 : 0 < s.size) (he : ub s 0 = b) (hb : b < 128) (w : World) :
    Calls Tryz.prog 75 #[.string s] w fun e w' => e = .returned (.tuple #[.int .i32 (b : Int), .int .i64 1]) ∧ w' = w := by
  have e0 : (s[0]'h0).toNat = b := by rw [← he, ub_get s 0 h0]
  have hb' : (b : Int) < 128 := by omega
  clear he
  go_enter Tryz.func75, Tryz.ntmps75
  go_wp2
  go_ret2
  exact ⟨rfl, rfl⟩
theorem c_Point (r : Nat) (hr : r < 65536) (w : World) :
    Calls Tryz.prog 76 #[.int .i32 (r : Int)] w fun e w' => e = .returned (.slice (some ⟨w.heap.size, 0, none⟩) 1 1) ∧ w' = w.alloc (.cells #[.int .u16 (r : Int)] 142) := by
  have k1 : ¬ (r : Int) < 0 := by omega
  have k2 : ¬ (1114111 : Int) < (r : Int) := by omega
  have k3 : (r : Int) < 65536 := by omega
  have k4 : IntKind.u16.wrap (r : Int) = (r : Int) := by simp [IntKind.wrap, IntKind.bits, IntKind.signed]; omega
  clear hr
  go_enter Tryz.func76, Tryz.ntmps76
  go_wp2
  go_ret
  exact ⟨rfl, rfl⟩
def codes (s : ByteArray) : List Nat := s.data.toList.map UInt8.toNat
theorem codes_len (s : ByteArray) : (codes s).length = s.size := by simp [codes]
theorem codes_get (s : ByteArray) (i : Nat) (h : i < s.size) : (codes s)[i]? = some (ub s i) := by
  have : i < s.data.toList.length := by simpa using h
  unfold codes ub
  rw [List.getElem?_map, List.getElem?_eq_getElem this, List.getD_eq_getElem?_getD, List.getElem?_eq_getElem this]
  rfl
theorem ub_extract (s : ByteArray) (i : Nat) (h : i < s.size) : ub (s.extract i s.size) 0 = ub s i := by
  rw [ub_get _ _ (by simp; omega), ub_get _ _ h, ByteArray.getElem_extract]
  simp
theorem c_OfR (s : ByteArray) (hs : s.size ≤ 549755813888) (ha : ∀ u ∈ codes s, u < 128) (w : World) :
    Calls Tryz.prog 59 #[.string s] w fun e w' => e = .returned (.tuple #[.string (textU (codes s)), .int .i64 0, .int .i64 0]) ∧ Below w.heap.size w w' := by
  obtain ⟨i0, hi0, hz0, hz1, hz2⟩ := info_parts infoU16
  have hget : ∀ k, k < s.size → ∃ u, u < 128 ∧ 0 < (s.extract k s.size).size ∧ ub (s.extract k s.size) 0 = u ∧ u16s ((codes s).take (k + 1)) = u16s ((codes s).take k) ++ [.int .u16 (u : Int)] := by
    intro k hk
    refine ⟨ub s k, ha _ (List.mem_of_getElem? (codes_get s k hk)), by simp; omega, ub_extract s k hk, ?_⟩
    rw [List.take_add_one, codes_get s k hk]
    simp [u16s]
  have hend : (codes s).take s.size = codes s := by rw [← codes_len s, List.take_length]
  have h0 : u16s ((codes s).take 0) = [] := rfl
  have hM := fun v w h => Lib.hid (c_MakeR (codes s) v (fun u hu => by have := ha u hu; omega) (by rw [codes_len]; exact hs) w h)
  have hcl := codes_len s
  generalize codes s = C at *
  replace hget := Lib.hid hget
  replace hend := Lib.hid hend
  replace h0 := Lib.hid h0
  replace hcl := Lib.hid hcl
  clear ha
  go_enter Tryz.func59, Tryz.ntmps59
  go_wp2
  go_loopw [5, 6] (fun vb vk wr => ∃ k : Nat, k ≤ s.size ∧ vk = .int .i64 (k : Int) ∧ wr.ownsRow w.heap.size 142 1 vb k (u16s (C.take k)) ∧ Below w.heap.size w wr) (fun _ vk _ => s.size - (intOf vk).toNat)
  case atStart => exact ⟨0, by omega, rfl, ⟨by rw [h0.out]; rfl, .inl ⟨rfl, rfl⟩⟩, Below.refl _ _⟩
  case round =>
    obtain ⟨k, hk, rfl, hown, hbel⟩ := hrel
    rcases Nat.lt_or_ge k s.size with hlt | hge
    · obtain ⟨u, hu, hx0, hx1, hx2⟩ := hget.out k hlt
      have hP := fun y => Lib.hid (c_point (s.extract k s.size) u hx0 hx1 hu y)
      have hx2 := Lib.hid hx2
      have hQ := fun y => Lib.hid (c_Point u (by omega) y)
      clear hx0 hx1
      have hsz := hbel.size
      go_wp2_with (first | (go_at_call 75; refine (hP _).out.mono ?_; rintro e w1 ⟨rfl, rfl⟩) | (go_at_call 76; refine (hQ _).out.mono ?_; rintro e w1 ⟨rfl, rfl⟩) | (at_builtin; refine wpList_append_lies _ (by rfl) _ _ _ (by rfl) w.heap.size 142 i0 _ 1 2 Tryz.underlying140 hi0 hz0 hz1 hz2 rfl (by omega) u5 k (u16s (C.take k)) (by rfl) (hown.alloc _) ⟨_, 0, none⟩ 1 1 [.int .u16 (u : Int)] (by rfl) (by rfl) (World.news_of_block (cs := #[.int .u16 (u : Int)]) (t := 142) (fr := (0, 0)) (by exact heap_alloc_new _ _)) (by simp [Value.oneCell']) (by omega) (by unfold maxLen; omega) (by omega) (by simp; omega) _ rfl ?_; intro gg cap w2 hown2 hgrow hat hlt2))
      have hown3 : w2.ownsRow w.heap.size 142 1 (.slice (some ⟨gg, 0, none⟩) (k + 1) cap) (k + 1) (u16s (C.take (k + 1))) := by
        rw [hx2.out]; exact hown2
      have hbel2 : Below w.heap.size w w2 := (hbel.alloc hsz _).grown hgrow (by simp; omega) (own_base hown)
      clear hown2 hgrow
      go_roundw
      case rel => exact ⟨k + 1, by omega, by go_num, hown3, hbel2⟩
      case measure => simp [intOf]; omega
    · obtain rfl : k = s.size := by omega
      rw [hend.out] at hown
      have hM2 := Lib.hid ((hM u5 wr (Rd_own hown)).out)
      clear hown
      go_wp2_with (go_at_call 77; refine hM2.out.mono ?_; rintro e w1 ⟨rfl, hb⟩)
      go_ret3
      exact ⟨rfl, below_after hbel hb⟩
theorem c_AsciiR (s : ByteArray) (hs : s.size ≤ 549755813888) (ha : ∀ u ∈ codes s, u < 128) (w : World) :
    Calls Tryz.prog 50 #[.string s] w fun e w' => e = .returned (.string (textU (codes s))) ∧ Below w.heap.size w w' := by
  have hO := Lib.hid (c_OfR s hs ha w)
  clear ha
  go_enter Tryz.func50, Tryz.ntmps50
  go_wp2_with (go_at_call 59; refine hO.out.mono ?_; rintro e w1 ⟨rfl, hb⟩)
  go_ret
  exact ⟨rfl, hb⟩
theorem infoKeyRow : (Tryz.prog.info? 31).map (·.size) = some 2 := by kernel_rfl
theorem c_Name4 (s : ByteArray) (hs : s.size ≤ 549755813888) (ha : ∀ u ∈ codes s, u < 128) (w : World) :
    Calls Tryz.prog 18 #[.string s] w fun e w' => e = .returned (keyV (textU (codes s)) 0) ∧ Below w.heap.size w w' := by
  have hO := Lib.hid (c_AsciiR s hs ha (w.alloc (.cells #[.string ⟨#[]⟩, .int .i64 0] 31)))
  clear ha
  unfold keyV
  go_enter Tryz.func18, Tryz.ntmps18
  go_wp2_with fail
  refine hO.out.mono ?_
  rintro e w1 ⟨rfl, hb⟩
  have hh := (hb.block w.heap.size (by simp)).trans (heap_alloc_new w _)
  have c0 : w1.cell? ⟨w.heap.size, 0, none⟩ = some (.string ⟨#[]⟩) := by rw [cell_of_row w1 w.heap.size 0 _ _ _ hh]; rfl
  have c1 : w1.cell? ⟨w.heap.size, 1, none⟩ = some (.int .i64 0) := by rw [cell_of_row w1 w.heap.size 1 _ _ _ hh]; rfl
  have f0 : w1.frozen? ⟨w.heap.size, 0, none⟩ = false := by simp [World.frozen?, hh]
  have f1 : w1.frozen? ⟨w.heap.size, 1, none⟩ = false := by simp [World.frozen?, hh]
  have h2 := Lib.hid (heap_setCell_same (w1.setCell ⟨w.heap.size, 0, none⟩ (.string (textU (codes s)))) w.heap.size 1 _ 31 (.int .i64 0) (heap_setCell_same w1 w.heap.size 0 _ 31 (.string (textU (codes s))) hh))
  have hbel := Lib.hid ((Below.refl w.heap.size w).alloc (Nat.le_refl _) (.cells #[.string ⟨#[]⟩, .int .i64 0] 31) |>.trans (hb.mono (by simp)))
  clear hb hh
  go_wp2
  refine bodyPost_ret (results_cell_row rfl _ _ w.heap.size 31 #[.string (textU (codes s)), .int .i64 0] (0, 0) _ rfl h2.out Tryz.underlying31 rfl infoKeyRow) rfl ?_
  exact ⟨rfl, (hbel.out.setCell (Nat.le_refl _) _).setCell (Nat.le_refl _) _⟩
end Go.Proofs.YtoccmiinkfhohaaGreat
namespace Go.Proofs.YtoccmiinkfhohaaGreat
open Go.RowKit Go.Shelf Go.Lib Go.Sort Go.Proofs Go.Maps
set_option maxHeartbeats 1000000
set_option maxRecDepth 8000

theorem baH_eq {a b : ByteArray} (h : a.toList = b.toList) : a = b := by
  rw [ByteArray.toList_eq, ByteArray.toList_eq] at h
  cases a with | mk a => cases b with | mk b =>
  congr 1
  exact Array.toList_inj.1 h
theorem U_evenH (s : ByteArray) : U (evenB s) = U s := by
  unfold U
  rw [evenB_size]
  have : s.size / 2 * 2 / 2 = s.size / 2 := by omega
  rw [this]
  exact unitsN_even s _ (Nat.le_refl _)
theorem cmpU_evenH (x s : ByteArray) : cmpU (U x) (U s) = 0 ↔ evenB x = evenB s := by
  constructor
  · intro h
    have h1 := cmpU_eq h
    have h2 := even_flat x
    have h3 := even_flat s
    rw [h1, ← h3] at h2
    exact baH_eq h2
  · intro h
    rw [← U_evenH x, h, U_evenH]
    exact cmpU_self _
theorem evenB_evenH (s : ByteArray) : evenB (evenB s) = evenB s := by
  have h2 := even_flat (evenB s)
  rw [U_evenH, ← even_flat s] at h2
  exact baH_eq h2
/-- a key as it is compared -/
def pk (x : KK) : KK := if 0 < x.2 then (⟨#[]⟩, x.2) else (evenB x.1, 0)
theorem pk_pk (x : KK) : pk (pk x) = pk x := by
  unfold pk
  split
  · simp_all
  · simp [evenB_evenH]
theorem sameK_pk (x y : KK) : sameK x.1 y.1 x.2 y.2 = decide (pk x = pk y) := by
  unfold sameK pk
  have hc := cmpU_evenH x.1 y.1
  by_cases h1 : 0 < x.2 <;> by_cases h2 : 0 < y.2
  · simp [h1, h2]
  · have e1 : x.2 ≠ y.2 := by omega
    have e2 : x.2 ≠ 0 := by omega
    simp [h1, h2, e1, e2]
  · have e1 : x.2 ≠ y.2 := by omega
    have e2 : y.2 ≠ 0 := by omega
    have e3 : ¬ (0 = y.2) := fun h => e2 h.symm
    simp [h1, h2, e1, e3]
  · simp [h1, h2, hc]
theorem rk_pk (x : KK) : rk (pk x) = rk x := by
  unfold rk pk rankK
  by_cases h1 : 0 < x.2
  · simp [h1]
  · simp [h1, U_evenH]
theorem cls_pk (r : Nat) (l : List KK) : cls r (l.map pk) = (cls r l).map pk := by
  unfold cls
  rw [List.filter_map]
  congr 1
  apply List.filter_congr
  intro x _
  simp [rk_pk]
theorem ord_eq {Z Z' l l' : List KK} (h1 : Srt Z) (h2 : Eqv Z l) (h3 : Srt Z') (h4 : Eqv Z' l') (h : l.map pk = l'.map pk) : Z.map pk = Z'.map pk := by
  have s1 : ∀ {Z : List KK}, Srt Z → Srt (Z.map pk) := fun {Z} h => by
    unfold Srt at *
    rw [List.pairwise_map]
    exact h.imp (fun h => by rw [rk_pk, rk_pk]; exact h)
  refine srt_eqv_eq (s1 h1) (s1 h3) fun r => ?_
  rw [cls_pk, cls_pk, h2 r, h4 r, ← cls_pk, ← cls_pk, h]
/-- what a map tells -/
def TellsL (D : DataW Unit) (f : Lit → Option Int) : Prop :=
  ∀ l, Maps.has D l = (f l).isSome ∧ ∀ i, f l = some i → D.atKey l (.lit (.int .i64 0)) = .lit (.int .i64 i)
theorem tellsL_nil : TellsL (.map []) (fun _ => none) := fun l => ⟨by simp [Maps.has], fun i h => by cases h⟩
theorem tellsL_put {D : DataW Unit} {f : Lit → Option Int} (hm : IsMap D) (h : TellsL D f) (k : Lit) (hk : WideAt.IsKeyLit k) (v : Int) : ∃ g, TellsL (D.put k (.lit (.int .i64 v))) g ∧ g k = some v ∧ ∀ l, l ≠ k → g l = f l := by
  classical
  refine ⟨fun l => if l = k then some v else f l, fun l => ?_, by simp, fun l hl => by simp [hl]⟩
  by_cases e : l = k
  · subst e
    rw [has_put_same hm hk, atKey_put_same hm hk]
    simp
  · rw [has_put_other e, atKey_put_other e]
    simpa [e] using h l
theorem tellsL_del {D : DataW Unit} {f : Lit → Option Int} (h : TellsL D f) (k : Lit) : ∃ g, TellsL (D.del k) g ∧ g k = none ∧ ∀ l, l ≠ k → g l = f l := by
  classical
  refine ⟨fun l => if l = k then none else f l, fun l => ?_, by simp, fun l hl => by simp [hl]⟩
  by_cases e : l = k
  · subst e
    rw [has_del_same]
    simp
  · rw [has_del_other e, atKey_del_other e]
    simpa [e] using h l
theorem tellsL_at {D : DataW Unit} {f : Lit → Option Int} (h : TellsL D f) {k : Lit} {c : Int} (hc : D.atKey k (.lit (.int .i64 0)) = .lit (.int .i64 c)) : (∃ i, f k = some i ∧ c = i ∧ Maps.has D k = true) ∨ (f k = none ∧ Maps.has D k = false) := by
  obtain ⟨h1, h2⟩ := h k
  cases e : f k with
  | none => rw [e] at h1; exact .inr ⟨rfl, h1⟩
  | some i =>
    rw [e] at h1
    have := h2 i e
    rw [hc] at this
    injection this with this
    injection this with _ this
    exact .inl ⟨i, rfl, this, h1⟩
theorem laidOut : laidOutB Tryz.prog = true := by kernel_rfl
theorem rowKey : (31 : TypeId) < Tryz.prog.types.size := of_decide_eq_true (by kernel_rfl)
theorem wideKey : (match Tryz.prog.underlying 31 with | some (.array _ _) | some (.struct _) => true | _ => false) = true := by kernel_rfl
theorem lawKey : Keyed Tryz.prog 31 := Keyed.of_law (deep_law_laid laidOut (m := 2) (by omega) rowKey (by kernel_rfl) wideKey)
theorem rowWay : (189 : TypeId) < Tryz.prog.types.size := of_decide_eq_true (by kernel_rfl)
theorem wideWay : (match Tryz.prog.underlying 189 with | some (.array _ _) | some (.struct _) => true | _ => false) = true := by kernel_rfl
theorem lawWay : Keyed Tryz.prog 189 := Keyed.of_law (deep_law_laid laidOut (m := 3) (by omega) rowWay (by kernel_rfl) wideWay)
theorem zeroIntH (w : World) : (zeroValue 3).run Tryz.prog w = .ok (.int .i64 0) w := by kernel_rfl
/-- a key that may stand in a map -/
def okK (x : KK) : Prop := x.1.size ≤ 1099511627776 ∧ (Lit.int .i64 x.2).wf = true
def klK (x : KK) : Lit := .string (keyBytes [.string x.1.data.toList, .int .i64 x.2])
theorem sizeTypes : ∃ m, Tryz.prog.types.size = m + 2 := ⟨Tryz.prog.types.size - 2, by have : 2 ≤ Tryz.prog.types.size := of_decide_eq_true (by kernel_rfl); omega⟩
theorem ktKey : Tryz.prog.keyType 31 = true := by kernel_rfl
theorem ktWay : Tryz.prog.keyType 189 = true := by kernel_rfl
theorem cellsKey : Tryz.prog.cellsOf 31 = 2 := by kernel_rfl
theorem cellsWay : Tryz.prog.cellsOf 189 = 5 := by kernel_rfl
theorem cellsStr : Tryz.prog.cellsOf 29 = 1 := by kernel_rfl
theorem cellsInt : Tryz.prog.cellsOf 3 = 1 := by kernel_rfl
theorem cellsBool : Tryz.prog.cellsOf 4 = 1 := by kernel_rfl
theorem keyOf_K (x : KK) (h : okK x) : keyOf Tryz.prog 31 (keyV x.1 x.2) = some (klK x) := by
  obtain ⟨m, hm⟩ := sizeTypes
  have h1 : x.1.size ≤ maxLen := by have := h.1; unfold maxLen; omega
  have h2 := h.2
  have hf : (keyV x.1 x.2).formed Tryz.prog 31 = true := by simp [keyV, Value.formed, Tryz.underlying31, cellsKey]
  unfold keyOf
  simp only [Tryz.underlying31]
  rw [if_pos (by simp [ktKey, hf]), hm]
  unfold Program.keyLits
  simp only [Tryz.underlying31, Value.cells, keyV]
  rw [if_pos (by rw [cellsKey]; exact ⟨rfl, by kernel_rfl⟩)]
  simp [cellsStr, cellsInt, Program.keyLits, Tryz.underlying29, Tryz.underlying3, h1, h2, klK]
def klW (fr : Int) (ch : Bool) (x : KK) (fl : Int) : Lit := .string (keyBytes [.int .i64 fr, .bool ch, .string x.1.data.toList, .int .i64 x.2, .int .i64 fl])
def wayV (fr : Int) (ch : Bool) (x : KK) (fl : Int) : Value := .agg #[.int .i64 fr, .bool ch, .string x.1, .int .i64 x.2, .int .i64 fl]
theorem keyOf_W (fr : Int) (ch : Bool) (x : KK) (fl : Int) (h : okK x) (hf : (Lit.int .i64 fr).wf = true) (hg : (Lit.int .i64 fl).wf = true) : keyOf Tryz.prog 189 (wayV fr ch x fl) = some (klW fr ch x fl) := by
  obtain ⟨m, hm⟩ := sizeTypes
  have h1 : x.1.size ≤ maxLen := by have := h.1; unfold maxLen; omega
  have h2 := h.2
  have hfo : (wayV fr ch x fl).formed Tryz.prog 189 = true := by simp [wayV, Value.formed, Tryz.underlying189, cellsWay]
  unfold keyOf
  simp only [Tryz.underlying189]
  rw [if_pos (by simp [ktWay, hfo]), hm]
  unfold Program.keyLits
  simp only [Tryz.underlying189, Value.cells, wayV]
  rw [if_pos (by rw [cellsWay]; exact ⟨rfl, by kernel_rfl⟩)]
  have hk : Tryz.prog.keyLits (m + 2) 31 [.string x.1, .int .i64 x.2] = some [.string x.1.data.toList, .int .i64 x.2] := by
    unfold Program.keyLits
    simp only [Tryz.underlying31]
    rw [if_pos (by rw [cellsKey]; exact ⟨rfl, by kernel_rfl⟩)]
    simp [cellsStr, cellsInt, Program.keyLits, Tryz.underlying29, Tryz.underlying3, h1, h2]
  simp [cellsInt, cellsKey, cellsBool, hk]
  simp [Program.keyLits, Tryz.underlying3, Tryz.underlying4, hf, hg, klW]
theorem klK_inj {x y : KK} (hx : okK x) (hy : okK y) (h : klK x = klK y) : x = y := by
  have h1 := keyOf_K x hx
  rw [h] at h1
  have := lawKey.inj h1 (keyOf_K y hy)
  unfold keyV at this
  injection this with this
  simp at this
  exact Prod.ext this.1 this.2
theorem klW_inj {a a' : Int} {c c' : Bool} {x y : KK} {g g' : Int} (hx : okK x) (hy : okK y) (ha : (Lit.int .i64 a).wf = true) (ha' : (Lit.int .i64 a').wf = true) (hg : (Lit.int .i64 g).wf = true) (hg' : (Lit.int .i64 g').wf = true) (h : klW a c x g = klW a' c' y g') : a = a' ∧ c = c' ∧ x = y ∧ g = g' := by
  have h1 := keyOf_W a c x g hx ha hg
  rw [h] at h1
  have := lawWay.inj h1 (keyOf_W a' c' y g' hy ha' hg')
  unfold wayV at this
  injection this with this
  simp at this
  exact ⟨this.1, this.2.1, Prod.ext this.2.2.1 this.2.2.2.1, this.2.2.2.2⟩
theorem isKey_klK (x : KK) : WideAt.IsKeyLit (klK x) := by unfold klK; trivial
theorem isKey_klW (a : Int) (c : Bool) (x : KK) (g : Int) : WideAt.IsKeyLit (klW a c x g) := by unfold klW; trivial
theorem pk_ok {x : KK} (h : okK x) : okK (pk x) := by
  unfold pk
  split
  · exact ⟨Nat.zero_le _, h.2⟩
  · refine ⟨?_, ?_⟩
    · show (evenB x.1).size ≤ _
      rw [evenB_size]; have := h.1; omega
    · show (Lit.int .i64 0).wf = true
      decide
end Go.Proofs.YtoccmiinkfhohaaGreat

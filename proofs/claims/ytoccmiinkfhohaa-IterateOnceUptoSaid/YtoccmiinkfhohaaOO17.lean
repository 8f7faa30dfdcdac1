/-
  Contracts: Enumerations: a new one. Enumerations: Next, Looked. Enumerations: an object's own keys. Enumerations: what may change beside them. Enumerations: all keys.
-/
import Derived.Test.YtoccmiinkfhohaaOO16
namespace Go.Proofs.Ytoccmiinkfhohaa
open Go.RowKit Go.Shelf Go.Lib Go.Sort Go.Proofs Go.Maps
set_option linter.unusedVariables false
set_option maxHeartbeats 4000000
set_option maxRecDepth 100000

/-- both heaps, and blocks that are neither's -/
def LawK (K : Nat → Obj → Prop) (w : World) (hb rb : Nat) (lim : Int) (B : Nat) (H : List OB) : Prop :=
  ∃ f f2, Two w hb rb lim B H f f2 ∧ ∀ c o, K c o → w.heap[c]? = some o ∧ f c = 0 ∧ f2 c = 0
def allocs (w : World) : List Obj → World
  | [] => w
  | o :: l => allocs (w.alloc o) l
theorem allocs_below (l : List Obj) : ∀ w : World, Below w.heap.size w (allocs w l) := by
  induction l with
  | nil => exact fun w => Below.refl _ _
  | cons o l ih => exact fun w => ((Below.refl _ _).alloc (Nat.le_refl _) o).trans ((ih (w.alloc o)).mono (by simp))
theorem allocs_size (l : List Obj) : ∀ w : World, (allocs w l).heap.size = w.heap.size + l.length := by
  induction l with
  | nil => exact fun w => rfl
  | cons o l ih => intro w; rw [allocs, ih]; simp; omega
theorem allocs_get (l : List Obj) : ∀ (w : World) (i : Nat) (o : Obj), l[i]? = some o → (allocs w l).heap[w.heap.size + i]? = some o := by
  induction l with
  | nil => intro w i o h; simp at h
  | cons x l ih =>
    intro w i o h
    cases i with
    | zero =>
      simp at h; subst h
      rw [allocs, (allocs_below l (w.alloc x)).block _ (by simp)]
      exact heap_alloc_new w x
    | succ i =>
      have := ih (w.alloc x) i o (by simpa using h)
      rw [allocs, ← this]
      congr 1
      simp; omega
theorem mapG_of {w : World} {b : Nat} (k : TypeId) (n : Nat) (h : w.heap[b]? = some (.map #[] 0)) : MapG w k b n (fun _ => none) := by
  have hlt := heapH_lt h
  obtain ⟨v, hv⟩ : ∃ v : World, v = { w with heap := w.heap.extract 0 b } := ⟨_, rfl⟩
  have hs : v.heap.size = b := by rw [hv]; simp; omega
  have h1 := MapG.made v k n
  rw [hs] at h1
  refine h1.at ?_
  rw [h, ← hs]
  exact (heap_alloc_new v _).symm
theorem keys_few {H : List OB} (hu : usedH H ≤ 100000) {o : Int} {Z : List KK} (hk : KeysOf (gk (listH H o)) Z) : Z.length ≤ 100000 := by
  rw [hk.len]
  unfold listH gk
  rcases objH_cases H o with ⟨_, h2⟩ | ⟨n, a, _, _, ha, h3, _⟩
  · rw [h2]; simp
  · rw [h3, List.length_map]
    have := len_used (List.mem_of_getElem? ha)
    show a.l.length ≤ _
    omega
section
variable {K : Nat → Obj → Prop} {w0 w w' : World} {hb rb B : Nat} {lim : Int} {H : List OB} {b : EB}
theorem LawK.law (h : LawK K w hb rb lim B H) : LawS { w with heap := #[] } w hb rb lim B H := by
  obtain ⟨f, f2, h1, h2⟩ := h
  exact ⟨f, f2, h1, ⟨rfl, rfl, rfl, Nat.zero_le _, fun r hr => absurd hr (Nat.not_lt_zero _)⟩, fun r hr => absurd hr (Nat.not_lt_zero _)⟩
theorem LawK.below (h : LawK K w hb rb lim B H) (hb' : Below w.heap.size w w') : LawK K w' hb rb lim B H := by
  obtain ⟨f, f2, h1, h2⟩ := h
  exact ⟨f, f2, h1.below hb', fun c o hK => ⟨(hb'.block c (heapH_lt (h2 c o hK).1)).trans (h2 c o hK).1, (h2 c o hK).2⟩⟩
theorem c_INew (h : LawK K w hb rb lim B H) (hB1 : 128 ≤ B) (hB : B ≤ 100000) (hu : usedH H ≤ 100000) (o : Int) :
    Calls Try.prog 38 #[.pointer (some ⟨hb, 0, none⟩), .int .i64 o] w fun e w' => ∃ b : EB, e = .returned (.pointer (some ⟨b.E, 0, none⟩)) ∧ LawE K w w' hb rb lim B H b ⟨o, 1, keysH H o, [], keysH H o⟩ := by
  have hmm := @run_makeMap Try.prog
  have rsf := fun (w : World) (a : Addr) (fn : Fn) (b c : Array Value) => run_store Try.prog w a (.func fn b c) .plain rfl
  obtain ⟨s, hs⟩ : ∃ s, s = w.heap.size := ⟨_, rfl⟩
  obtain ⟨W7, hW7⟩ : ∃ W7, allocs w [.cells #[.pointer (some ⟨hb, 0, none⟩)] 25 (0, 0), .cells #[.int .i64 o] 3 (0, 0), .cells #[.nilFunc, .int .i64 0] 82 (0, 0), .cells #[.pointer (some ⟨s + 1 + 1, 0, none⟩)] 76 (0, 0), .map #[] 0, .cells #[.map (some (s + 1 + 1 + 1 + 1))] 115 (0, 0), .cells #[.int .i64 1] 3 (0, 0)] = W7 := ⟨_, rfl⟩
  have hb7 : Below w.heap.size w W7 := by rw [← hW7]; exact allocs_below _ w
  have hs7 : W7.heap.size = s + 7 := by rw [← hW7, allocs_size, hs]; rfl
  have hd := fun (i : Nat) (ob : Obj) hx => hW7 ▸ allocs_get _ w i ob hx
  rw [← hs] at hd
  have d0 : W7.heap[s]? = _ := hd 0 _ rfl
  have d1 : W7.heap[s + 1]? = _ := hd 1 _ rfl
  have d2 : W7.heap[s + 1 + 1]? = _ := hd 2 _ rfl
  have d3 : W7.heap[s + 1 + 1 + 1]? = _ := hd 3 _ rfl
  have d4 : W7.heap[s + 1 + 1 + 1 + 1]? = _ := hd 4 _ rfl
  have d5 : W7.heap[s + 1 + 1 + 1 + 1 + 1]? = _ := hd 5 _ rfl
  have d6 : W7.heap[s + 1 + 1 + 1 + 1 + 1 + 1]? = _ := hd 6 _ rfl
  have hL7 := h.below hb7
  have hKs := l_HKeysF hL7.law hB1 hB o
  simp only [allocs] at hW7
  clear hd
  go_enter Try.func38, Try.ntmps38
  go_upto_region 4 with fail
  rw [← hs, hW7]
  clear hW7
  generalize hq6 : s + 1 + 1 + 1 + 1 + 1 + 1 = q6 at *
  generalize hq5 : s + 1 + 1 + 1 + 1 + 1 = q5 at *
  generalize hq4 : s + 1 + 1 + 1 + 1 = q4 at *
  generalize hq3 : s + 1 + 1 + 1 = q3 at *
  generalize hq2 : s + 1 + 1 = q2 at *
  generalize hq1 : s + 1 = q1 at *
  have hord := Lib.hid (show q1 = s + 1 ∧ q2 = s + 2 ∧ q3 = s + 3 ∧ q4 = s + 4 ∧ q5 = s + 5 ∧ q6 = s + 6 from by omega)
  have c0 := cell_one d0
  have c1 := cell_one d1
  replace hs := Lib.hid hs
  replace hs7 := Lib.hid hs7
  replace hb7 := Lib.hid hb7
  clear hq1 hq2 hq3 hq4 hq5 hq6
  go_upto_region 5 with (first | (go_at_call 17; refine hKs.mono ?_; rintro e y8 ⟨v8, Z8, rfl, hr8, hk8, hb8, hf8⟩; obtain ⟨p8, cp8, rfl, -⟩ := hr8.form))
  go_upto_region 6 with fail
  obtain ⟨l8, hl8⟩ : ∃ l8, l8 = y8.heap.size := ⟨_, rfl⟩
  obtain ⟨n8, hn8⟩ : ∃ n8, n8 = y8.heap.size + 1 := ⟨_, rfl⟩
  obtain ⟨W10, hW10⟩ : ∃ W10, allocs y8 [.cells #[.slice p8 Z8.length cp8] 51 (0, 0), .cells #[.func (.func 59) #[] #[.pointer (some ⟨y8.heap.size, 0, none⟩), .pointer (some ⟨q5, 0, none⟩), .pointer (some ⟨q6, 0, none⟩)]] 1 (0, 0)] = W10 := ⟨_, rfl⟩
  have hb10 : Below y8.heap.size y8 W10 := by rw [← hW10]; exact allocs_below _ y8
  have hs10 : W10.heap.size = y8.heap.size + 2 := by rw [← hW10, allocs_size]; rfl
  have hd10 := fun (i : Nat) (ob : Obj) hx => hW10 ▸ allocs_get _ y8 i ob hx
  have d7 : W10.heap[y8.heap.size]? = _ := hd10 0 _ rfl
  have d8 : W10.heap[y8.heap.size + 1]? = _ := hd10 1 _ rfl
  clear hd10
  simp only [allocs] at hW10
  rw [hW10]
  rw [← hn8, ← hl8] at d8
  rw [← hl8] at d7
  rw [← hn8, ← hl8]
  have hb78 : Below W7.heap.size W7 W10 := hb8.trans (hb10.mono hb8.size)
  have hsz8 := hb8.size
  have hup : ∀ {i : Nat} {ob : Obj}, W7.heap[i]? = some ob → W10.heap[i]? = some ob := fun h => (hb78.block _ (heapH_lt h)).trans h
  replace d0 := hup d0
  replace d1 := hup d1
  replace d2 := hup d2
  replace d3 := hup d3
  replace d4 := hup d4
  replace d5 := hup d5
  replace d6 := hup d6
  have hlK := keys_few hu hk8
  have hL10 := hL7.below hb78
  have hR10 := hr8.keep hb10
  have hnote := c_note d7 d5 d6 hR10 hk8.ok (by omega) (mapG_of 32 0 d4) (by omega) (by omega) (WalkArith.wf_i64 (by omega)) (fun K hK j hj => by cases hj)
  have hsw7 := hb7.out.size
  have hpos := Lib.hid (show s + 7 ≤ l8 ∧ n8 = l8 + 1 from by have := hs7.out; omega)
  have hbw := Lib.hid (hb7.out.trans (hb78.mono hb7.out.size))
  clear hs7 hb7 hl8 hn8 hs10 hsz8 hW10 hup hb10 hb78 hr8 hb8 hL7 hKs c0 c1
  have c8 := cell_one d8
  replace hnote := Lib.hid hnote
  go_upto_region 7 with (first | (go_at_call 59; refine hnote.out.mono ?_; rintro e y9 ⟨rfl, hN9⟩))
  obtain ⟨o1, o2, o3, o4, o5, o6⟩ := hord.out
  obtain ⟨p1, p2⟩ := hpos.out
  have hup9 : ∀ {i : Nat} {ob : Obj}, W10.heap[i]? = some ob → i ≠ q4 → y9.heap[i]? = some ob := fun h hne => (hN9.1.block _ (heapH_lt h) (fun e => hne (Option.some.inj e))).trans h
  have e0 := hup9 d0 (by omega)
  have e1 := hup9 d1 (by omega)
  have e2 := hup9 d2 (by omega)
  have e3 := hup9 d3 (by omega)
  have e5 := hup9 d5 (by omega)
  have e6 := hup9 d6 (by omega)
  have e7 := hup9 d7 (by omega)
  have e8 := hup9 d8 (by omega)
  have hR9 : RdK y9 (.slice p8 Z8.length cp8) Z8 := hR10.block fun r ⟨j, u, hc⟩ => hN9.1.block r (cell_lt hc) (fun e => by
    have e := Option.some.inj e
    subst e
    exact no_cell (mapG_of 32 0 d4) hc)
  have hR11 := hR9.set (i := 0) (v := nextV ⟨q2, l8, q3, s, q1, q5, q6, n8, q4⟩) (not_texty2 e2 (by intro s h; cases h) (by intro s h; cases h))
  obtain ⟨hgr, _, n9, g9, hm9, hn9, hg9⟩ := hN9
  rw [List.take_of_length_le (by simp)] at hg9
  have hfin : LawE K w (y9.setCell ⟨q2, 0, none⟩ (nextV ⟨q2, l8, q3, s, q1, q5, q6, n8, q4⟩)) hb rb lim B H ⟨q2, l8, q3, s, q1, q5, q6, n8, q4⟩ ⟨o, 1, keysH H o, [], keysH H o⟩ := by
    obtain ⟨f, f2, h1, h2⟩ := h
    have hsw := hs.out
    have hbw9 : Below w.heap.size w y9 := ⟨hgr.os.trans hbw.out.os, hgr.tape.trans hbw.out.tape, hgr.output.trans hbw.out.output, Nat.le_trans hbw.out.size hgr.size, fun r hr => (hgr.block r (Nat.lt_of_lt_of_le hr hbw.out.size) (fun e => by have := Option.some.inj e; omega)).trans (hbw.out.block r hr)⟩
    have hb11 : Below w.heap.size w (y9.setCell ⟨q2, 0, none⟩ (nextV ⟨q2, l8, q3, s, q1, q5, q6, n8, q4⟩)) := hbw9.setCell (p := ⟨q2, 0, none⟩) (show w.heap.size ≤ q2 by omega) _
    obtain ⟨f3, hf3⟩ : ∃ f3 : Nat → Nat, f3 = fun r => if r = q2 then 8 else if r = l8 then 1 else if r = q3 then 2 else if r = s then 3 else if r = q1 then 4 else if r = q5 then 5 else if r = q6 then 6 else if r = n8 then 7 else if r = q4 then 10 else 0 := ⟨_, rfl⟩
    have hz : ∀ r, (r < s ∨ n8 < r) → f3 r = 0 := fun r hr => by
      rw [hf3]; dsimp only
      repeat rw [if_neg (by omega)]
    have t0 := set_other (a := q2) (i := 0) (v := nextV ⟨q2, l8, q3, s, q1, q5, q6, n8, q4⟩) e0 (by omega)
    have t1 := set_other (a := q2) (i := 0) (v := nextV ⟨q2, l8, q3, s, q1, q5, q6, n8, q4⟩) e1 (by omega)
    have t3 := set_other (a := q2) (i := 0) (v := nextV ⟨q2, l8, q3, s, q1, q5, q6, n8, q4⟩) e3 (by omega)
    have t5 := set_other (a := q2) (i := 0) (v := nextV ⟨q2, l8, q3, s, q1, q5, q6, n8, q4⟩) e5 (by omega)
    have t6 := set_other (a := q2) (i := 0) (v := nextV ⟨q2, l8, q3, s, q1, q5, q6, n8, q4⟩) e6 (by omega)
    have t7 := set_other (a := q2) (i := 0) (v := nextV ⟨q2, l8, q3, s, q1, q5, q6, n8, q4⟩) e7 (by omega)
    have t8 := set_other (a := q2) (i := 0) (v := nextV ⟨q2, l8, q3, s, q1, q5, q6, n8, q4⟩) e8 (by omega)
    have hcur : keysH H o = Z8.map pk := (ordK_eq hk8).symm
    refine ⟨_, 0, n9, g9, Z8, ⟨f, f2, f3, h1.below hb11, hb11, fun r hr => hz r (.inl (by omega)), ⟨fun r hr => hz r (.inr ?_), ⟨t7, ?_⟩, ⟨t3, ?_⟩, ⟨t0, ?_⟩, ⟨t1, ?_⟩, ⟨t5, ?_⟩, ⟨t6, ?_⟩, ⟨t8, ?_⟩, ⟨heap_setCell_same _ _ _ _ _ _ e2, ?_⟩, ⟨hm9.set (show q4 ≠ q2 by omega), ?_⟩⟩, fun r hr => ?_, fun c ob hK => ?_, fun c hc => hf8.off (Nat.lt_of_lt_of_le (Nat.lt_of_not_le fun hle => hc.elim (fun hc => hc (h1.1 c hle)) (fun hc => hc (h1.2.1 c hle))) hsw7)⟩, ⟨hR11, hcur.symm, hk8.ok⟩, ?_, ?_, ⟨Nat.le_refl _, (by dsimp only; omega)⟩, ?_, fun x hx => hadB_iff.2 hx, fun c ob hK => hf8.off (Nat.lt_of_lt_of_le (heapH_lt (h2 c ob hK).1) hsw7)⟩
    · have := heapH_lt e8
      simp at hr; omega
    iterate 9
      · rw [hf3]; dsimp only
        repeat rw [if_neg (by omega)]
        rw [if_pos rfl]
    · have : ¬ r < s := fun h => hr (hz r (.inl h))
      exact ⟨h1.1 r (by omega), h1.2.1 r (by omega)⟩
    · obtain ⟨k1, k2⟩ := h2 c ob hK
      have hlt := heapH_lt k1
      exact ⟨(hb11.block c hlt).trans k1, k2.1, k2.2, hz c (.inl (by omega))⟩
    · intro x hx
      refine ⟨fun h => (by cases h), fun _ => ?_⟩
      dsimp only
      rw [hcur, hg9 x hx]
      rfl
    · dsimp only; omega
    · dsimp only; rw [hcur, List.length_map]; exact hlK
  have c3 := cell_one e3
  have c20 : y9.cell? ⟨q2, 0, none⟩ = some .nilFunc := by rw [cell_of_row _ _ 0 _ _ _ e2]; rfl
  have f20 := froz_of e2 0
  have lq2 := heapH_lt e2
  have c3' := cell_one (set_other (a := q2) (i := 0) (v := nextV ⟨q2, l8, q3, s, q1, q5, q6, n8, q4⟩) e3 (by omega))
  unfold nextV at c3' hfin
  dsimp only at c3' hfin
  replace hfin := Lib.hid hfin
  clear hgr hup9 e0 e1 e2 e3 e5 e6 e7 e8 hR9 hR11 hm9 hg9 d0 d1 d2 d3 d4 d5 d6 d7 d8 hord hpos o1 o2 o3 o4 o5 o6 p1 p2 hL10 hR10 hnote hbw
  go_wp2_with fail
  go_ret
  exact ⟨_, rfl, hfin.out⟩
end
end Go.Proofs.Ytoccmiinkfhohaa
namespace Go.Proofs.Ytoccmiinkfhohaa
open Go.RowKit Go.Shelf Go.Lib Go.Sort Go.Proofs Go.Maps
set_option linter.unusedVariables false
set_option maxHeartbeats 4000000
set_option maxRecDepth 100000

theorem eql_next (w : World) (f : Fn) (a b : Array Value) : (binOp .eql 79 (.func f a b) .nilFunc).run Try.prog w = .ok (.bool false) w := by kernel_rfl
theorem eql_next0 (w : World) : (binOp .eql 79 .nilFunc .nilFunc).run Try.prog w = .ok (.bool true) w := by kernel_rfl
section
variable {K : Nat → Obj → Prop} {w0 w w' : World} {hb rb B : Nat} {lim : Int} {H : List OB} {b : EB}
theorem NextP.form {st : ES} {e : Ending} (h : NextP K w0 hb rb lim B H b st e w') : ∃ (st' : ES) (k : KK) (t : Bool), LawE K w0 w' hb rb lim B H b st' ∧ e = .returned (.tuple #[.agg #[.string k.1, .int .i64 k.2], .bool t]) ∧ ((t = true ∧ okK k ∧ nextE H (1000 - st.lv) st = (some (pk k), st')) ∨ (t = false ∧ k = (⟨#[]⟩, 0) ∧ nextE H (1000 - st.lv) st = (none, st'))) := by
  obtain ⟨st', h1, ⟨k, h2, h3, h4⟩ | ⟨h2, h3⟩⟩ := h
  · exact ⟨st', k, true, h1, h4, .inl ⟨rfl, h2, h3⟩⟩
  · exact ⟨st', (⟨#[]⟩, 0), false, h1, h3, .inr ⟨rfl, rfl, h2⟩⟩
theorem NextP.of {st : ES} {e : Ending} (h : ∃ (st' : ES) (k : KK) (t : Bool), LawE K w0 w' hb rb lim B H b st' ∧ e = .returned (.tuple #[.agg #[.string k.1, .int .i64 k.2], .bool t]) ∧ ((t = true ∧ okK k ∧ nextE H (1000 - st.lv) st = (some (pk k), st')) ∨ (t = false ∧ k = (⟨#[]⟩, 0) ∧ nextE H (1000 - st.lv) st = (none, st')))) : NextP K w0 hb rb lim B H b st e w' := by
  obtain ⟨st', k, t, h1, h2, ⟨rfl, h3, h4⟩ | ⟨rfl, rfl, h4⟩⟩ := h
  · exact ⟨st', h1, .inl ⟨k, h3, h4, h2⟩⟩
  · exact ⟨st', h1, .inr ⟨h4, h2⟩⟩
theorem c_ENext {st : ES} (h : LawE K w0 w hb rb lim B H b st) (hB1 : 128 ≤ B) (hB : B ≤ 100000) (hu : usedH H ≤ 100000) :
    Calls Try.prog 39 #[.pointer (some ⟨b.E, 0, none⟩)] w (NextP K w0 hb rb lim B H b st) := by
  obtain ⟨W1, hW1⟩ : ∃ W1, w.alloc (.cells #[.string ⟨#[]⟩, .int .i64 0] 32) = W1 := ⟨_, rfl⟩
  have hb1 : Below w.heap.size w W1 := by rw [← hW1]; exact (Below.refl _ _).alloc (Nat.le_refl _) _
  have d0 : W1.heap[w.heap.size]? = some (.cells #[.string ⟨#[]⟩, .int .i64 0] 32 (0, 0)) := by rw [← hW1]; exact heap_alloc_new w _
  obtain ⟨rx, hrx⟩ : ∃ rx, rx = w.heap.size := ⟨_, rfl⟩
  obtain ⟨K', hK'⟩ : ∃ K' : Nat → Obj → Prop, K' = fun x o' => K x o' ∨ (x = rx ∧ o' = .cells #[.string ⟨#[]⟩, .int .i64 0] 32 (0, 0)) := ⟨_, rfl⟩
  have hE : LawE K' w0 W1 hb rb lim B H b st := by
    rw [hK']
    exact h.watch hb1 hrx (by rw [hrx]; exact d0)
  have hKlt : ∀ c o, K c o → c < rx := by
    obtain ⟨L, lk, n, g, Z, h1, _⟩ := h
    intro c o hk
    rw [hrx]
    exact heapH_lt (h1.held hk)
  replace hKlt := Lib.hid hKlt
  have hw0 : w0.heap.size ≤ rx := by
    obtain ⟨L, lk, n, g, Z, h1, _⟩ := h
    rw [hrx]
    exact h1.base.size
  have hN := c_Next2 hE hB1 hB hu
  have c7 : W1.cell? ⟨b.E, 0, none⟩ = some (nextV b) := by
    obtain ⟨L, lk, n, g, Z, h1, _⟩ := hE
    exact h1.cells.2.1.1
  have eqn := eql_next
  have hk0 : ∀ y, LawE K' w0 y hb rb lim B H b st → True := fun _ _ => trivial
  unfold nextV at c7
  unfold eArgs at hN
  rw [← hrx] at d0
  replace hN := Lib.hid hN
  clear h hb1 hE hk0 d0
  go_enter Try.func39, Try.ntmps39
  go_upto_region 3 with fail
  rw [← hrx]
  clear hW1 hrx
  go_wp2_with (first | (go_at_call 61; refine hN.out.mono ?_; rintro e y hP; obtain ⟨st', k, tb, ⟨L, lk, n, g, Z, hX, hR, hS, hn, hlv, hlen, hcur, hoff⟩, rfl, hq⟩ := hP.form; have kx9 := hX.held (show K' rx _ by rw [hK']; exact .inr ⟨rfl, rfl⟩); have kx0 : y.cell? ⟨rx, 0, none⟩ = some (.string ⟨#[]⟩) := (by rw [cell_of_row _ _ 0 _ _ _ kx9]; rfl); have kx1 : y.cell? ⟨rx, 1, none⟩ = some (.int .i64 0) := (by rw [cell_of_row _ _ 1 _ _ _ kx9]; rfl); have kf0 := froz_of kx9 0; have kf1 := froz_of kx9 1; have lx9 := heapH_lt kx9; have hoffx := hoff rx _ (show K' rx _ by rw [hK']; exact .inr ⟨rfl, rfl⟩); have hX' := Lib.hid hX; clear hX))
  refine bodyPost_ret (results_ck rfl _ _ rx 32 #[.string k.1, .int .i64 k.2] (0, 0) _ rfl rfl (set2_block kx9) infoKeyRowZ) rfl ?_
  have hk' : ∀ r, r ≠ rx → ((y.setCell ⟨rx, 0, none⟩ (.string k.1)).setCell ⟨rx, 1, none⟩ (.int .i64 k.2)).heap[r]? = y.heap[r]? := fun r hr => set2_other r hr
  have hXf := hX'.out.free (K' := K) (w' := (y.setCell ⟨rx, 0, none⟩ (.string k.1)).setCell ⟨rx, 1, none⟩ (.int .i64 k.2)) (show K' rx _ by rw [hK']; exact .inr ⟨rfl, rfl⟩) rfl rfl rfl (by simp) (fun r _ hr => hk' r hr) hw0 (fun x o' hx => ⟨by rw [hK']; exact .inl hx, Nat.ne_of_lt (hKlt.out x o' hx)⟩)
  exact NextP.of ⟨st', k, tb, ⟨L, lk, n, g, Z, hXf, ⟨hR.1.off hoffx hk', hR.2⟩, hS, hn, hlv, hlen, hcur, fun c ob hk => hoff c ob (by rw [hK']; exact .inl hk)⟩, rfl, hq⟩
/-- .. of an enumeration that nobody made -/
theorem c_ENext0 (w : World) : Calls Try.prog 39 #[.pointer none] w fun e w' => e = .returned (.tuple #[.agg #[.string ⟨#[]⟩, .int .i64 0], .bool false]) ∧ Below w.heap.size w w' := by
  go_enter Try.func39, Try.ntmps39
  go_wp2_with fail
  refine bodyPost_ret (results_ck rfl _ _ w.heap.size 32 #[.string ⟨#[]⟩, .int .i64 0] (0, 0) _ rfl rfl (heap_alloc_new w _) infoKeyRowZ) rfl ?_
  exact ⟨rfl, (Below.refl _ _).alloc (Nat.le_refl _) _⟩
theorem c_ENextZ (w : World) (a : Nat) (n : Int) (ha : w.heap[a]? = some (.cells #[.nilFunc, .int .i64 n] 82 (0, 0))) : Calls Try.prog 39 #[.pointer (some ⟨a, 0, none⟩)] w fun e w' => e = .returned (.tuple #[.agg #[.string ⟨#[]⟩, .int .i64 0], .bool false]) ∧ Below w.heap.size w w' := by
  have c0 : w.cell? ⟨a, 0, none⟩ = some .nilFunc := by rw [cell_of_row _ _ 0 _ _ _ ha]; rfl
  have hlt := heapH_lt ha
  have eqn := eql_next0
  clear ha
  go_enter Try.func39, Try.ntmps39
  go_wp2_with fail
  refine bodyPost_ret (results_ck rfl _ _ w.heap.size 32 #[.string ⟨#[]⟩, .int .i64 0] (0, 0) _ rfl rfl (heap_alloc_new w _) infoKeyRowZ) rfl ?_
  exact ⟨rfl, (Below.refl _ _).alloc (Nat.le_refl _) _⟩
theorem c_ELooked0 (w : World) : Calls Try.prog 41 #[.pointer none] w fun e w' => e = .returned (.int .i64 0) ∧ w' = w := by
  go_enter Try.func41, Try.ntmps41
  go_wp2_with fail
  go_ret
  exact ⟨rfl, rfl⟩
theorem c_ELookedZ (w : World) (a : Nat) (n : Int) (ha : w.heap[a]? = some (.cells #[.nilFunc, .int .i64 n] 82 (0, 0))) : Calls Try.prog 41 #[.pointer (some ⟨a, 0, none⟩)] w fun e w' => e = .returned (.int .i64 n) ∧ w' = w := by
  have c0 : w.cell? ⟨a, 1, none⟩ = some (.int .i64 n) := by rw [cell_of_row _ _ 1 _ _ _ ha]; rfl
  clear ha
  go_enter Try.func41, Try.ntmps41
  go_wp2_with fail
  go_ret
  exact ⟨rfl, rfl⟩
end
end Go.Proofs.Ytoccmiinkfhohaa
namespace Go.Proofs.Ytoccmiinkfhohaa
open Go.RowKit Go.Shelf Go.Lib Go.Sort Go.Proofs Go.Maps
set_option linter.unusedVariables false
set_option maxHeartbeats 4000000
set_option maxRecDepth 100000

section
variable {w0 w w' : World} {hb rb B : Nat} {lim : Int} {H : List OB}
theorem filter_snoc {Z : List KK} {p : KK → Bool} {i : Nat} {x : KK} (h : Z[i]? = some x) : (Z.take (i + 1)).filter p = (Z.take i).filter p ++ if p x then [x] else [] := by
  rw [List.take_add_one, h, List.filter_append]
  simp [List.filter_cons]
theorem c_IOwn (h : LawS w0 w hb rb lim B H) (hB1 : 128 ≤ B) (hB : B ≤ 100000) (hu : usedH H ≤ 100000) (o : Int) :
    Calls Try.prog 33 #[.pointer (some ⟨hb, 0, none⟩), .int .i64 o] w fun e w' => ∃ v Z, e = .returned v ∧ RdK w' v Z ∧ (∀ x ∈ Z, okK x) ∧ Z.map pk = ownF H o ∧ Z.length ≤ 100000 ∧ Below w.heap.size w w' := by
  have hKs := l_HKeys h hB1 hB o
  obtain ⟨i0, hi0, hz0, hz1, hz2⟩ := info_parts infoKey
  have hL := fun (y : World) (hy : Below w.heap.size w y) => h.below hy
  replace hL := Lib.hid hL
  clear h
  go_enter Try.func33, Try.ntmps33
  go_wp2_with (first | (go_at_call 17; refine hKs.mono ?_; rintro e y8 ⟨v8, Z8, rfl, hr8, hk8, hb8⟩; obtain ⟨p8, cp8, rfl, -, hcp8, hcell8⟩ := hr8.form))
  have hok8 := Lib.hid hk8.ok
  have hZ8 := keys_few hu hk8
  have hord : Z8.map pk = keysH H o := ordK_eq hk8
  replace hcell8 := Lib.hid hcell8
  replace hord := Lib.hid hord
  obtain ⟨W8, rfl⟩ : ∃ W8, W8 = y8 := ⟨_, rfl⟩
  have hs8 := hb8.size
  replace hb8 := Lib.hid hb8
  clear hr8 hk8 hKs
  go_loopw [5, 14] (fun v vi wr => ∃ i : Nat, i ≤ Z8.length ∧ vi = .int .i64 (i : Int) ∧ (∃ L, L = (Z8.take i).filter (fun x => goodB H o (pk x)) ∧ wr.ownsRow W8.heap.size 32 2 v L.length (flatK L)) ∧ Below W8.heap.size W8 wr) (fun _ vi _ => Z8.length - (intOf vi).toNat)
  case atStart => exact ⟨0, by omega, rfl, ⟨[], by simp, ⟨rfl, .inl ⟨rfl, rfl⟩⟩⟩, Below.refl _ _⟩
  case round =>
    obtain ⟨i, hi, rfl, ⟨L, hLe, hown⟩, hbj⟩ := hrel
    obtain ⟨W9, rfl⟩ : ∃ W9, W9 = wr := ⟨_, rfl⟩
    rcases Nat.lt_or_ge i Z8.length with hlj | hgj
    · obtain ⟨x, hx⟩ : ∃ x, Z8[i]? = some x := ⟨_, List.getElem?_eq_getElem hlj⟩
      obtain ⟨bk, ok8, rfl, lk8, hy8⟩ := hcell8.out i x hx
      obtain ⟨d1, d2⟩ := hy8 W9 hbj
      have hokx := hok8.out x (List.mem_of_getElem? hx)
      have q1 : (0 : Int) ≤ (i : Int) := by omega
      have q2 : (i : Int) < (Z8.length : Int) := by omega
      have hLl : L.length ≤ i := by rw [hLe]; exact Nat.le_trans (List.length_filter_le _ _) (List.length_take_le _ _)
      have hfs := filter_snoc (p := fun x => goodB H o (pk x)) hx
      rw [← hLe] at hfs
      obtain ⟨W10, hW10⟩ : ∃ W10, W9.alloc (.cells #[.string x.1, .int .i64 x.2] 32) = W10 := ⟨_, rfl⟩
      have hb10 : Below W9.heap.size W9 W10 := by rw [← hW10]; exact (Below.refl _ _).alloc (Nat.le_refl _) _
      have d10 : W10.heap[W9.heap.size]? = some (.cells #[.string x.1, .int .i64 x.2] 32 (0, 0)) := by rw [← hW10]; exact heap_alloc_new W9 _
      have hbw10 : Below w.heap.size w W10 := hb8.out.trans ((hbj.trans (hb10.mono hbj.size)).mono hs8)
      have hgd := goodB_pk H o x
      have hOx := l_HOwnV (hL.out W10 hbw10) o x hokx
      have hown10 := own_at hown fun r hr => hb10.block r (hown.lt r hr).2
      obtain ⟨x0, xn⟩ := x
      dsimp only at *
      generalize hP : (ownH H o (pk (x0, xn))).getD zeroPV = P at *
      generalize hI : (ownH H o (pk (x0, xn))).isSome = bI at *
      have hi13 : (Try.prog.info? 37).map (·.size) = some (encP P).toArray.size := infoProp
      have hi13l : (Try.prog.info? 37).map (·.size) = some (encP P).length := infoProp
      have ho13 := all_oneCell_toArray (encP_one P)
      have hq := fun (y : World) => zeroQ_set y P
      have hth := fun (y : World) => (zeroQ_there y : (y.alloc (.cells zeroQ 37)).there y.heap.size 0 (encP P).toArray.size)
      replace hOx := Lib.hid hOx
      replace hq := Lib.hid hq
      have hkc : ∀ y, Below W10.heap.size W10 y → y.cell? ⟨W9.heap.size, 0, none⟩ = some (.string x0) ∧ y.cell? ⟨W9.heap.size, 1, none⟩ = some (.int .i64 xn) := fun y hy => by
        have h1 := (hy.block _ (heapH_lt d10)).trans d10
        exact ⟨by rw [cell_of_row _ _ 0 _ _ _ h1]; rfl, by rw [cell_of_row _ _ 1 _ _ _ h1]; rfl⟩
      obtain ⟨kc0, kc1⟩ := hkc W10 (Below.refl _ _)
      replace hkc := Lib.hid hkc
      have hbj10 := Lib.hid (hbj.trans (hb10.mono hbj.size))
      replace hfs := Lib.hid hfs
      replace hbw10 := Lib.hid hbw10
      have hs9 := hbj.size
      have tokD : True := trivial
      replace hown10 := Lib.hid hown10
      clear hx hy8 d10 hokx hP hI hown hb10 hbj hLe
      go_upto_region 6 with (first | (go_at_call 20; refine hOx.out.mono ?_; rintro e y11 ⟨rfl, hb11⟩; have hth11 := hth y11; obtain ⟨hq1, hq2⟩ := hq.out y11; clear kc0 kc1) | (clear tokD; refine wpList_store_mid rfl 37 (.tmp 8) (.tmp 23) rfl y11.heap.size 0 (encP P).toArray rfl rfl hth11 hi13 ho13 ?_; generalize hW12 : World.setCells _ _ _ _ = W12; rw [show (y11.alloc (.cells zeroQ 37)).setCells y11.heap.size 0 (encP P) = W12 from hW12] at hq1 hq2; clear hW12 hth11))
      have hb12 := hb11.trans (hq1.mono hb11.size)
      obtain ⟨kc0, kc1⟩ := hkc.out W12 hb12
      obtain ⟨-, -, -, -, -, -, -, -, -, -, -, -, a12⟩ := cells13 hq2
      have hown12 := own_at hown10.out fun r hr => hb12.block r (hown10.out.lt r hr).2
      have hbj12 := hbj10.out.trans (hb12.mono hbj10.out.size)
      have hs12 := hbj12.size
      have hno : goodB H o (pk (x0, xn)) = false → ∃ L', L' = (Z8.take (i + 1)).filter (fun x => goodB H o (pk x)) ∧ W12.ownsRow W8.heap.size 32 2 u5 L'.length (flatK L') := fun e => ⟨L, by rw [hfs.out, e]; simp, hown12⟩
      have hyes : goodB H o (pk (x0, xn)) = true → (Z8.take (i + 1)).filter (fun x => goodB H o (pk x)) = L ++ [(x0, xn)] := fun e => by rw [hfs.out, e]; simp
      rw [hgd] at hno hyes
      replace hno := Lib.hid hno
      replace hyes := Lib.hid hyes
      replace hbj12 := Lib.hid hbj12
      clear hb11 hq1 hq2 hb12 hkc hOx hq hth hi13 hi13l ho13 hbw10 hbj10 hown10 hfs hgd
      cases bI with
      | false =>
        have hend := hno.out (by simp)
        go_wp2_with fail
        exact ⟨⟨i + 1, by omega, by go_num, hend, hbj12.out⟩, by simp [intOf]; omega⟩
      | true =>
        by_cases g1 : xn ≤ 0
        · by_cases g2 : numB P.fl = true
          · have g3 : (bits BinOp.and IntKind.i64 P.fl 2 != 0) = true := g2
            have hend := hyes.out (by simp [g1, g2])
            clear hno
            go_wp2_with (at_builtin; go_loud (refine wpList_append_lies _ (by rfl) _ _ _ (by rfl) W8.heap.size 32 i0 _ 2 24 Try.underlying51 hi0 hz0 hz1 hz2 rfl (by omega) u5 L.length (flatK L) (by rfl) (hown12.alloc _) ⟨_, 0, none⟩ 1 1 [.string x0, .int .i64 xn] (by rfl) (by rfl) (World.news_of_block (cs := #[.string x0, .int .i64 xn]) (t := 32) (fr := (0, 0)) (by exact heap_alloc_new _ _)) (by simp [Value.oneCell']) (by omega) (by unfold maxLen; omega) (by omega) (by simp; omega) _ rfl ?_); intro gg cap w5 hown5 hgrow hat hlt5; have hbel5 := Lib.hid ((hbj12.out.alloc hs12 _).grown hgrow (by simp; omega) (own_base hown12)); clear hgrow hat hlt5)
            exact ⟨⟨i + 1, by omega, by go_num, ⟨L ++ [(x0, xn)], hend.symm, by simpa [flatK_app, flatK, encK] using hown5⟩, hbel5.out⟩, by simp [intOf]; omega⟩
          · have g3 : (bits BinOp.and IntKind.i64 P.fl 2 != 0) = false := by rw [← Bool.not_eq_true]; exact g2
            have hend := hno.out (by simp [g2])
            go_wp2_with fail
            exact ⟨⟨i + 1, by omega, by go_num, hend, hbj12.out⟩, by simp [intOf]; omega⟩
        · have hend := hno.out (by simp [g1])
          go_wp2_with fail
          exact ⟨⟨i + 1, by omega, by go_num, hend, hbj12.out⟩, by simp [intOf]; omega⟩
    · obtain rfl : i = Z8.length := by omega
      rw [List.take_length] at hLe
      replace hown := Lib.hid hown
      replace hbj := Lib.hid hbj
      clear hi hgj
      go_wp2
      go_ret
      refine ⟨_, L, rfl, own_rdk hown.out, fun x hx => hok8.out x ?_, ?_, ?_, hb8.out.trans (hbj.out.mono hs8)⟩
      · rw [hLe] at hx; exact (List.mem_filter.1 hx).1
      · rw [hLe, ownF, ← hord.out, List.filter_map]; rfl
      · rw [hLe]; exact Nat.le_trans (List.length_filter_le _ _) hZ8
end
end Go.Proofs.Ytoccmiinkfhohaa
namespace Go.Proofs.Ytoccmiinkfhohaa
open Go.RowKit Go.Shelf Go.Lib Go.Sort Go.Proofs Go.Maps
set_option linter.unusedVariables false
set_option maxHeartbeats 1000000
set_option maxRecDepth 8000

section
variable {K K' : Nat → Obj → Prop} {w0 w w' : World} {hb rb B : Nat} {lim : Int} {H : List OB} {b : EB} {st : ES}
theorem RdK.off2 {L : Value} {Z : List KK} (h : RdK w L Z) {k : Option Nat} (ho : ∀ c, k = some c → offL L c) (hk : ∀ r, r < w.heap.size → k ≠ some r → w'.heap[r]? = w.heap[r]?) : RdK w' L Z := by
  rcases h with h | ⟨p, c, rfl, h2, h3⟩
  · exact .inl h
  · refine .inr ⟨p, c, rfl, h2, fun i x hx => ?_⟩
    obtain ⟨h4, h5, h6⟩ := h3 i x hx
    have hne : k ≠ some p.block := fun e => by
      cases Z with
      | nil => simp at hx
      | cons a Z => exact ho _ e p Z.length c rfl rfl
    have hlt := cell_lt h5
    dsimp only at hlt
    have e := hk p.block hlt hne
    exact ⟨h4, (World.cell?_of_block (w := w) (a := ⟨p.block, p.off + i * 2, none⟩) e).trans h5, (World.cell?_of_block (w := w) (a := ⟨p.block, p.off + i * 2 + 1, none⟩) e).trans h6⟩
/-- a change of one watched block at most, and new blocks -/
theorem LawE.turn {k : Option Nat} (h : LawE K w0 w hb rb lim B H b st) (ho : w'.os = w.os) (ht : w'.tape = w.tape) (hp : w'.output = w.output) (hs : w.heap.size ≤ w'.heap.size) (hk : ∀ r, r < w.heap.size → k ≠ some r → w'.heap[r]? = w.heap[r]?)
    (hw : ∀ c, k = some c → w0.heap.size ≤ c ∧ ∃ ob, K c ob) (hK' : ∀ c ob, K' c ob → (K c ob ∧ k ≠ some c) ∨ (w'.heap[c]? = some ob ∧ (k = some c ∨ w.heap.size ≤ c))) : LawE K' w0 w' hb rb lim B H b st := by
  obtain ⟨L, lk, n, g, Z, ⟨f, f2, f3, h1, h2, h3, ⟨h4, h5⟩, h6, h7, h8⟩, r1, r2, r3, r4, r5, r6, r7⟩ := h
  have hk0 : ∀ c, k = some c → f c = 0 ∧ f2 c = 0 ∧ f3 c = 0 := fun c e => by
    obtain ⟨_, ob, hob⟩ := hw c e
    exact (h7 c ob hob).2
  have hT : Two w' hb rb lim B H f f2 := by
    cases hkk : k with
    | none => exact h1.below ⟨ho, ht, hp, hs, fun r hr => hk r hr (by rw [hkk]; simp)⟩
    | some c => exact h1.keep ho ht hp hs ⟨(hk0 c hkk).1, (hk0 c hkk).2.1⟩ (fun r hr hne => hk r hr (by rw [hkk]; simp; exact fun h => hne h.symm))
  have t3 : Turn (fun c => c = 0) f3 f3 w w' := ⟨ho, ht, hp, hs, fun _ _ => rfl, h4.below hs, fun r hr hn => hk r hr (fun e => hn (hk0 r e).2.2)⟩
  refine ⟨L, lk, n, g, Z, ⟨f, f2, f3, hT, ⟨ho.trans h2.os, ht.trans h2.tape, hp.trans h2.output, Nat.le_trans h2.size hs, fun r hr => ?_⟩, h3, ⟨h4.below hs, h5.turn t3 (fun _ h => h)⟩, h6, fun c ob hc => ?_, h8⟩, ⟨r1.1.off2 (fun c e => ?_) hk, r1.2⟩, r2, r3, r4, r5, r6, fun c ob hc => ?_⟩
  · rw [hk r (Nat.lt_of_lt_of_le hr h2.size) (fun e => by have := (hw r e).1; omega)]
    exact h2.block r hr
  · rcases hK' c ob hc with ⟨q1, q2⟩ | ⟨q1, q2⟩
    · obtain ⟨e1, e2⟩ := h7 c ob q1
      exact ⟨(hk c (heapH_lt e1) q2).trans e1, e2⟩
    · refine ⟨q1, ?_⟩
      rcases q2 with q2 | q2
      · exact hk0 c q2
      · exact ⟨h1.1 c q2, h1.2.1 c q2, h4 c q2⟩
  · obtain ⟨_, ob, hob⟩ := hw c e
    exact r7 c ob hob
  · rcases hK' c ob hc with ⟨q1, q2⟩ | ⟨q1, q2⟩
    · exact r7 c ob q1
    · rcases q2 with q2 | q2
      · obtain ⟨_, ob', hob⟩ := hw c q2
        exact r7 c ob' hob
      · exact r1.1.offNew q2
theorem LawE.held {c : Nat} {ob : Obj} (h : LawE K w0 w hb rb lim B H b st) (hK : K c ob) : w.heap[c]? = some ob := by
  obtain ⟨L, lk, n, g, Z, hX, _⟩ := h
  exact hX.held hK
theorem LawE.weaken (h : LawE K w0 w hb rb lim B H b st) (hK : ∀ c o, K' c o → K c o) : LawE K' w0 w hb rb lim B H b st := by
  obtain ⟨L, lk, n, g, Z, hX, r1, r2, r3, r4, r5, r6, r7⟩ := h
  exact ⟨L, lk, n, g, Z, hX.weaken hK, r1, r2, r3, r4, r5, r6, fun c o hk => r7 c o (hK c o hk)⟩
theorem LawE.base (h : LawE K w0 w hb rb lim B H b st) : Below w0.heap.size w0 w := by
  obtain ⟨L, lk, n, g, Z, hX, _⟩ := h
  exact hX.base
end
/-- all that is still told -/
noncomputable def restF (H : List OB) (n : Nat) (st : ES) : List KK := st.rem.filter (toldB H st.o st.seen) ++ match n with
  | 0 => []
  | n + 1 => if hasH H st.o then allF H n (proZ H st.o) (st.seen ++ st.cur) else []
theorem filter_drop (p : KK → Bool) (l : List KK) : l.filter p = (l.dropWhile (fun x => !p x)).filter p := by
  induction l with
  | nil => rfl
  | cons x l ih => cases h : p x <;> simp [List.dropWhile, h, ih]
theorem dropWhile_head {p : KK → Bool} {l r : List KK} {x : KK} (h : l.dropWhile (fun x => !p x) = x :: r) : p x = true := by
  induction l with
  | nil => cases h
  | cons y l ih =>
    cases hy : p y with
    | true => simp [List.dropWhile, hy] at h; rw [← h.1]; exact hy
    | false => simp [List.dropWhile, hy] at h; exact ih h
theorem restF_adv (H : List OB) (n : Nat) (st : ES) : restF H n (advE H st) = allF H n (proZ H st.o) (st.seen ++ st.cur) := by
  cases n with
  | zero => simp [restF, advE, allF]
  | succ n => rfl
/-- what the next key is, of all that are still told -/
theorem nextE_rest (H : List OB) : ∀ (n : Nat) (st : ES), st.cur = keysH H st.o → n = 1000 - st.lv → match nextE H n st with
    | (some K, st') => restF H n st = K :: restF H (1000 - st'.lv) st' ∧ st'.cur = keysH H st'.o
    | (none, st') => restF H n st = [] := by
  intro n
  induction n with
  | zero =>
    intro st hc hn
    unfold nextE restF
    rw [filter_drop]
    cases hd : st.rem.dropWhile (fun K => !toldB H st.o st.seen K) with
    | nil => rfl
    | cons x r =>
      have := dropWhile_head hd
      simp only [List.filter_cons, this, if_true]
      refine ⟨?_, hc⟩
      rw [← hn]
      rfl
  | succ n ih =>
    intro st hc hn
    unfold nextE restF
    rw [filter_drop]
    cases hd : st.rem.dropWhile (fun K => !toldB H st.o st.seen K) with
    | nil =>
      cases hh : hasH H st.o with
      | false => rfl
      | true =>
        simp only [if_true]
        have := ih (advE H st) rfl (by show n = 1000 - (st.lv + 1); omega)
        rw [restF_adv] at this
        exact this
    | cons x r =>
      have := dropWhile_head hd
      simp only [List.filter_cons, this, if_true]
      refine ⟨?_, hc⟩
      rw [← hn]
      rfl
end Go.Proofs.Ytoccmiinkfhohaa
namespace Go.Proofs.Ytoccmiinkfhohaa
open Go.RowKit Go.Shelf Go.Lib Go.Sort Go.Proofs Go.Maps
set_option linter.unusedVariables false
set_option maxHeartbeats 4000000
set_option maxRecDepth 100000

theorem keysH_len {H : List OB} (hu : usedH H ≤ 100000) (o : Int) : (keysH H o).length ≤ 100000 := by
  unfold keysH ordK
  split
  · rename_i hx
    rw [List.length_map]
    exact keys_few hu (Classical.choose_spec hx)
  · simp
theorem allF_len {H : List OB} (hu : usedH H ≤ 100000) : ∀ (n : Nat) (o : Int) (s : List KK), (allF H n o s).length ≤ (n + 1) * 100000 := by
  intro n
  induction n with
  | zero =>
    intro o s
    have := keysH_len hu o
    have := List.length_filter_le (toldB H o s) (keysH H o)
    simp only [allF]
    omega
  | succ n ih =>
    intro o s
    have := keysH_len hu o
    have := List.length_filter_le (toldB H o s) (keysH H o)
    have := ih (proZ H o) (s ++ keysH H o)
    simp only [allF, List.length_append]
    split
    · omega
    · simp only [List.length_nil]; omega
/-- what is watched while all keys are gathered: the list, and the key at hand -/
def KO (v : Value) (c7 : Nat) (k : KK) (W : World) (c : Nat) (o : Obj) : Prop := (v.ownBlock = some c ∧ W.heap[c]? = some o) ∨ (c = c7 ∧ o = .cells #[.string k.1, .int .i64 k.2] 32 (0, 0))
section
variable {w00 w w' : World} {hb rb B : Nat} {lim : Int} {H : List OB}
theorem LawS.toK (h : LawS w00 w hb rb lim B H) : LawK (fun _ _ => False) w hb rb lim B H := by
  obtain ⟨f, f2, h1, _⟩ := h
  exact ⟨f, f2, h1, fun _ _ h => h.elim⟩
/-- how far all keys have been gathered -/
def KeysR (w : World) (hb rb : Nat) (lim : Int) (B : Nat) (H : List OB) (b : EB) (all : List KK) (v6 v7 v8 : Value) (wr : World) : Prop :=
  ∃ (L : List KK) (st : ES) (k : KK) (c7 : Nat) (t : Bool), v7 = .pointer (some ⟨c7, 0, none⟩) ∧ v8 = .bool t ∧ wr.ownsRow w.heap.size 32 2 v6 L.length (flatK L) ∧ (∀ x ∈ L, okK x) ∧ (w.heap.size ≤ c7 ∧ v6.ownBlock ≠ some c7) ∧ LawE (KO v6 c7 k wr) w wr hb rb lim B H b st ∧
    ((t = true ∧ okK k ∧ st.cur = keysH H st.o ∧ L.map pk ++ pk k :: restF H (1000 - st.lv) st = all) ∨ (t = false ∧ L.map pk = all))
theorem push_keys {b : EB} {st : ES} {v : Value} {c7 : Nat} {k : KK} {W4 : World} {n : Nat} {xs : List Value} (hE : LawE (KO v c7 k W4) w W4 hb rb lim B H b st) (hown : W4.ownsRow w.heap.size 32 2 v n xs) (hne : v.ownBlock ≠ some c7) (lc7 : c7 < W4.heap.size) (w5 : World) (gg cap m : Nat) (ob : Obj) (hg : (W4.alloc ob).grownBy w5 v.ownBlock) (hat : v.ownBlock = some gg ∨ gg = W4.heap.size + 1) :
    LawE (KO (.slice (some ⟨gg, 0, none⟩) m cap) c7 k w5) w w5 hb rb lim B H b st ∧ gg ≠ c7 := by
  have hsz : W4.heap.size + 1 ≤ w5.heap.size := by have := hg.size; simpa using this
  refine ⟨hE.turn (k := v.ownBlock) hg.os hg.tape hg.output (by omega) (fun r hr hne => ?_) (fun c hc => ?_) (fun c o hc => ?_), ?_⟩
  · rw [hg.block r (by simp; omega) (fun e => hne e.symm), Below.heap_alloc _ _ _ hr]
  · obtain ⟨q1, q2⟩ := hown.lt c hc
    exact ⟨q1, _, .inl ⟨hc, Array.getElem?_eq_getElem q2⟩⟩
  · rcases hc with ⟨h1, h2⟩ | h1
    · injection h1 with h1
      have h1 : gg = c := h1
      subst h1
      refine .inr ⟨h2, ?_⟩
      rcases hat with h | h
      · exact .inl h
      · exact .inr (by omega)
    · exact .inl ⟨.inr h1, by rw [h1.1]; exact hne⟩
  · rcases hat with h | h
    · exact fun e => hne (by rw [h, e])
    · omega
theorem c_IKeys (h : LawS w00 w hb rb lim B H) (hB1 : 128 ≤ B) (hB : B ≤ 100000) (hu : usedH H ≤ 100000) (o : Int) :
    Calls Try.prog 34 #[.pointer (some ⟨hb, 0, none⟩), .int .i64 o] w fun e w' => ∃ v Z, e = .returned v ∧ RdK w' v Z ∧ (∀ x ∈ Z, okK x) ∧ Z.map pk = allF H 999 o [] ∧ Below w.heap.size w w' := by
  have hN := Lib.hid (c_INew h.toK hB1 hB hu o)
  obtain ⟨i0, hi0, hz0, hz1, hz2⟩ := info_parts infoKey
  have hall := allF_len hu 999 o []
  have hrest : restF H 999 ⟨o, 1, keysH H o, [], keysH H o⟩ = allF H 999 o [] := rfl
  generalize allF H 999 o [] = all at *
  clear h
  go_enter Try.func34, Try.ntmps34
  go_wp2_with (first | (go_at_call 38; refine hN.out.mono ?_; rintro e y1 ⟨b, rfl, hE1⟩) | (go_at_call 39; refine (c_ENext hE1 hB1 hB hu).mono ?_; rintro e y2 hP2; obtain ⟨st2, k2, t2, hE2, rfl, hq2⟩ := hP2.form))
  obtain ⟨W3, hW3⟩ : ∃ W3, y2.alloc (.cells #[.string k2.1, .int .i64 k2.2] 32) = W3 := ⟨_, rfl⟩
  have hb3 : Below y2.heap.size y2 W3 := by rw [← hW3]; exact (Below.refl _ _).alloc (Nat.le_refl _) _
  have d3 : W3.heap[y2.heap.size]? = some (.cells #[.string k2.1, .int .i64 k2.2] 32 (0, 0)) := by rw [← hW3]; exact heap_alloc_new y2 _
  have hE3 := hE2.watch hb3 rfl d3
  have hwy := hE2.base.size
  have hstart : KeysR w hb rb lim B H b all (.slice none 0 0) (.pointer (some ⟨y2.heap.size, 0, none⟩)) (.bool t2) W3 := by
    have hrs := nextE_rest H 999 ⟨o, 1, keysH H o, [], keysH H o⟩ rfl rfl
    refine ⟨[], st2, k2, _, t2, rfl, rfl, ⟨rfl, .inl ⟨rfl, rfl⟩⟩, (fun x hx => by cases hx), ⟨hwy, fun h => by cases h⟩, hE3.weaken (fun c ob hk => ?_), ?_⟩
    · rcases hk with ⟨hk, _⟩ | hk
      · cases hk
      · exact .inr hk
    · rcases hq2 with ⟨h1, h2, hq⟩ | ⟨h1, _, hq⟩
      · rw [show nextE H 999 _ = _ from hq] at hrs
        exact .inl ⟨h1, h2, hrs.2, by rw [← hrest]; exact hrs.1.symm⟩
      · rw [show nextE H 999 _ = _ from hq] at hrs
        exact .inr ⟨h1, by rw [← hrest]; exact hrs.symm⟩
  rw [hW3]
  replace hstart := Lib.hid hstart
  clear hE2 hE3 hb3 d3 hW3 hq2 hE1 hN hrest hwy
  go_loopw [6, 7, 8] (fun v6 v7 v8 wr => KeysR w hb rb lim B H b all v6 v7 v8 wr) (fun v6 _ _ _ => all.length + 1 - lenW v6)
  case atStart => exact hstart.out
  case round =>
    obtain ⟨L, st, k, c7, t, rfl, rfl, hown, hokL, ⟨hc7, hne⟩, hE, hq⟩ := hrel
    obtain ⟨W4, rfl⟩ : ∃ W4, W4 = wr := ⟨_, rfl⟩
    cases t with
    | false =>
      rcases hq with ⟨h, _⟩ | ⟨_, hq⟩
      · cases h
      have hbs := Lib.hid hE.base
      have hown' := Lib.hid hown
      clear hE
      go_wp2
      go_ret
      refine ⟨_, rfl, L, ?_, fun a b h => hokL (a, b) h, hq, hbs.out⟩
      exact own_rdk hown'.out
    | true =>
      rcases hq with ⟨_, hk, hcur, hq⟩ | ⟨h, _⟩
      · have k7 := hE.held (show KO u6 c7 k W4 c7 _ from .inr ⟨rfl, rfl⟩)
        have kc0 : W4.cell? ⟨c7, 0, none⟩ = some (.string k.1) := by rw [cell_of_row _ _ 0 _ _ _ k7]; rfl
        have kc1 : W4.cell? ⟨c7, 1, none⟩ = some (.int .i64 k.2) := by rw [cell_of_row _ _ 1 _ _ _ k7]; rfl
        have lc7 := heapH_lt k7
        have hLl : L.length + 1 ≤ all.length := by rw [← hq]; simp
        have hsw := hE.base.size
        have hlw := Lib.hid (show lenW u6 = L.length by rcases hown.2 with ⟨e, h⟩ | ⟨g, cap, cur, e, _⟩ <;> (rw [e]; try rw [h]) <;> rfl)
        have hpush := fun (w5 : World) (gg cap : Nat) (ob : Obj) (hg : (W4.alloc ob).grownBy w5 u6.ownBlock) (hat : u6.ownBlock = some gg ∨ gg = W4.heap.size + 1) => push_keys hE hown hne lc7 w5 gg cap (L.length + 1) ob hg hat
        replace hpush := Lib.hid hpush
        replace hq := Lib.hid hq
        replace hE := Lib.hid hE
        clear k7
        go_wp2_with (first | (at_builtin; go_loud (refine wpList_append_lies _ (by rfl) _ _ _ (by rfl) w.heap.size 32 i0 _ 2 24 Try.underlying51 hi0 hz0 hz1 hz2 rfl (by omega) u6 L.length (flatK L) (by rfl) (hown.alloc _) ⟨_, 0, none⟩ 1 1 [.string k.1, .int .i64 k.2] (by rfl) (by rfl) (World.news_of_block (cs := #[.string k.1, .int .i64 k.2]) (t := 32) (fr := (0, 0)) (by exact heap_alloc_new _ _)) (by simp [Value.oneCell']) (by omega) (by unfold maxLen; omega) (by omega) (by simp; omega) _ rfl ?_); intro gg cap w5 hown5 hgrow hat hlt5; obtain ⟨hE5, hne5⟩ := hpush.out w5 gg cap _ hgrow (by simpa using hat); clear hgrow hat hlt5 kc0 kc1; have k7 := hE5.held (show KO (.slice (some ⟨gg, 0, none⟩) (L.length + 1) cap) c7 k w5 c7 _ from .inr ⟨rfl, rfl⟩); have kc0 : w5.cell? ⟨c7, 0, none⟩ = some (.string k.1) := (by rw [cell_of_row _ _ 0 _ _ _ k7]; rfl); have kc1 : w5.cell? ⟨c7, 1, none⟩ = some (.int .i64 k.2) := (by rw [cell_of_row _ _ 1 _ _ _ k7]; rfl); have hE6 := hE5.watch (w' := w5.alloc (.cells #[.string k.1, .int .i64 k.2] 32)) ((Below.refl _ _).alloc (Nat.le_refl _) _) rfl (heap_alloc_new w5 _)) | (go_at_call 39; refine (c_ENext hE6 hB1 hB hu).mono ?_; rintro e y7 hP7; obtain ⟨st7, kn, t7, hE7, rfl, hq7⟩ := hP7.form; have kx := hE7.held (c := w5.heap.size) (.inr ⟨rfl, rfl⟩); have kx0 : y7.cell? ⟨w5.heap.size, 0, none⟩ = some (.string k.1) := (by rw [cell_of_row _ _ 0 _ _ _ kx]; rfl); have kx1 : y7.cell? ⟨w5.heap.size, 1, none⟩ = some (.int .i64 k.2) := (by rw [cell_of_row _ _ 1 _ _ _ kx]; rfl); have kf0 := froz_of kx 0; have kf1 := froz_of kx 1; have lx := heapH_lt kx))
        have hgg := (hown5.lt gg rfl).2
        have hgw : ∃ og, w5.heap[gg]? = some og := ⟨_, Array.getElem?_eq_getElem hgg⟩
        obtain ⟨og, hog⟩ := hgw
        have hyg : y7.heap[gg]? = some og := hE7.held (.inl (.inl ⟨rfl, hog⟩))
        have hn : gg ≠ w5.heap.size := by omega
        have hw5 := hE5.base.size
        have hrs := nextE_rest H (1000 - st.lv) st hcur rfl
        refine ⟨⟨L ++ [k], st7, kn, w5.heap.size, t7, rfl, rfl, ?_, ?_, ⟨hw5, fun e => hn (Option.some.inj e)⟩, ?_, ?_⟩, ?_⟩
        · have := own_at hown5 (w' := (y7.setCell ⟨w5.heap.size, 0, none⟩ (.string kn.1)).setCell ⟨w5.heap.size, 1, none⟩ (.int .i64 kn.2)) fun r hr => by
            have hr : gg = r := Option.some.inj hr
            subst hr
            rw [set2_other _ hn, hyg, hog]
          simpa [flatK_app, flatK, encK] using this
        · intro x hx
          rcases List.mem_append.1 hx with h | h
          · exact hokL x h
          · rw [List.mem_singleton.1 h]; exact hk
        · refine hE7.turn (k := some w5.heap.size) rfl rfl rfl (by simp) (fun r _ hr => set2_other r (fun e => hr (by rw [e]))) (fun c hc => ?_) (fun c o hc => ?_)
          · have hc : w5.heap.size = c := Option.some.inj hc
            subst hc
            exact ⟨hw5, _, .inr ⟨rfl, rfl⟩⟩
          · rcases hc with ⟨h1, h2⟩ | ⟨rfl, rfl⟩
            · have h1 : gg = c := Option.some.inj h1
              subst h1
              rw [set2_other _ hn, hyg] at h2
              have h2 := Option.some.inj h2
              subst h2
              exact .inl ⟨.inl (.inl ⟨rfl, hog⟩), fun e => hn (Option.some.inj e).symm⟩
            · exact .inr ⟨set2_block kx, .inl rfl⟩
        · rcases hq7 with ⟨h1, h2, h3⟩ | ⟨h1, _, h3⟩
          · rw [h3] at hrs
            refine .inl ⟨h1, h2, hrs.2, ?_⟩
            rw [← hq.out, hrs.1]; simp
          · rw [h3] at hrs
            refine .inr ⟨h1, ?_⟩
            rw [← hq.out, hrs]; simp
        · have := hlw.out
          show all.length + 1 - (L.length + 1) < _
          omega
      · cases h
end
end Go.Proofs.Ytoccmiinkfhohaa

/-
  Contracts: Make: the walks. New; what each operation makes of the objects; the contracts of all, joined. The contracts of the heap's other operations, joined. An array that has some values, as a list of properties: the plain law of ArrayLists. The state of a heap that has one array: what each method answers, and leaves. The contracts of a merger's methods. The contract of a merger's over.
-/
import Derived.Test.YtkbohoolnpaleaaGreatDoorW14
import Derived.Test.YtkbohoolnpaleaaGreatDoorW10
import Derived.Deep.Cut
namespace Go.Proofs.YtkbohoolnpaleaaGreatDoor
open Go.RowKit Go.Shelf Go.Lib Go.Sort Go.Proofs Go.Maps
set_option maxHeartbeats 4000000
set_option maxRecDepth 100000

theorem infoPObj : (Tryz.prog.info? 95).map (fun i => (i.zero, i.size, i.bytes)) = some (some (.pointer none), 1, 8) := by kernel_rfl
/-- a heap with one object more -/
theorem make_done {w Y w5 : World} {f : Nat → Nat} {hb B u u' : Nat} {lim : Int} {H : List OB} {tb : Nat} {L : List (List KK)} {rv : Value} {obs : List Nat} {gg cap : Nat} {cls pro : Int} {sb : Obj} (hN : Norm f w) (h : HeapX w f hb lim u B H tb L rv obs)
    (hT : Turn (fun c => c = 1) f f w Y) (h1 : Y.heap[hb]? = some (.cells #[.int .i64 1, .int .i64 lim, .int .i64 (u' : Int), ptrV tb, rv] 57 (0, 0)))
    (hg : (((Y.alloc (.cells #[.int .i64 0, .slice none 0 0] 111)).alloc (.cells #[.int .i64 cls, .int .i64 pro, .bool false, .int .i64 0, .iface 108 (ptrV Y.heap.size)] 94)).alloc sb).grownBy w5 rv.ownBlock)
    (hat : rv.ownBlock = some gg ∨ Y.heap.size + 3 ≤ gg)
    (hown : w5.ownsRow 0 95 1 (.slice (some ⟨gg, 0, none⟩) (H.length + 1 + 1) cap) (H.length + 1 + 1) (objRow obs ++ [ptrV (Y.heap.size + 1)])) :
    HeapT w f hb lim u' B (H ++ [⟨cls, pro, false, true, []⟩]) (w5.setCell ⟨hb, 4, none⟩ (.slice (some ⟨gg, 0, none⟩) (H.length + 1 + 1) cap)) := by
  obtain ⟨q1, q2, q3, q4, q5⟩ := h
  obtain ⟨Y1, e1⟩ : ∃ Y1, Y.alloc (.cells #[.int .i64 0, .slice none 0 0] 111) = Y1 := ⟨_, rfl⟩
  obtain ⟨Y2, e2⟩ : ∃ Y2, Y1.alloc (.cells #[.int .i64 cls, .int .i64 pro, .bool false, .int .i64 0, .iface 108 (ptrV Y.heap.size)] 94) = Y2 := ⟨_, rfl⟩
  obtain ⟨Y3, e3⟩ : ∃ Y3, Y2.alloc sb = Y3 := ⟨_, rfl⟩
  rw [e1, e2, e3] at hg
  have s1 : Y1.heap.size = Y.heap.size + 1 := by rw [← e1]; simp
  have s2 : Y2.heap.size = Y.heap.size + 2 := by rw [← e2]; simp; omega
  have s3 : Y3.heap.size = Y.heap.size + 3 := by rw [← e3]; simp; omega
  have b3 : Below Y.heap.size Y Y3 := by
    rw [← e3, ← e2, ← e1]
    exact ((((Below.refl _ Y).alloc (Nat.le_refl _) _).alloc (by simp) _).alloc (by simp; omega) _)
  have d1 : Y3.heap[Y.heap.size]? = some (.cells #[.int .i64 0, .slice none 0 0] 111 (0, 0)) := by
    rw [← e3, Below.heap_alloc _ _ _ (by omega), ← e2, Below.heap_alloc _ _ _ (by omega), ← e1]; exact heap_alloc_new Y _
  have d2 : Y3.heap[Y.heap.size + 1]? = some (.cells #[.int .i64 cls, .int .i64 pro, .bool false, .int .i64 0, .iface 108 (ptrV Y.heap.size)] 94 (0, 0)) := by
    rw [← e3, Below.heap_alloc _ _ _ (by omega), ← e2, ← s1]; exact heap_alloc_new Y1 _
  have nrow : ∀ k, rv.ownBlock = some k → k < Y.heap.size := fun k hk => Nat.lt_of_lt_of_le (q3.1.lt k hk).2 hT.size
  have fw : ∀ r, w.heap.size ≤ r → f r = 0 := hN
  obtain ⟨g, hgd⟩ : ∃ g : Nat → Nat, (fun r => if r = Y.heap.size then 10 + 2 * H.length else if r = Y.heap.size + 1 then 11 + 2 * H.length else if r = gg then 2 else 0) = g := ⟨_, rfl⟩
  have k5 : ∀ r, r < Y3.heap.size → (∀ k, rv.ownBlock = some k → r ≠ k) → w5.heap[r]? = Y3.heap[r]? := fun r hr hk => hg.block r hr (fun e => hk r e.symm rfl)
  have z1 := (k5 _ (by omega) (fun k hk e => by have := nrow k hk; omega)).trans d1
  have z2 := (k5 _ (by omega) (fun k hk e => by have := nrow k hk; omega)).trans d2
  have t1 : Turn (fun c => c = 1 ∨ c = 2) f (give f Y w5 g) w w5 := (hT.mono (fun _ h => .inl h)).give g (hg.os.trans b3.os) (hg.tape.trans b3.tape) (hg.output.trans b3.output) (Nat.le_trans b3.size hg.size) (fun r hr hc => by
    refine (k5 r (by omega) (fun k hk e => hc ?_)).trans (b3.block r hr)
    rw [e]
    exact .inr (q3.2 k hk))
  have fb1 : give f Y w5 g hb = 1 := by rw [give_old (heapH_lt h1)]; exact q1.2
  have f1 : give f Y w5 g Y.heap.size = 10 + 2 * H.length := by rw [give_new (Nat.le_refl _) (heapH_lt z1), ← hgd]; simp
  have f2 : give f Y w5 g (Y.heap.size + 1) = 11 + 2 * H.length := by rw [give_new (Nat.le_succ _) (heapH_lt z2), ← hgd]; simp
  have f3 : give f Y w5 g gg = 2 := by
    rcases hat with h | h
    · rw [give_old (nrow gg h)]; exact q3.2 gg h
    · rw [give_new (by omega) ((hown.lt gg rfl).2), ← hgd]
      have a1 : gg ≠ Y.heap.size := by omega
      have a2 : gg ≠ Y.heap.size + 1 := by omega
      simp [a1, a2]
  have nf := row_not q3.1 q1.1 (by decide)
  have hbw := heapH_lt q1.1
  have ng : gg ≠ hb := fun e => by rw [e, fb1] at f3; omega
  have hb5 : w5.heap[hb]? = some (.cells #[.int .i64 1, .int .i64 lim, .int .i64 (u' : Int), ptrV tb, rv] 57 (0, 0)) := ((k5 hb (Nat.lt_of_lt_of_le (heapH_lt h1) b3.size) (fun k hk e => nf (by rw [hk, e]))).trans (b3.block hb (heapH_lt h1))).trans h1
  generalize give f Y w5 g = f' at *
  have t2 : Turn (fun c => c = 1) f' f' w5 (w5.setCell ⟨hb, 4, none⟩ (.slice (some ⟨gg, 0, none⟩) (H.length + 1 + 1) cap)) := (Turn.refl _ t1.norm).set hb 4 _ fb1
  have tt : Turn (fun c => c = 1 ∨ c = 2) f f' w (w5.setCell ⟨hb, 4, none⟩ (.slice (some ⟨gg, 0, none⟩) (H.length + 1 + 1) cap)) := t1.trans (t2.mono fun _ h => .inl h)
  suffices hX : HeapX (w5.setCell ⟨hb, 4, none⟩ (.slice (some ⟨gg, 0, none⟩) (H.length + 1 + 1) cap)) f' hb lim u' B (H ++ [⟨cls, pro, false, true, []⟩]) tb L (.slice (some ⟨gg, 0, none⟩) (H.length + 1 + 1) cap) (obs ++ [Y.heap.size + 1]) from ⟨f', tt.mono (fun c hc => by omega), hX.heap, HeapX.grows (u := u) (B := B) (H := H) tt.norm ⟨q1, q2, q3, q4, q5⟩ hX (fun _ _ h => h)⟩
  refine ⟨⟨?_, fb1⟩, ⟨q2.1.turn tt (by omega) (by omega) (by omega) (by omega), q2.2⟩, ⟨?_, ?_⟩, ⟨by simp [q4.1], q4.2⟩, fun i a hi => ?_⟩
  · rw [heap_setCell_same w5 hb 4 _ _ _ hb5]; rfl
  · have ee : objRow (obs ++ [Y.heap.size + 1]) = objRow obs ++ [ptrV (Y.heap.size + 1)] := by simp [objRow]
    rw [ee, List.length_append]
    exact own_at hown fun r hr => by
      injection hr with hr; subst hr
      exact Below.heap_setCell _ _ _ _ ng
  · intro r hr
    injection hr with hr
    change gg = r at hr
    subst hr
    exact f3
  · rcases Nat.lt_or_ge i H.length with hlt | hge
    · rw [List.getElem?_append_left hlt] at hi
      obtain ⟨ob, r1, r2⟩ := q5 i a hi
      refine ⟨ob, ?_, r2.keep tt (by omega) (by omega) (fun _ _ h => h) (Nat.le_refl _)⟩
      rw [List.getElem?_append_left (by rw [q4.1]; exact hlt)]
      exact r1
    · obtain rfl : i = H.length := by
        have := (List.getElem?_eq_some_iff.1 hi).1
        simp at this; omega
      rw [List.getElem?_append_right (Nat.le_refl _), Nat.sub_self] at hi
      obtain rfl : _ = a := Option.some.inj hi
      refine ⟨Y.heap.size + 1, by rw [← q4.1, List.getElem?_append_right (Nat.le_refl _), Nat.sub_self]; rfl, 0, .iface 108 (ptrV Y.heap.size), ⟨?_, by rw [f2]; omega⟩, .inl ⟨rfl, Y.heap.size, [], [], rfl, ⟨0, .slice none 0 0, ⟨?_, f1⟩, ⟨⟨rfl, .inl ⟨rfl, rfl⟩⟩, fun k h => by cases h⟩, q4.2, rfl⟩, Nat.zero_le _, rfl⟩⟩
      · exact (t2.block _ (heapH_lt z2) (by rw [f2]; omega)).trans z2
      · exact (t2.block _ (heapH_lt z1) (by rw [f1]; omega)).trans z1
theorem heap_alloc3_new (Y : World) (o1 o2 o3 : Obj) : (((Y.alloc o1).alloc o2).alloc o3).heap[Y.heap.size + 1 + 1]? = some o3 := by
  have := heap_alloc2_new (Y.alloc o1) o2 o3
  rwa [show (Y.alloc o1).heap.size + 1 = Y.heap.size + 1 + 1 by simp] at this
theorem tb_after3 {w w5 : World} {tb i : Nat} {rv u : Value} {o1 o2 o3 : Obj} (hc : w.cell? ⟨tb, i, none⟩ = some u) (hf : w.frozen? ⟨tb, i, none⟩ = false) (hl : tb < w.heap.size) (hn : rv.ownBlock ≠ some tb) (hg : (((w.alloc o1).alloc o2).alloc o3).grownBy w5 rv.ownBlock) :
    w5.cell? ⟨tb, i, none⟩ = some u ∧ w5.frozen? ⟨tb, i, none⟩ = false := by
  have h : w5.heap[tb]? = w.heap[tb]? := by
    refine (hg.block tb (by simp; omega) (fun e => hn e.symm)).trans ?_
    rw [Below.heap_alloc _ _ _ (by simp; omega), Below.heap_alloc _ _ _ (by simp; omega), Below.heap_alloc _ _ _ hl]
  exact ⟨(World.cell?_of_block (w := w) h).trans hc, (World.frozen?_of_block (w := w) h).trans hf⟩
theorem c_HMakeR {w : World} {f : Nat → Nat} {hb B u : Nat} {lim : Int} {H : List OB} (h : HeapO w f hb lim u B H) (cls pro : Int) (hc : cls < 0 ∨ 6 < cls) :
    Calls Tryz.prog 33 #[ptrV hb, .int .i64 cls, .int .i64 pro] w fun e w' => e = .returned (.tuple #[.int .i64 0, .int .i64 1]) ∧ w' = w := by
  obtain ⟨rb, c, tb, c0, c1, c2, c3, c4, l1, l2, _⟩ := h.form
  unfold ptrV at *
  clear h
  rcases hc with hc | hc
  · go_enter Tryz.func33, Tryz.ntmps33
    go_wp2
    go_ret2
    exact ⟨rfl, rfl⟩
  · have h1 : ¬ cls < 0 := by omega
    go_enter Tryz.func33, Tryz.ntmps33
    go_wp2
    go_ret2
    exact ⟨rfl, rfl⟩
theorem c_HMakeP {w : World} {f : Nat → Nat} {hb B u : Nat} {lim : Int} {H : List OB} (h : HeapO w f hb lim u B H) (cls pro : Int) (hc0 : 0 ≤ cls) (hc6 : cls ≤ 6) (hp : pro ≠ 0) (hp2 : hasH H pro = false) :
    Calls Tryz.prog 33 #[ptrV hb, .int .i64 cls, .int .i64 pro] w fun e w' => e = .returned (.tuple #[.int .i64 0, .int .i64 151]) ∧ w' = w := by
  have hH := c_HHas h pro
  rw [hp2] at hH
  obtain ⟨rb, c, tb, c0, c1, c2, c3, c4, l1, l2, _⟩ := h.form
  have hpe : (pro == 0) = false := by simpa using hp
  have hpn : (pro != 0) = true := by simpa using hp
  have h1 : ¬ cls < 0 := by omega
  have h2 : ¬ 6 < cls := by omega
  unfold ptrV at *
  replace hH := Lib.hid hH
  clear h hp hp2
  go_enter Tryz.func33, Tryz.ntmps33
  go_wp2_with (go_at_call 20; refine hH.out.mono ?_; rintro e w1 ⟨rfl, rfl⟩)
  go_ret2
  exact ⟨rfl, rfl⟩
theorem c_HMakeL {w : World} {f : Nat → Nat} {hb B u : Nat} {lim : Int} {H : List OB} (h : HeapO w f hb lim u B H) (cls pro : Int) (hc0 : 0 ≤ cls) (hc6 : cls ≤ 6) (hp : pro = 0 ∨ hasH H pro = true) (hlt : lim ≤ (u : Int)) :
    Calls Tryz.prog 33 #[ptrV hb, .int .i64 cls, .int .i64 pro] w fun e w' => e = .returned (.tuple #[.int .i64 0, .int .i64 150]) ∧ w' = w.drew := by
  have hH := c_HHas h pro
  obtain ⟨rb, c, tb, c0, c1, c2, c3, c4, l1, l2, _⟩ := h.form
  have h1 : ¬ cls < 0 := by omega
  have h2 : ¬ 6 < cls := by omega
  have hdl : decide (lim ≤ (u : Int)) = true := decide_eq_true hlt
  have ho := onto_drew w
  unfold ptrV at *
  clear h hlt
  by_cases hpz : pro = 0
  · subst hpz
    clear hH hp
    go_enter Tryz.func33, Tryz.ntmps33
    go_wp2_with fail
    go_region_held3 (fun y => y = w.drew) (first | with_reducible assumption | rfl) (fail)
    go_wp2_with fail
    go_ret2
    exact ⟨rfl, rfl⟩
  · have hp' : hasH H pro = true := by rcases hp with h | h; exact absurd h hpz; exact h
    rw [hp'] at hH
    have hpe : (pro == 0) = false := by simpa using hpz
    have hpn : (pro != 0) = true := by simpa using hpz
    replace hH := Lib.hid hH
    clear hp hp' hpz
    go_enter Tryz.func33, Tryz.ntmps33
    go_wp2_with (go_at_call 20; refine hH.out.mono ?_; rintro e w1 ⟨rfl, e1⟩; cases e1)
    go_region_held3 (fun y => y = w.drew) (first | with_reducible assumption | rfl) (fail)
    go_wp2_with fail
    go_ret2
    exact ⟨rfl, rfl⟩
theorem c_HMakeT {w : World} {f : Nat → Nat} {hb B u : Nat} {lim : Int} {H : List OB} (hN : Norm f w) (h : HeapO w f hb lim u B H) (cls pro : Int) (hc0 : 0 ≤ cls) (hc6 : cls ≤ 6) (hp : pro = 0 ∨ hasH H pro = true) (hlt : (u : Int) < lim) (hu : u ≤ 100000000) (hl : H.length ≤ 100000) :
    Calls Tryz.prog 33 #[ptrV hb, .int .i64 cls, .int .i64 pro] w fun e w' => e = .returned (.tuple #[.int .i64 ((H.length + 1 : Nat) : Int), .int .i64 0]) ∧ HeapT w f hb lim (u + 1) B (H ++ [⟨cls, pro, false, true, []⟩]) w' := by
  have hH := c_HHas h pro
  obtain ⟨rb, c, tb, c0, c1, c2, c3, c4, l1, l2, _⟩ := h.form
  obtain ⟨tb', L, rv, obs, hX⟩ := h
  have hX' : HeapX w f hb lim u B H tb' L rv obs := hX
  clear hX
  have h1 : ¬ cls < 0 := by omega
  have h2 : ¬ 6 < cls := by omega
  have hdl : decide (lim ≤ (u : Int)) = false := decide_eq_false (by omega)
  obtain ⟨i0, hi0, hz0, hz1, hz2⟩ := info_parts infoPObj
  have p0u : (0 : Int) ≤ (u : Int) := by omega
  have p1u : (u : Int) ≤ 100000000 := by omega
  have hnb := row_not hX'.2.2.1.1 hX'.1.1 (by decide)
  obtain ⟨Y, hY⟩ : ∃ Y, w.drew.setCell ⟨hb, 2, none⟩ (.int .i64 ((u : Int) + 1)) = Y := ⟨_, rfl⟩
  have hT : Turn (fun c => c = 1) f f w Y := by rw [← hY]; exact ((Turn.refl _ hN).drew).set hb 2 _ hX'.1.2
  have hbY : Y.heap[hb]? = some (.cells #[.int .i64 1, .int .i64 lim, .int .i64 ((u + 1 : Nat) : Int), ptrV tb', rv] 57 (0, 0)) := by
    rw [← hY, heap_setCell_same w.drew hb 2 _ _ _ hX'.1.1]; rfl
  have hrow : Y.ownsRow 0 95 1 rv (H.length + 1) (objRow obs) := (hX'.2.2.1.turn hT (by omega)).1
  have f2w : w.frozen? ⟨hb, 2, none⟩ = false := by simp [World.frozen?, hX'.1.1]
  have cY4 : Y.cell? ⟨hb, 4, none⟩ = some rv := by rw [cell_of_row _ _ 4 _ _ _ hbY]; rfl
  have fY4 : Y.frozen? ⟨hb, 4, none⟩ = false := by simp [World.frozen?, hbY]
  have lY := heapH_lt hbY
  have hrv : ∃ c, rv = .slice (some ⟨rb, 0, none⟩) (H.length + 1) c := by
    have h4 := cell_of_row w hb 4 _ _ _ hX'.1.1
    rw [c4] at h4
    exact ⟨c, by have := Option.some.inj h4.symm; exact this⟩
  obtain ⟨c', rfl⟩ := hrv
  unfold ptrV at hH ⊢
  replace hX' := Lib.hid hX'
  replace hN := Lib.hid hN
  replace hT := Lib.hid hT
  replace hrow := Lib.hid hrow
  replace hbY := Lib.hid hbY
  replace hnb := Lib.hid hnb
  have hm1 : H.length + 1 + 1 ≤ maxLen ∧ (H.length + 1 + 1) * 8 ≤ 140737488355328 := by unfold maxLen; omega
  replace hm1 := Lib.hid hm1
  clear hlt
  have main : ∀ _ : True, Calls Tryz.prog 33 #[.pointer (some ⟨hb, 0, none⟩), .int .i64 cls, .int .i64 pro] w fun e w' => e = .returned (.tuple #[.int .i64 ((H.length + 1 : Nat) : Int), .int .i64 0]) ∧ HeapT w f hb lim (u + 1) B (H ++ [⟨cls, pro, false, true, []⟩]) w' := by
    intro _
    by_cases hpz : pro = 0
    · subst hpz
      clear hH hp
      go_enter Tryz.func33, Tryz.ntmps33
      go_wp2_with fail
      go_region_held3 (fun y => y = w.drew) (first | with_reducible assumption | rfl) (fail)
      go_wp2_with (first | (at_builtin; go_loud (refine wpList_append_lies _ (by rfl) _ _ _ (by rfl) 0 95 i0 _ 1 8 Tryz.underlying55 hi0 hz0 hz1 hz2 rfl (by omega) (.slice (some ⟨rb, 0, none⟩) (H.length + 1) c') (H.length + 1) (objRow obs) (by rfl) (((hrow.out.alloc _).alloc _).alloc _) ⟨_, 0, none⟩ 1 1 [.pointer (some ⟨Y.heap.size + 1, 0, none⟩)] (by simp [Act.eval]; rfl) (by rfl) (World.news_of_block (cs := #[.pointer (some ⟨Y.heap.size + 1, 0, none⟩)]) (t := 95) (fr := (0, 0)) (by exact heap_alloc3_new Y _ _ _)) (by simp [Value.oneCell']) (by omega) hm1.out.1 hm1.out.2 (by simp) _ rfl ?_; intro gg cap w5 hown5 hgrow hat hlt5; obtain ⟨hc5, hf5⟩ := tb_after3 cY4 fY4 lY hnb.out hgrow; replace hat := Lib.hid hat; replace hown5 := Lib.hid hown5; replace hgrow := Lib.hid hgrow)))
      go_ret2
      have hat2 : (Value.slice (some ⟨rb, 0, none⟩) (H.length + 1) c').ownBlock = some gg ∨ Y.heap.size + 3 ≤ gg := by
        rcases hat.out with h | h
        · exact .inl h
        · exact .inr (by simp at h; omega)
      exact ⟨rfl, make_done hN.out hX'.out hT.out hbY.out hgrow.out hat2 hown5.out⟩
    · have hp' : hasH H pro = true := by rcases hp with h | h; exact absurd h hpz; exact h
      rw [hp'] at hH
      have hpe : (pro == 0) = false := by simpa using hpz
      have hpn : (pro != 0) = true := by simpa using hpz
      replace hH := Lib.hid hH
      clear hp hp' hpz
      go_enter Tryz.func33, Tryz.ntmps33
      go_wp2_with (go_at_call 20; refine hH.out.mono ?_; rintro e w1 ⟨rfl, e1⟩; cases e1)
      go_region_held3 (fun y => y = w.drew) (first | with_reducible assumption | rfl) (fail)
      go_wp2_with (first | (at_builtin; go_loud (refine wpList_append_lies _ (by rfl) _ _ _ (by rfl) 0 95 i0 _ 1 8 Tryz.underlying55 hi0 hz0 hz1 hz2 rfl (by omega) (.slice (some ⟨rb, 0, none⟩) (H.length + 1) c') (H.length + 1) (objRow obs) (by rfl) (((hrow.out.alloc _).alloc _).alloc _) ⟨_, 0, none⟩ 1 1 [.pointer (some ⟨Y.heap.size + 1, 0, none⟩)] (by simp [Act.eval]; rfl) (by rfl) (World.news_of_block (cs := #[.pointer (some ⟨Y.heap.size + 1, 0, none⟩)]) (t := 95) (fr := (0, 0)) (by exact heap_alloc3_new Y _ _ _)) (by simp [Value.oneCell']) (by omega) hm1.out.1 hm1.out.2 (by simp) _ rfl ?_; intro gg cap w5 hown5 hgrow hat hlt5; obtain ⟨hc5, hf5⟩ := tb_after3 cY4 fY4 lY hnb.out hgrow; replace hat := Lib.hid hat; replace hown5 := Lib.hid hown5; replace hgrow := Lib.hid hgrow)))
      go_ret2
      have hat2 : (Value.slice (some ⟨rb, 0, none⟩) (H.length + 1) c').ownBlock = some gg ∨ Y.heap.size + 3 ≤ gg := by
        rcases hat.out with h | h
        · exact .inl h
        · exact .inr (by simp at h; omega)
      exact ⟨rfl, make_done hN.out hX'.out hT.out hbY.out hgrow.out hat2 hown5.out⟩
  exact main trivial
end Go.Proofs.YtkbohoolnpaleaaGreatDoor
namespace Go.Proofs.YtkbohoolnpaleaaGreatDoor
open Go.RowKit Go.Shelf Go.Lib Go.Sort Go.Proofs Go.Maps
set_option maxHeartbeats 4000000
set_option maxRecDepth 100000

theorem c_Hnew {w : World} {f : Nat → Nat} (hN : Norm f w) (lim : Int) : Calls Tryz.prog 5 #[.int .i64 lim] w fun e w' => ∃ hb f', e = .returned (ptrV hb) ∧ Turn (fun _ => False) f f' w w' ∧ HeapO w' f' hb lim 0 128 [] := by
  have hS := c_Snew hN
  unfold ptrV
  replace hS := Lib.hid hS
  replace hN := Lib.hid hN
  go_enter Tryz.func5, Tryz.ntmps5
  go_wp2_with (go_at_call 15; refine hS.out.mono ?_; rintro e w1 ⟨f1, rfl, t1, hT⟩; replace t1 := Lib.hid t1; replace hT := Lib.hid hT)
  go_ret
  obtain ⟨w2, e2⟩ : ∃ w2, w1.alloc (.cells #[.pointer none] 95) = w2 := ⟨_, rfl⟩
  obtain ⟨w3, e3⟩ : ∃ w3, w2.alloc (.cells #[.int .i64 1, .int .i64 lim, .int .i64 0, .pointer (some ⟨w.heap.size + 3, 0, none⟩), .slice (some ⟨w1.heap.size, 0, none⟩) 1 1] 57) = w3 := ⟨_, rfl⟩
  have s2 : w2.heap.size = w1.heap.size + 1 := by rw [← e2]; simp
  have b2 : Below w1.heap.size w1 w3 := by rw [← e3, ← e2]; exact ((Below.refl _ w1).alloc (Nat.le_refl _) _).alloc (by simp) _
  have d1 : w3.heap[w1.heap.size]? = some (.cells #[.pointer none] 95 (0, 0)) := by rw [← e3, Below.heap_alloc _ _ _ (by omega), ← e2]; exact heap_alloc_new w1 _
  have d2 : w3.heap[w1.heap.size + 1]? = some (.cells #[.int .i64 1, .int .i64 lim, .int .i64 0, .pointer (some ⟨w.heap.size + 3, 0, none⟩), .slice (some ⟨w1.heap.size, 0, none⟩) 1 1] 57 (0, 0)) := by rw [← e3, ← s2]; exact heap_alloc_new w2 _
  have t3 : Turn (fun _ => False) f (give f1 w1 w3 (fun r => if r = w1.heap.size then 2 else 1)) w w3 := t1.out.give _ b2.os b2.tape b2.output b2.size (fun r hr _ => b2.block r hr)
  have t2 : Turn (fun _ => False) f1 (give f1 w1 w3 (fun r => if r = w1.heap.size then 2 else 1)) w1 w3 := (Turn.refl _ t1.out.norm).give _ b2.os b2.tape b2.output b2.size (fun r hr _ => b2.block r hr)
  show ∃ hb f', _ ∧ Turn (fun _ => False) f f' w ((w1.alloc _).alloc _) ∧ HeapO ((w1.alloc _).alloc _) f' hb lim 0 128 []
  rw [e2, e3]
  refine ⟨w1.heap.size + 1, _, rfl, t3, w.heap.size + 3, [[]], .slice (some ⟨w1.heap.size, 0, none⟩) 1 1, [], ⟨d2, ?_⟩, ⟨hT.out.turn t2 id id id id, by simp⟩, ⟨⟨rfl, .inr ⟨w1.heap.size, 1, _, rfl, Nat.zero_le _, d1, Nat.le_refl _, by unfold maxLen; omega, rfl, rfl⟩⟩, ?_⟩, ⟨rfl, rfl⟩, fun i a h => by simp at h⟩
  · rw [give_new (by omega) (heapH_lt d2)]; simp
  · intro r hr
    simp [Value.ownBlock] at hr
    subst hr
    rw [give_new (Nat.le_refl _) (heapH_lt d1)]; simp
/-- an object that is changed -/
def updH (H : List OB) (o : Int) (g : OB → OB) : List OB := match objH H o with | some a => H.set (o.toNat - 1) (g a) | none => H
theorem updH_at {H : List OB} {o : Nat} {a : OB} (h0 : 0 < o) (h : H[o - 1]? = some a) (g : OB → OB) : updH H (o : Int) g = H.set (o - 1) (g a) := by
  unfold updH objH
  rw [hasH_of h0 h, if_pos rfl, Int.toNat_natCast, h]
theorem objH_at {H : List OB} {o : Nat} {a : OB} (h0 : 0 < o) (h : H[o - 1]? = some a) : objH H (o : Int) = some a := by
  unfold objH
  rw [hasH_of h0 h, if_pos rfl, Int.toNat_natCast, h]
/-- the answers -/
def makeE (H : List OB) (lim cls pro : Int) : Int := if cls < 0 ∨ 6 < cls then 1 else if pro ≠ 0 ∧ hasH H pro = false then 151 else if lim ≤ (usedH H : Int) then 150 else 0
def makeH (ft : Bool) (H : List OB) (lim cls pro : Int) : List OB := if makeE H lim cls pro = 0 then H ++ [⟨cls, pro, false, ft, []⟩] else H
def makeN (H : List OB) (lim cls pro : Int) : Int := if makeE H lim cls pro = 0 then ((H.length + 1 : Nat) : Int) else 0
def putE (H : List OB) (lim o : Int) (K : KK) (p : PV) : Int := if hasH H o = false then 151 else if p.fl < 0 ∨ 15 < p.fl then 1 else if (ownH H o K).isSome = false ∧ lim ≤ (usedH H : Int) then 150 else 0
def putA (K : KK) (p : PV) (a : OB) : OB := { a with fast := a.fast && canL a.fast a.l K, l := putL a.l K (keptP p) }
def putH (H : List OB) (lim o : Int) (K : KK) (p : PV) : List OB := if putE H lim o K p = 0 then updH H o (putA K p) else H
def dropA (K : KK) (a : OB) : OB := match idx (gk a.l) K with | some j => { a with fast := false, l := a.l.eraseIdx j } | none => a
def dropB (H : List OB) (o : Int) (K : KK) : Bool := (ownH H o K).isSome
def setE (H : List OB) (o pro : Int) : Int := if hasH H o = false ∨ (pro ≠ 0 ∧ hasH H pro = false) then 151 else 0
def setH (H : List OB) (o pro : Int) : List OB := if setE H o pro = 0 then updH H o (fun a => { a with pro := pro }) else H
def hasE (H : List OB) (o : Int) : Int := if hasH H o then 0 else 151
theorem HeapO.mono {w : World} {f : Nat → Nat} {hb B B' u : Nat} {lim : Int} {H : List OB} (hN : Norm f w) (h : HeapO w f hb lim u B H) (hB : B ≤ B') : HeapO w f hb lim u B' H := by
  obtain ⟨tb, L, rv, obs, h1, h2, h3, h4, h5⟩ := h
  exact ⟨tb, L, rv, obs, h1, ⟨h2.1, by omega⟩, h3, h4, fun i a hi => by
    obtain ⟨ob, q1, q2⟩ := h5 i a hi
    exact ⟨ob, q1, q2.keep (Turn.refl (fun _ => False) hN) id id (fun _ _ h => h) hB⟩⟩
theorem HeapT.mono {w w' : World} {f : Nat → Nat} {hb B B' u : Nat} {lim : Int} {H : List OB} (h : HeapT w f hb lim u B H w') (hB : B ≤ B') : HeapT w f hb lim u B' H w' := by
  obtain ⟨f', h1, h2, h3⟩ := h
  exact ⟨f', h1, h2.mono h1.norm hB, h3⟩
theorem HeapT.drew {w : World} {f : Nat → Nat} {hb B u : Nat} {lim : Int} {H : List OB} (hN : Norm f w) (h : HeapO w f hb lim u B H) : HeapT w f hb lim u B H w.drew := HeapT.same hN h (Below.refl _ w).drew
theorem c_HMake {w : World} {f : Nat → Nat} {hb B : Nat} {lim : Int} {H : List OB} (hN : Norm f w) (h : HeapO w f hb lim (usedH H) B H) (hu : usedH H ≤ 100000) (cls pro : Int) :
    Calls Tryz.prog 33 #[ptrV hb, .int .i64 cls, .int .i64 pro] w fun e w' => e = .returned (.tuple #[.int .i64 (makeN H lim cls pro), .int .i64 (makeE H lim cls pro)]) ∧ HeapT w f hb lim (usedH (makeH true H lim cls pro)) B (makeH true H lim cls pro) w' := by
  have hl : H.length ≤ 100000 := by unfold usedH at hu; omega
  by_cases h1 : cls < 0 ∨ 6 < cls
  · have e1 : makeE H lim cls pro = 1 := by unfold makeE; rw [if_pos h1]
    unfold makeN makeH
    rw [e1]
    refine (c_HMakeR h cls pro h1).mono ?_
    rintro e w' ⟨rfl, rfl⟩
    exact ⟨rfl, HeapT.same hN h (Below.refl _ _)⟩
  · by_cases h2 : pro ≠ 0 ∧ hasH H pro = false
    · have e1 : makeE H lim cls pro = 151 := by unfold makeE; rw [if_neg h1, if_pos h2]
      unfold makeN makeH
      rw [e1]
      refine (c_HMakeP h cls pro (by omega) (by omega) h2.1 h2.2).mono ?_
      rintro e w' ⟨rfl, rfl⟩
      exact ⟨rfl, HeapT.same hN h (Below.refl _ _)⟩
    · have hp : pro = 0 ∨ hasH H pro = true := by
        by_cases e : pro = 0
        · exact .inl e
        · exact .inr (by cases hh : hasH H pro; exact absurd ⟨e, hh⟩ h2; rfl)
      by_cases h3 : lim ≤ (usedH H : Int)
      · have e1 : makeE H lim cls pro = 150 := by unfold makeE; rw [if_neg h1, if_neg h2, if_pos h3]
        unfold makeN makeH
        rw [e1]
        refine (c_HMakeL h cls pro (by omega) (by omega) hp h3).mono ?_
        rintro e w' ⟨rfl, rfl⟩
        exact ⟨rfl, HeapT.drew hN h⟩
      · have e1 : makeE H lim cls pro = 0 := by unfold makeE; rw [if_neg h1, if_neg h2, if_neg h3]
        unfold makeN makeH
        rw [e1]
        refine (c_HMakeT hN h cls pro (by omega) (by omega) hp (by omega) (by omega) hl).mono ?_
        rintro e w' ⟨rfl, ht⟩
        refine ⟨rfl, ?_⟩
        have : usedH (H ++ [⟨cls, pro, false, true, []⟩]) = usedH H + 1 := by unfold usedH; simp; omega
        rw [if_pos rfl, this]
        exact ht
theorem own_some {H : List OB} {o : Nat} {a : OB} (h0 : 0 < o) (h : H[o - 1]? = some a) (K : KK) : (ownH H (o : Int) K).isSome = (getL a.l K).isSome := by unfold ownH; rw [objH_at h0 h]; rfl
theorem putL_len (l : List (KK × PV)) (K : KK) (p : PV) : (putL l K p).length = if (getL l K).isSome then l.length else l.length + 1 := by
  rw [getL_idx]
  unfold putL
  cases h : idx (gk l) K with
  | none => simp
  | some i => simp
theorem c_HPut {w : World} {f : Nat → Nat} {hb B : Nat} {lim : Int} {H : List OB} (hN : Norm f w) (h : HeapO w f hb lim (usedH H) B H) (hB1 : 128 ≤ B) (hB : B < 90000) (hu : usedH H ≤ 100000) (o : Int) (k : KK) (hk : okK k) (p : PV) :
    Calls Tryz.prog 31 #[ptrV hb, .int .i64 o, keyV k.1 k.2, propV p] w fun e w' => e = .returned (.int .i64 (putE H lim o (pk k) p)) ∧ HeapT w f hb lim (usedH (putH H lim o (pk k) p)) (B + 2) (putH H lim o (pk k) p) w' := by
  rcases objH_cases H o with ⟨h1, h2⟩ | ⟨n, a, rfl, h0, ha, h3, h4⟩
  · have e1 : putE H lim o (pk k) p = 151 := by unfold putE; rw [if_pos h1]
    unfold putH
    rw [e1]
    refine (c_HPut0 hN h o k p h1).mono ?_
    rintro e w' ⟨rfl, hb'⟩
    exact ⟨rfl, (HeapT.same hN h hb').mono (by omega)⟩
  · by_cases hf : p.fl < 0 ∨ 15 < p.fl
    · have e1 : putE H lim (n : Int) (pk k) p = 1 := by unfold putE; rw [h4, if_neg (by simp), if_pos hf]
      unfold putH
      rw [e1]
      refine (c_HPutR hN h n k p h4 hf).mono ?_
      rintro e w' ⟨rfl, hb'⟩
      exact ⟨rfl, (HeapT.same hN h hb').mono (by omega)⟩
    · have hos := own_some h0 ha (pk k)
      by_cases hg : (getL a.l (pk k)).isSome = true
      · have e1 : putE H lim (n : Int) (pk k) p = 0 := by unfold putE; rw [h4, if_neg (by simp), if_neg hf, if_neg (by rw [hos, hg]; simp)]
        have hcan : canL a.fast a.l (pk k) = true := by unfold canL; rw [← getL_idx, hg]; simp
        have e2 : putH H lim (n : Int) (pk k) p = H.set (n - 1) { a with l := putL a.l (pk k) (keptP p) } := by
          unfold putH putA
          rw [if_pos e1, updH_at h0 ha, hcan]
          simp
        have e3 : usedH (putH H lim (n : Int) (pk k) p) = usedH H := by
          rw [e2]
          have := usedH_set (a' := { a with l := putL a.l (pk k) (keptP p) }) ha
          have hl := putL_len a.l (pk k) (keptP p)
          rw [hg, if_pos rfl] at hl
          dsimp only at this
          omega
        rw [e1, e3, e2]
        refine (c_HPutST hN h hB1 hB n a h0 ha k hk p (by omega) (by omega) hg hcan).mono ?_
        rintro e w' ⟨rfl, ht⟩
        exact ⟨rfl, ht.mono (by omega)⟩
      · have hg' : (getL a.l (pk k)).isSome = false := by simpa using hg
        by_cases hlim : lim ≤ (usedH H : Int)
        · have e1 : putE H lim (n : Int) (pk k) p = 150 := by unfold putE; rw [h4, if_neg (by simp), if_neg hf, if_pos ⟨by rw [hos, hg'], hlim⟩]
          unfold putH
          rw [e1]
          refine (c_HPutL hN h n a h0 ha k hk p (by omega) (by omega) hg' hlim).mono ?_
          rintro e w' ⟨rfl, hb'⟩
          exact ⟨rfl, (HeapT.same hN h hb').mono (by omega)⟩
        · have e1 : putE H lim (n : Int) (pk k) p = 0 := by unfold putE; rw [h4, if_neg (by simp), if_neg hf, if_neg (by rintro ⟨_, h⟩; exact hlim h)]
          have hl := putL_len a.l (pk k) (keptP p)
          rw [hg'] at hl
          have hl' : (putL a.l (pk k) (keptP p)).length = a.l.length + 1 := by simpa using hl
          cases hcan : canL a.fast a.l (pk k) with
          | true =>
            have e2 : putH H lim (n : Int) (pk k) p = H.set (n - 1) { a with l := putL a.l (pk k) (keptP p) } := by
              unfold putH putA
              rw [if_pos e1, updH_at h0 ha, hcan]
              simp
            have e3 : usedH (putH H lim (n : Int) (pk k) p) = usedH H + 1 := by
              rw [e2]
              have := usedH_set (a' := { a with l := putL a.l (pk k) (keptP p) }) ha
              dsimp only at this
              omega
            rw [e1, e3, e2]
            refine (c_HPutNT hN h hB1 hB n a h0 ha k hk p (by omega) (by omega) hg' hcan (by omega) (by omega)).mono ?_
            rintro e w' ⟨rfl, ht⟩
            exact ⟨rfl, ht.mono (by omega)⟩
          | false =>
            have e2 : putH H lim (n : Int) (pk k) p = H.set (n - 1) { a with fast := false, l := putL a.l (pk k) (keptP p) } := by
              unfold putH putA
              rw [if_pos e1, updH_at h0 ha, hcan]
              simp
            have e3 : usedH (putH H lim (n : Int) (pk k) p) = usedH H + 1 := by
              rw [e2]
              have := usedH_set (a' := { a with fast := false, l := putL a.l (pk k) (keptP p) }) ha
              dsimp only at this
              omega
            rw [e1, e3, e2]
            refine (c_HPutNF hN h hB1 hB n a h0 ha k hk p (by omega) (by omega) hg' hcan (by omega) (by omega)).mono ?_
            rintro e w' ⟨rfl, ht⟩
            exact ⟨rfl, ht.mono (by omega)⟩
end Go.Proofs.YtkbohoolnpaleaaGreatDoor
namespace Go.Proofs.YtkbohoolnpaleaaGreatDoor
open Go.RowKit Go.Shelf Go.Lib Go.Sort Go.Proofs Go.Maps
set_option maxHeartbeats 4000000
set_option maxRecDepth 100000

theorem c_HDropN {w : World} {f : Nat → Nat} {hb B u : Nat} {lim : Int} {H : List OB} (hN : Norm f w) (h : HeapO w f hb lim u B H) (o : Int) (k : KK) (hk : okK k) (hj : (ownH H o (pk k)).isSome = false) :
    Calls Tryz.prog 84 #[ptrV hb, .int .i64 o, keyV k.1 k.2] w fun e w' => e = .returned (.bool false) ∧ Below w.heap.size w w' := by
  obtain ⟨W1, hW1⟩ : ∃ W1, w.alloc (.cells #[.string k.1, .int .i64 k.2] 43) = W1 := ⟨_, rfl⟩
  have hb1 : Below w.heap.size w W1 := by rw [← hW1]; exact (Below.refl _ w).alloc (Nat.le_refl _) _
  have hs1 : W1.heap.size = w.heap.size + 1 := by rw [← hW1]; simp
  have d0 : W1.heap[w.heap.size]? = some (.cells #[.string k.1, .int .i64 k.2] 43 (0, 0)) := by rw [← hW1]; exact heap_alloc_new w _
  have kc0 : W1.cell? ⟨w.heap.size, 0, none⟩ = some (.string k.1) := by rw [cell_of_row _ _ 0 _ _ _ d0]; rfl
  have kc1 : W1.cell? ⟨w.heap.size, 1, none⟩ = some (.int .i64 k.2) := by rw [cell_of_row _ _ 1 _ _ _ d0]; rfl
  have hOw := c_HOwn (fun r hr => hN r (Nat.le_trans hb1.size hr)) (h.below hN hb1) o k hk
  unfold tellV at hOw
  rw [hj] at hOw
  generalize (ownH H o (pk k)).getD zeroPV = P at *
  have hst := fun (y : World) (b : Nat) (hy : ZB y b) => hy.store P
  have hzb := zb_new
  obtain ⟨k0, kn⟩ := k
  unfold ptrV keyV propV at *
  dsimp only at *
  replace hOw := Lib.hid hOw
  replace hb1 := Lib.hid hb1
  replace hs1 := Lib.hid hs1
  replace d0 := Lib.hid d0
  clear hk hj hN h
  go_enter Tryz.func84, Tryz.ntmps84
  go_wp2_with (first | (go_at_call 9; refine hOw.out.mono ?_; rintro e w2 ⟨hb2, rfl⟩; have hz2 := hzb w2; clear kc0 kc1; replace hb2 := Lib.hid hb2))
  go_ret
  have hf6 := (fresh_set (w := w2) (o := (encP zeroPV).toArray) (t := 39) (vs := encP P) rfl).1
  have hB2 : Below w.heap.size w w2 := hb1.out.trans (hb2.out.mono hb1.out.size)
  exact ⟨rfl, hB2.trans (hf6.mono hB2.size)⟩
theorem set_same {H : List OB} {i : Nat} {a : OB} (h : H[i]? = some a) : H.set i a = H := by
  apply List.ext_getElem?
  intro j
  rw [List.getElem?_set]
  split
  · rename_i e; subst e; rw [h, if_pos (List.getElem?_eq_some_iff.1 h).1]
  · rfl
theorem usedH_upd (H : List OB) (o : Int) (g : OB → OB) (hg : ∀ a, (g a).l.length = a.l.length) : usedH (updH H o g) = usedH H := by
  rcases objH_cases H o with ⟨h1, h2⟩ | ⟨n, a, rfl, h0, ha, h3, h4⟩
  · unfold updH; rw [h2]
  · rw [updH_at h0 ha]
    have := usedH_set (a' := g a) ha
    rw [hg] at this
    omega
/-- what an object has -/
def listH (H : List OB) (o : Int) : List (KK × PV) := match objH H o with | some a => a.l | none => []
theorem own_list (H : List OB) (o : Int) (K : KK) : ownH H o K = getL (listH H o) K := by
  unfold ownH listH
  cases objH H o with
  | none => rfl
  | some a => rfl
theorem c_HDrop {w : World} {f : Nat → Nat} {hb B : Nat} {lim : Int} {H : List OB} (hN : Norm f w) (h : HeapO w f hb lim (usedH H) B H) (hB1 : 128 ≤ B) (hB : B ≤ 100000) (hu : usedH H ≤ 100000) (o : Int) (k : KK) (hk : okK k) :
    Calls Tryz.prog 84 #[ptrV hb, .int .i64 o, keyV k.1 k.2] w fun e w' => e = .returned (.bool (dropB H o (pk k))) ∧ HeapT w f hb lim (usedH (updH H o (dropA (pk k)))) B (updH H o (dropA (pk k))) w' := by
  unfold dropB
  cases hd : (ownH H o (pk k)).isSome with
  | false =>
    have e1 : updH H o (dropA (pk k)) = H := by
      rcases objH_cases H o with ⟨h1, h2⟩ | ⟨n, a, rfl, h0, ha, h3, h4⟩
      · unfold updH; rw [h2]
      · rw [updH_at h0 ha]
        rw [own_some h0 ha, getL_idx] at hd
        have : dropA (pk k) a = a := by
          unfold dropA
          cases hi : idx (gk a.l) (pk k) with
          | none => rfl
          | some j => rw [hi] at hd; cases hd
        rw [this, set_same ha]
    rw [e1]
    refine (c_HDropN hN h o k hk hd).mono ?_
    rintro e w' ⟨rfl, hb'⟩
    exact ⟨rfl, HeapT.same hN h hb'⟩
  | true =>
    rcases objH_cases H o with ⟨h1, h2⟩ | ⟨n, a, rfl, h0, ha, h3, h4⟩
    · unfold ownH at hd; rw [h2] at hd; cases hd
    · rw [own_some h0 ha, getL_idx] at hd
      obtain ⟨j, hj⟩ := Option.isSome_iff_exists.1 hd
      have hjl : j < a.l.length := by have := idx_lt hj; simpa [gk] using this
      have e1 : updH H (n : Int) (dropA (pk k)) = H.set (n - 1) { a with fast := false, l := a.l.eraseIdx j } := by
        rw [updH_at h0 ha]
        unfold dropA
        rw [hj]
      have e2 := usedH_set (a' := { a with fast := false, l := a.l.eraseIdx j }) ha
      dsimp only at e2
      rw [List.length_eraseIdx, if_pos hjl] at e2
      have e3 : usedH (updH H (n : Int) (dropA (pk k))) = usedH H - 1 := by rw [e1]; omega
      rw [e3, e1]
      refine (c_HDropT hN h hB1 hB n a h0 ha k hk j hj (by omega) (by omega)).mono ?_
      rintro e w' ⟨rfl, ht⟩
      exact ⟨rfl, ht⟩
theorem c_HForce {w : World} {f : Nat → Nat} {hb B : Nat} {lim : Int} {H : List OB} (hN : Norm f w) (h : HeapO w f hb lim (usedH H) B H) (hB1 : 128 ≤ B) (o : Int) :
    Calls Tryz.prog 47 #[ptrV hb, .int .i64 o] w fun e w' => e = .returned (.int .i64 (hasE H o)) ∧ HeapT w f hb lim (usedH (updH H o (fun a => { a with fast := false }))) B (updH H o (fun a => { a with fast := false })) w' := by
  rw [usedH_upd H o (fun a => { a with fast := false }) (fun _ => rfl)]
  unfold hasE
  rcases objH_cases H o with ⟨h1, h2⟩ | ⟨n, a, rfl, h0, ha, h3, h4⟩
  · unfold updH
    rw [h1, h2]
    refine (c_HForce0 h o h1).mono ?_
    rintro e w' ⟨rfl, rfl⟩
    exact ⟨rfl, HeapT.same hN h (Below.refl _ _)⟩
  · rw [h4, updH_at h0 ha]
    obtain ⟨tb, L, rv, obs, hX⟩ := h
    refine (c_HForceA hN hX hB1 n a h0 ha).mono ?_
    rintro e w' ⟨rfl, ht⟩
    exact ⟨rfl, ht.t⟩
theorem c_HClass {w : World} {f : Nat → Nat} {hb B u : Nat} {lim : Int} {H : List OB} (h : HeapO w f hb lim u B H) (o : Int) :
    Calls Tryz.prog 21 #[ptrV hb, .int .i64 o] w fun e w' => e = .returned (.int .i64 (match objH H o with | some a => a.cls | none => 0)) ∧ w' = w := by
  rcases objH_cases H o with ⟨h1, h2⟩ | ⟨n, a, rfl, h0, ha, h3, h4⟩
  · rw [h2]; exact c_HClass0 h o h1
  · rw [h3]; exact c_HClass1 h n a h0 ha
theorem c_HOpen {w : World} {f : Nat → Nat} {hb B u : Nat} {lim : Int} {H : List OB} (h : HeapO w f hb lim u B H) (o : Int) :
    Calls Tryz.prog 45 #[ptrV hb, .int .i64 o] w fun e w' => e = .returned (.bool (match objH H o with | some a => !a.shut | none => false)) ∧ w' = w := by
  rcases objH_cases H o with ⟨h1, h2⟩ | ⟨n, a, rfl, h0, ha, h3, h4⟩
  · rw [h2]; exact c_HOpen0 h o h1
  · rw [h3]; exact c_HOpen1 h n a h0 ha
theorem KeysOf.nil : KeysOf [] [] := ⟨[], rfl, by unfold Srt; simp, fun _ => rfl, fun _ h => by cases h⟩
theorem c_HKeys {w : World} {f : Nat → Nat} {hb B u : Nat} {lim : Int} {H : List OB} (hN : Norm f w) (h : HeapO w f hb lim u B H) (hB1 : 128 ≤ B) (hB : B ≤ 100000) (o : Int) :
    Calls Tryz.prog 63 #[ptrV hb, .int .i64 o] w fun e w' => ∃ v Z, e = .returned v ∧ RdK w' v Z ∧ KeysOf (gk (listH H o)) Z ∧ Below w.heap.size w w' := by
  unfold listH
  rcases objH_cases H o with ⟨h1, h2⟩ | ⟨n, a, rfl, h0, ha, h3, h4⟩
  · rw [h2]
    refine (c_HKeys0 h o h1).mono ?_
    rintro e w' ⟨rfl, rfl⟩
    exact ⟨_, [], rfl, .inl ⟨rfl, rfl⟩, KeysOf.nil, Below.refl _ _⟩
  · rw [h3]
    exact c_HKeys1 hN h hB1 hB n a h0 ha
end Go.Proofs.YtkbohoolnpaleaaGreatDoor
namespace Go.Proofs.YtkbohoolnpaleaaGreatDoor
open Go.RowKit Go.Shelf Go.Lib Go.Sort Go.Proofs Go.Maps
set_option linter.unusedVariables false
set_option maxHeartbeats 400000
set_option maxRecDepth 8000

/-- a length as a value; a length's property; an element's -/
def numV (n : Nat) : VV := ⟨3, floatOfInt .f64 (n : Int), ⟨#[]⟩, 0⟩
def lenP (n : Nat) : PV := ⟨numV n, zeroVV, zeroVV, 1⟩
def elP (v : VV) : PV := ⟨v, zeroVV, zeroVV, 7⟩
section
variable (kL : KK) (kI : Nat → KK)
def els : Nat → List VV → List (KK × PV)
  | _, [] => []
  | i, v :: l => (kI i, elP v) :: els (i + 1) l
/-- an array's properties -/
def arrL (vs : List VV) : List (KK × PV) := (kL, lenP vs.length) :: els kI 0 vs
theorem els_len (i : Nat) (vs : List VV) : (els kI i vs).length = vs.length := by
  induction vs generalizing i with
  | nil => rfl
  | cons v l ih => simp [els, ih]
theorem els_snoc (i : Nat) (vs : List VV) (v : VV) : els kI i (vs ++ [v]) = els kI i vs ++ [(kI (i + vs.length), elP v)] := by
  induction vs generalizing i with
  | nil => rfl
  | cons a l ih =>
    simp only [List.cons_append, els, ih, List.length_cons]
    rw [show i + 1 + l.length = i + (l.length + 1) by omega]
theorem els_get (i : Nat) (vs : List VV) (n : Nat) : (els kI i vs)[n]? = (vs[n]?).map fun v => (kI (i + n), elP v) := by
  induction vs generalizing i n with
  | nil => simp [els]
  | cons a l ih =>
    cases n with
    | zero => simp [els]
    | succ n =>
      simp only [els, List.getElem?_cons_succ, ih]
      rw [show i + 1 + n = i + (n + 1) by omega]
variable {kL kI} (hI : ∀ i j, i < 300 → j < 300 → kI i = kI j → i = j) (hL : ∀ i, i < 300 → kI i ≠ kL)
include hI in
theorem els_idx (vs : List VV) (i n : Nat) (hn : n < 300) (hs : i + vs.length ≤ 300) (hin : i ≤ n) : idx (gk (els kI i vs)) (kI n) = if n < i + vs.length then some (n - i) else none := by
  induction vs generalizing i with
  | nil =>
    simp only [els, gk, List.map_nil, idx, List.length_nil, Nat.add_zero]
    rw [if_neg (by omega)]
  | cons v l ih =>
    simp only [List.length_cons] at hs
    have e : gk (els kI i (v :: l)) = kI i :: gk (els kI (i + 1) l) := rfl
    rw [e]
    by_cases h : i = n
    · subst h
      simp [idx]
    · have hne : kI i ≠ kI n := fun e => h (hI i n (by omega) hn e)
      simp only [idx, hne, if_false]
      rw [ih (i + 1) (by omega) (by omega)]
      simp only [List.length_cons]
      by_cases h2 : n < i + 1 + l.length
      · rw [if_pos h2, if_pos (by omega)]
        simp only [Option.map_some]
        congr 1
        omega
      · rw [if_neg h2, if_neg (by omega)]
        rfl
include hI hL in
theorem arr_idx (vs : List VV) (n : Nat) (hn : n < 300) (hs : vs.length ≤ 300) : idx (gk (arrL kL kI vs)) (kI n) = if n < vs.length then some (n + 1) else none := by
  have e : gk (arrL kL kI vs) = kL :: gk (els kI 0 vs) := rfl
  rw [e]
  have hne : kL ≠ kI n := fun e => hL n hn e.symm
  simp only [idx, hne, if_false]
  rw [els_idx hI vs 0 n hn (by omega) (by omega)]
  simp only [Nat.zero_add, Nat.sub_zero]
  split <;> rfl
theorem arr_len_get (vs : List VV) : getL (arrL kL kI vs) kL = some (lenP vs.length) := getL_some (i := 0) (by show idx (kL :: gk (els kI 0 vs)) kL = some 0; simp [idx]) rfl
include hI hL in
theorem arr_get (vs : List VV) (n : Nat) (hn : n < 300) (hs : vs.length ≤ 300) : getL (arrL kL kI vs) (kI n) = (vs[n]?).map elP := by
  have hi := arr_idx hI hL vs n hn hs
  by_cases h : n < vs.length
  · rw [if_pos h] at hi
    rw [List.getElem?_eq_getElem h]
    refine getL_some hi ?_
    show (els kI 0 vs)[n]? = _
    rw [els_get, List.getElem?_eq_getElem h, Nat.zero_add]
    rfl
  · rw [if_neg h] at hi
    rw [getL_none hi, List.getElem?_eq_none (by omega)]
    rfl
/-- an element more, the length as it was -/
def arrM (kL : KK) (kI : Nat → KK) (vs : List VV) (v : VV) : List (KK × PV) := (kL, lenP vs.length) :: els kI 0 (vs ++ [v])
include hI hL in
theorem arr_put (vs : List VV) (v : VV) (hs : vs.length < 300) : putL (arrL kL kI vs) (kI vs.length) (elP v) = arrM kL kI vs v := by
  have hi := arr_idx hI hL vs vs.length hs (by omega)
  rw [if_neg (Nat.lt_irrefl _)] at hi
  unfold putL
  rw [hi]
  show (kL, lenP vs.length) :: (els kI 0 vs ++ [(kI vs.length, elP v)]) = _
  unfold arrM
  rw [els_snoc, Nat.zero_add]
theorem arrM_len_get (vs : List VV) (v : VV) : getL (arrM kL kI vs v) kL = some (lenP vs.length) := getL_some (i := 0) (by show idx (kL :: gk (els kI 0 (vs ++ [v]))) kL = some 0; simp [idx]) rfl
theorem arrM_put (vs : List VV) (v : VV) : putL (arrM kL kI vs v) kL (lenP (vs.length + 1)) = arrL kL kI (vs ++ [v]) := by
  have hi : idx (gk (arrM kL kI vs v)) kL = some 0 := by show idx (kL :: gk (els kI 0 (vs ++ [v]))) kL = some 0; simp [idx]
  unfold putL
  rw [hi]
  show (kL, lenP (vs.length + 1)) :: els kI 0 (vs ++ [v]) = _
  unfold arrL
  rw [List.length_append]
  rfl
theorem arrL_length (vs : List VV) : (arrL kL kI vs).length = vs.length + 1 := by simp [arrL, els_len]
theorem arrM_length (vs : List VV) (v : VV) : (arrM kL kI vs v).length = vs.length + 2 := by simp [arrM, els_len]
end
/-- the heap of one array -/
def arrH (l : List (KK × PV)) (fast : Bool) : List OB := [⟨1, 0, false, fast, l⟩]
theorem arrH_used (l : List (KK × PV)) (fast : Bool) : usedH (arrH l fast) = l.length + 1 := by simp [usedH, arrH]; omega
theorem arrH_obj (l : List (KK × PV)) (fast : Bool) : objH (arrH l fast) 1 = some ⟨1, 0, false, fast, l⟩ := objH_at (o := 1) (by decide) rfl
theorem arrH_own (l : List (KK × PV)) (fast : Bool) (K : KK) : ownH (arrH l fast) 1 K = getL l K := by
  unfold ownH
  rw [arrH_obj]
  rfl
theorem arrH_putE (l : List (KK × PV)) (fast : Bool) (K : KK) (p : PV) (lim : Int) (hl : (l.length : Int) + 1 < lim) (hf : 0 ≤ p.fl ∧ p.fl ≤ 15) : putE (arrH l fast) lim 1 K p = 0 := by
  unfold putE
  rw [if_neg (by simp [hasH, arrH]), if_neg (by omega), if_neg]
  rintro ⟨_, h⟩
  rw [arrH_used] at h
  omega
theorem arrH_put (l : List (KK × PV)) (fast : Bool) (K : KK) (p : PV) (lim : Int) (hl : (l.length : Int) + 1 < lim) (hf : 0 ≤ p.fl ∧ p.fl ≤ 15) (hk : keptP p = p) : ∃ fast', putH (arrH l fast) lim 1 K p = arrH (putL l K p) fast' := by
  unfold putH
  rw [if_pos (arrH_putE l fast K p lim hl hf)]
  unfold updH
  rw [arrH_obj]
  refine ⟨fast && canL fast l K, ?_⟩
  show [putA K p ⟨1, 0, false, fast, l⟩] = _
  unfold putA arrH
  rw [hk]
end Go.Proofs.YtkbohoolnpaleaaGreatDoor
namespace Go.Proofs.YtkbohoolnpaleaaGreatDoor
open Go.RowKit Go.Shelf Go.Lib Go.Sort Go.Proofs Go.Maps
set_option linter.unusedVariables false
set_option maxHeartbeats 1000000
set_option maxRecDepth 100000

/-- a heap of objects; below w0 nothing turns; what it owns is of ex, or lies from N on -/
def HS (ex : Nat → Prop) (N : Nat) (w0 : World) (lim : Int) (hb B : Nat) (H : List OB) (w : World) : Prop := ∃ f, Norm f w ∧ HeapO w f hb lim (usedH H) B H ∧ Below w0.heap.size w0 w ∧ (∀ r, r < w0.heap.size → f r = 0) ∧ N ≤ w.heap.size ∧ ∀ r, f r ≠ 0 → ex r ∨ N ≤ r
/-- .. of one array -/
def AS (ex : Nat → Prop) (N : Nat) (w0 : World) (lim : Int) (hb B : Nat) (l : List (KK × PV)) (w : World) : Prop := ∃ fast, HS ex N w0 lim hb B (arrH l fast) w
section
variable {ex : Nat → Prop} {N : Nat} {w0 w w' : World} {lim : Int} {hb B B' : Nat} {H H' : List OB} {l : List (KK × PV)}
theorem HS.keep (h : HS ex N w0 lim hb B H w) (hb' : Below w.heap.size w w') : HS ex N w0 lim hb B H w' := by
  obtain ⟨f, h1, h2, h3, h4, h5, h6⟩ := h
  exact ⟨f, fun r hr => h1 r (Nat.le_trans hb'.size hr), h2.below h1 hb', h3.trans (hb'.mono h3.size), h4, Nat.le_trans h5 hb'.size, h6⟩
theorem HS.step {f : Nat → Nat} (h1 : Norm f w) (h3 : Below w0.heap.size w0 w) (h4 : ∀ r, r < w0.heap.size → f r = 0) (h5 : N ≤ w.heap.size) (h6 : ∀ r, f r ≠ 0 → ex r ∨ N ≤ r) (ht : HeapT w f hb lim (usedH H') B' H' w') : HS ex N w0 lim hb B' H' w' ∧ KeepBut (fun r => ex r ∨ N ≤ r) w w' := by
  obtain ⟨f', t1, t2, _⟩ := ht
  refine ⟨⟨f', t1.norm, t2, h3.trans (t1.below h3.size fun r hr h => h.2 (h4 r hr)), fun r hr => ?_, Nat.le_trans h5 t1.size, fun r hr => ?_⟩, t1.size, fun r hr hn => t1.block r hr (fun h => ?_)⟩
  · rw [t1.agree r (Nat.lt_of_lt_of_le hr h3.size)]
    exact h4 r hr
  · by_cases hlt : r < w.heap.size
    · rw [t1.agree r hlt] at hr
      exact h6 r hr
    · exact .inr (by omega)
  · exact hn (h6 r h.2)
/-- from here on -/
theorem AS.start (h : AS ex N w0 lim hb B l w) : ∃ ex' : Nat → Prop, (∀ r, ex' r → r < w.heap.size ∧ (ex r ∨ N ≤ r) ∧ w0.heap.size ≤ r) ∧ AS ex' w.heap.size w0 lim hb B l w := by
  obtain ⟨fast, f, h1, h2, h3, h4, h5, h6⟩ := h
  refine ⟨fun r => f r ≠ 0, fun r hr => ⟨Nat.lt_of_not_le fun hle => hr (h1 r hle), h6 r hr, Nat.le_of_not_lt fun hlt => hr (h4 r hlt)⟩, fast, f, h1, h2, h3, h4, Nat.le_refl _, fun r hr => .inl hr⟩
theorem AS.wide {ex' : Nat → Prop} {N' : Nat} (h : AS ex N w0 lim hb B l w) (hx : ∀ r, ex r ∨ N ≤ r → ex' r ∨ N' ≤ r) (hN : N' ≤ w.heap.size) : AS ex' N' w0 lim hb B l w := by
  obtain ⟨fast, f, h1, h2, h3, h4, h5, h6⟩ := h
  exact ⟨fast, f, h1, h2, h3, h4, hN, fun r hr => hx r (h6 r hr)⟩
/-- a block that the heap does not own turns -/
theorem AS.put {b : Nat} {o : Obj} (h : AS ex N w0 lim hb B l w) (hb' : ¬ (ex b ∨ N ≤ b)) (hw : w0.heap.size ≤ b) : AS ex N w0 lim hb B l (w.putObj b o) := by
  obtain ⟨fast, f, h1, h2, h3, h4, h5, h6⟩ := h
  have hz : f b = 0 := Classical.byContradiction fun e => hb' (h6 b e)
  have hs : (w.putObj b o).heap.size = w.heap.size := by simp [World.putObj]
  have t1 : Turn (fun c => c = 0) f f w (w.putObj b o) := ⟨rfl, rfl, rfl, by rw [hs]; exact Nat.le_refl _, fun _ _ => rfl, fun r hr => h1 r (by rw [hs] at hr; exact hr), fun r hr hn => World.putObj_heap_other (fun e => hn (by rw [e]; exact hz))⟩
  exact ⟨fast, f, t1.norm, h2.turn t1 (fun _ h => h), h3.trans ⟨rfl, rfl, rfl, by rw [hs]; exact Nat.le_refl _, fun r hr => World.putObj_heap_other (by omega)⟩, h4, by rw [hs]; exact h5, h6⟩
theorem AS.keep (h : AS ex N w0 lim hb B l w) (hb' : Below w.heap.size w w') : AS ex N w0 lim hb B l w' := by
  obtain ⟨fast, h⟩ := h
  exact ⟨fast, h.keep hb'⟩
theorem AS.base (h : AS ex N w0 lim hb B l w) : Below w0.heap.size w0 w := by
  obtain ⟨fast, f, h1, h2, h3, h4, h5, h6⟩ := h
  exact h3
theorem hs_new (w : World) (lim : Int) : Calls Tryz.prog 5 #[.int .i64 lim] w fun e w' => ∃ hb, e = .returned (.pointer (some ⟨hb, 0, none⟩)) ∧ HS (fun _ => False) w.heap.size w lim hb 128 [] w' := by
  refine (c_Hnew (f := fun _ => 0) (fun _ _ => rfl) lim).mono ?_
  rintro e w' ⟨hb, f', rfl, t1, t2⟩
  exact ⟨hb, rfl, f', t1.norm, t2, t1.below (Nat.le_refl _) (fun _ _ h => h), fun r hr => t1.agree r hr, t1.size, fun r hr => .inr (Nat.le_of_not_lt fun h => hr (t1.agree r h))⟩
theorem as_make (h : HS ex N w0 lim hb B [] w) (hl : 0 < lim) : Calls Tryz.prog 33 #[.pointer (some ⟨hb, 0, none⟩), .int .i64 1, .int .i64 0] w fun e w' => e = .returned (.tuple #[.int .i64 1, .int .i64 0]) ∧ AS ex N w0 lim hb B [] w' ∧ KeepBut (fun r => ex r ∨ N ≤ r) w w' := by
  obtain ⟨f, h1, h2, h3, h4, h5, h6⟩ := h
  have hE : makeE [] lim 1 0 = 0 := by
    unfold makeE
    rw [if_neg (by decide), if_neg (by decide), if_neg]
    show ¬ lim ≤ 0
    omega
  have hc := c_HMake (H := []) h1 h2 (by decide) 1 0
  have hN : makeN [] lim 1 0 = 1 := by unfold makeN; rw [if_pos hE]; rfl
  rw [hE, hN] at hc
  refine hc.mono ?_
  rintro e w' ⟨rfl, ht⟩
  have e2 : makeH true [] lim 1 0 = arrH [] true := by unfold makeH; rw [if_pos hE]; rfl
  rw [e2] at ht
  obtain ⟨g1, g2⟩ := HS.step h1 h3 h4 h5 h6 ht
  exact ⟨rfl, ⟨true, g1⟩, g2⟩
theorem as_put (h : AS ex N w0 lim hb B l w) (hB1 : 128 ≤ B) (hB : B < 90000) (hn : l.length ≤ 1000) (hl : (l.length : Int) + 1 < lim) (k : KK) (hk : okK k) (p : PV) (hf : 0 ≤ p.fl ∧ p.fl ≤ 15) (hp : keptP p = p) :
    Calls Tryz.prog 31 #[.pointer (some ⟨hb, 0, none⟩), .int .i64 1, .agg #[.string k.1, .int .i64 k.2], .agg (encP p).toArray] w fun e w' => e = .returned (.int .i64 0) ∧ AS ex N w0 lim hb (B + 2) (putL l (pk k) p) w' ∧ KeepBut (fun r => ex r ∨ N ≤ r) w w' := by
  obtain ⟨fast, f, h1, h2, h3, h4, h5, h6⟩ := h
  have hc := c_HPut h1 h2 hB1 hB (by rw [arrH_used]; omega) 1 k hk p
  obtain ⟨fast', e2⟩ := arrH_put l fast (pk k) p lim hl hf hp
  rw [arrH_putE l fast (pk k) p lim hl hf, e2] at hc
  refine hc.mono ?_
  rintro e w' ⟨rfl, ht⟩
  obtain ⟨g1, g2⟩ := HS.step h1 h3 h4 h5 h6 ht
  exact ⟨rfl, ⟨fast', g1⟩, g2⟩
theorem as_own (h : AS ex N w0 lim hb B l w) (k : KK) (hk : okK k) :
    Calls Tryz.prog 9 #[.pointer (some ⟨hb, 0, none⟩), .int .i64 1, .agg #[.string k.1, .int .i64 k.2]] w fun e w' => e = .returned (.tuple #[.agg (encP ((getL l (pk k)).getD zeroPV)).toArray, .bool (getL l (pk k)).isSome]) ∧ Below w.heap.size w w' := by
  obtain ⟨fast, f, h1, h2, h3, h4, h5, h6⟩ := h
  have hc := c_HOwn h1 h2 1 k hk
  rw [arrH_own] at hc
  exact hc.mono fun e w' hx => ⟨hx.2, hx.1⟩
theorem as_has (h : AS ex N w0 lim hb B l w) : Calls Tryz.prog 20 #[.pointer (some ⟨hb, 0, none⟩), .int .i64 1] w fun e w' => e = .returned (.bool true) ∧ w' = w := by
  obtain ⟨fast, f, h1, h2, h3, h4, h5, h6⟩ := h
  exact c_HHas h2 1
theorem as_class (h : AS ex N w0 lim hb B l w) : Calls Tryz.prog 21 #[.pointer (some ⟨hb, 0, none⟩), .int .i64 1] w fun e w' => e = .returned (.int .i64 1) ∧ w' = w := by
  obtain ⟨fast, f, h1, h2, h3, h4, h5, h6⟩ := h
  exact c_HClass h2 1
theorem as_open (h : AS ex N w0 lim hb B l w) : Calls Tryz.prog 45 #[.pointer (some ⟨hb, 0, none⟩), .int .i64 1] w fun e w' => e = .returned (.bool true) ∧ w' = w := by
  obtain ⟨fast, f, h1, h2, h3, h4, h5, h6⟩ := h
  exact c_HOpen h2 1
theorem as_used (h : AS ex N w0 lim hb B l w) : Calls Tryz.prog 14 #[.pointer (some ⟨hb, 0, none⟩)] w fun e w' => e = .returned (.int .i64 ((l.length + 1 : Nat) : Int)) ∧ w' = w := by
  obtain ⟨fast, f, h1, h2, h3, h4, h5, h6⟩ := h
  rw [← arrH_used l fast]
  exact c_HUsed h2
theorem as_keys (h : AS ex N w0 lim hb B l w) (hB1 : 128 ≤ B) (hB : B ≤ 100000) : Calls Tryz.prog 63 #[.pointer (some ⟨hb, 0, none⟩), .int .i64 1] w fun e w' => ∃ v Z, e = .returned v ∧ RdK w' v Z ∧ KeysOf (gk l) Z ∧ Below w.heap.size w w' := by
  obtain ⟨fast, f, h1, h2, h3, h4, h5, h6⟩ := h
  have hc := c_HKeys h1 h2 hB1 hB 1
  have e : listH (arrH l fast) 1 = l := by unfold listH; rw [arrH_obj]
  rw [e] at hc
  exact hc
theorem as_drop (h : AS ex N w0 lim hb B l w) (hB1 : 128 ≤ B) (hB : B ≤ 100000) (hn : l.length ≤ 1000) (k : KK) (hk : okK k) (j : Nat) (hj : idx (gk l) (pk k) = some j) :
    Calls Tryz.prog 84 #[.pointer (some ⟨hb, 0, none⟩), .int .i64 1, .agg #[.string k.1, .int .i64 k.2]] w fun e w' => e = .returned (.bool true) ∧ AS ex N w0 lim hb B (l.eraseIdx j) w' ∧ KeepBut (fun r => ex r ∨ N ≤ r) w w' := by
  obtain ⟨fast, f, h1, h2, h3, h4, h5, h6⟩ := h
  have hc := c_HDrop h1 h2 hB1 hB (by rw [arrH_used]; omega) 1 k hk
  have e1 : dropB (arrH l fast) 1 (pk k) = true := by
    unfold dropB
    rw [arrH_own, getL_idx, hj]
    rfl
  have e2 : updH (arrH l fast) 1 (dropA (pk k)) = arrH (l.eraseIdx j) false := by
    unfold updH
    rw [arrH_obj]
    show [dropA (pk k) ⟨1, 0, false, fast, l⟩] = _
    unfold dropA
    dsimp only
    rw [hj]
    rfl
  rw [e1, e2] at hc
  refine hc.mono ?_
  rintro e w' ⟨rfl, ht⟩
  obtain ⟨g1, g2⟩ := HS.step h1 h3 h4 h5 h6 ht
  exact ⟨rfl, ⟨false, g1⟩, g2⟩
end
end Go.Proofs.YtkbohoolnpaleaaGreatDoor
namespace Go.Proofs.YtkbohoolnpaleaaGreatDoor
open Go.RowKit Go.Shelf Go.Lib Go.Sort Go.Proofs Go.Maps
set_option linter.unusedVariables false
set_option maxHeartbeats 2000000
set_option maxRecDepth 100000

/-- a merger's cells: a property, and a description -/
def encM (P : PV) (has : Int) (D : PV) : List Value := encP P ++ (.int .i64 has :: encP D)
def MB (w : World) (b : Nat) (P : PV) (has : Int) (D : PV) : Prop := w.heap[b]? = some (.cells (encM P has D).toArray 139 (0, 0))
theorem MB.cell {w : World} {b : Nat} {P D : PV} {has : Int} (h : MB w b P has D) {j : Nat} {u : Value} (hu : (encM P has D)[j]? = some u) : w.cell? ⟨b, j, none⟩ = some u := by
  rw [cell_of_row _ _ j _ _ _ h]
  simpa using hu
theorem MB.fz {w : World} {b : Nat} {P D : PV} {has : Int} (h : MB w b P has D) (j : Nat) : w.frozen? ⟨b, j, none⟩ = false := by
  have h' : w.heap[b]? = some _ := h
  simp [World.frozen?, h']
theorem MB.below {w w' : World} {b : Nat} {P D : PV} {has : Int} (h : MB w b P has D) (hb : Below w.heap.size w w') : MB w' b P has D := (hb.block b (heapH_lt h)).trans h
theorem gbkM_set (w : World) (b i : Nat) (v : Value) : w.grownBy (w.setCell ⟨b, i, none⟩ v) (some b) := ⟨rfl, rfl, rfl, by simp, fun r _ hne => Below.heap_setCell _ _ _ _ (fun e => hne (by rw [show r = b from e]))⟩
theorem gbkM_trans {w w1 w2 : World} {k : Option Nat} (h1 : w.grownBy w1 k) (h2 : w1.grownBy w2 k) : w.grownBy w2 k :=
  ⟨h2.os.trans h1.os, h2.tape.trans h1.tape, h2.output.trans h1.output, Nat.le_trans h1.size h2.size, fun r hr hne => (h2.block r (Nat.lt_of_lt_of_le hr h1.size) hne).trans (h1.block r hr hne)⟩
theorem gbkM_refl (w : World) (k : Option Nat) : w.grownBy w k := ⟨rfl, rfl, rfl, Nat.le_refl _, fun _ _ _ => rfl⟩
theorem gbkM_below {w w1 : World} {k : Option Nat} (h : Below w.heap.size w w1) : w.grownBy w1 k := ⟨h.os, h.tape, h.output, h.size, fun r hr _ => h.block r hr⟩
theorem gbkM_drew {w w' : World} {k : Option Nat} (h : w.grownBy w' k) : w.grownBy w'.drew k := ⟨h.os, h.tape, h.output, h.size, h.block⟩
theorem flag_set {w : World} {b : Nat} {P D : PV} {has : Int} (h : MB w b P has D) (f : Int) : MB (w.setCell ⟨b, 12, none⟩ (.int .i64 f)) b { P with fl := f } has D := by
  unfold MB
  rw [heap_setCell_same w b 12 _ _ (.int .i64 f) h]
  rfl
theorem value_set {w : World} {b : Nat} {P D : PV} {has : Int} (h : MB w b P has D) (v : VV) : MB ((((w.setCell ⟨b, 0, none⟩ (.int .i64 v.k)).setCell ⟨b, 1, none⟩ (.float .f64 v.x)).setCell ⟨b, 2, none⟩ (.string v.s)).setCell ⟨b, 3, none⟩ (.int .i64 v.r)) b { P with v := v } has D := by
  have h1 := heap_setCell_same w b 0 _ _ (.int .i64 v.k) h
  have h2 := heap_setCell_same _ b 1 _ _ (.float .f64 v.x) h1
  have h3 := heap_setCell_same _ b 2 _ _ (.string v.s) h2
  exact heap_setCell_same _ b 3 _ _ (.int .i64 v.r) h3
def nam (has what : Int) : Bool := bits BinOp.and IntKind.i64 has what != 0
theorem c_ONames {w : World} {b : Nat} {has : Int} (c13 : w.cell? ⟨b, 13, none⟩ = some (.int .i64 has)) (what : Int) : Calls Tryz.prog 85 #[.pointer (some ⟨b, 0, none⟩), .int .i64 what] w fun e w' => e = .returned (.bool (nam has what)) ∧ w' = w := by
  go_enter Tryz.func85, Tryz.ntmps85
  go_wp2
  go_ret
  exact ⟨rfl, rfl⟩
def flagV (has what f fl dfl : Int) : Int := if nam has what then bits BinOp.or IntKind.i64 (bits BinOp.andNot IntKind.i64 fl f) (bits BinOp.and IntKind.i64 dfl f) else fl
theorem c_OFlag {w : World} {b : Nat} {P D : PV} {has : Int} (h : MB w b P has D) (what f : Int) : Calls Tryz.prog 111 #[.pointer (some ⟨b, 0, none⟩), .int .i64 what, .int .i64 f] w fun e w' => e = .returned (.tuple #[]) ∧ MB w' b { P with fl := flagV has what f P.fl D.fl } has D ∧ w.grownBy w' (some b) := by
  have c13 := h.cell (j := 13) rfl
  have c12 := h.cell (j := 12) rfl
  have c26 := h.cell (j := 26) rfl
  have f12 := h.fz 12
  have hN := c_ONames c13 what
  unfold flagV
  cases hn : nam has what with
  | false =>
    rw [hn] at hN
    replace hN := Lib.hid hN
    have h' := Lib.hid h
    clear h
    go_enter Tryz.func111, Tryz.ntmps111
    go_wp2_with (go_at_call 85; refine hN.out.mono ?_; rintro e w1 ⟨rfl, rfl⟩)
    go_end0
    exact ⟨rfl, h'.out, gbkM_refl _ _⟩
  | true =>
    rw [hn] at hN
    replace hN := Lib.hid hN
    have h' := Lib.hid h
    clear h
    go_enter Tryz.func111, Tryz.ntmps111
    go_wp2_with (go_at_call 85; refine hN.out.mono ?_; rintro e w1 ⟨rfl, rfl⟩)
    go_region
    all_goals
      go_end0
      exact ⟨rfl, flag_set h'.out _, gbkM_drew (gbkM_set _ _ _ _)⟩
theorem infoValue4 : (Tryz.prog.info? 26).map (·.size) = some 4 := by kernel_rfl
/-- the value is taken over -/
theorem c_OValue {w : World} {b : Nat} {P D : PV} {has : Int} (h : MB w b P has D) (hn : nam has 1 = true) : Calls Tryz.prog 87 #[.pointer (some ⟨b, 0, none⟩)] w fun e w' => e = .returned (.tuple #[]) ∧ MB w' b { P with v := D.v } has D ∧ w.grownBy w' (some b) := by
  have c13 := h.cell (j := 13) rfl
  have d0 := h.cell (j := 14) rfl
  have d1 := h.cell (j := 15) rfl
  have d2 := h.cell (j := 16) rfl
  have d3 := h.cell (j := 17) rfl
  have e0 := h.cell (j := 0) rfl
  have e1 := h.cell (j := 1) rfl
  have e2 := h.cell (j := 2) rfl
  have e3 := h.cell (j := 3) rfl
  have f0 := h.fz 0
  have f1 := h.fz 1
  have f2 := h.fz 2
  have f3 := h.fz 3
  have rsf := fun (w : World) (a : Addr) (x : Nat) => run_store Tryz.prog w a (.float .f64 x) .plain rfl
  have hN := c_ONames c13 1
  rw [hn] at hN
  replace hN := Lib.hid hN
  have h' := Lib.hid h
  clear h
  go_enter Tryz.func87, Tryz.ntmps87
  go_wp2_with (go_at_call 85; refine hN.out.mono ?_; rintro e w1 ⟨rfl, rfl⟩)
  go_end0
  exact ⟨rfl, value_set h'.out _, gbkM_trans (gbkM_trans (gbkM_trans (gbkM_set _ _ _ _) (gbkM_set _ _ _ _)) (gbkM_set _ _ _ _)) (gbkM_set _ _ _ _)⟩
theorem c_OGet {w : World} {b : Nat} {P D : PV} {has : Int} (h : MB w b P has D) (hn : nam has 4 = false) : Calls Tryz.prog 88 #[.pointer (some ⟨b, 0, none⟩)] w fun e w' => e = .returned (.tuple #[]) ∧ w' = w := by
  have hN := c_ONames (h.cell (j := 13) rfl) 4
  rw [hn] at hN
  replace hN := Lib.hid hN
  clear h
  go_enter Tryz.func88, Tryz.ntmps88
  go_wp2_with (go_at_call 85; refine hN.out.mono ?_; rintro e w1 ⟨rfl, rfl⟩)
  go_end0
  exact ⟨rfl, rfl⟩
theorem c_OSet {w : World} {b : Nat} {P D : PV} {has : Int} (h : MB w b P has D) (hn : nam has 8 = false) : Calls Tryz.prog 89 #[.pointer (some ⟨b, 0, none⟩)] w fun e w' => e = .returned (.tuple #[]) ∧ w' = w := by
  have hN := c_ONames (h.cell (j := 13) rfl) 8
  rw [hn] at hN
  replace hN := Lib.hid hN
  clear h
  go_enter Tryz.func89, Tryz.ntmps89
  go_wp2_with (go_at_call 85; refine hN.out.mono ?_; rintro e w1 ⟨rfl, rfl⟩)
  go_end0
  exact ⟨rfl, rfl⟩
def flagsV (has fl dfl : Int) : Int := flagV has 32 4 (flagV has 16 2 (flagV has 2 1 fl dfl) dfl) dfl
theorem c_OFlags {w : World} {b : Nat} {P D : PV} {has : Int} (h : MB w b P has D) : Calls Tryz.prog 90 #[.pointer (some ⟨b, 0, none⟩)] w fun e w' => e = .returned (.tuple #[]) ∧ MB w' b { P with fl := flagsV has P.fl D.fl } has D ∧ w.grownBy w' (some b) := by
  have h1 := c_OFlag h 2 1
  have h2 := fun (y : World) (hy : MB y b { P with fl := flagV has 2 1 P.fl D.fl } has D) => c_OFlag hy 16 2
  have h3 := fun (y : World) (hy : MB y b { P with fl := flagV has 16 2 (flagV has 2 1 P.fl D.fl) D.fl } has D) => c_OFlag hy 32 4
  unfold flagsV
  replace h1 := Lib.hid h1
  replace h2 := Lib.hid h2
  replace h3 := Lib.hid h3
  clear h
  have tokA : True := trivial
  have tokB : True := trivial
  go_enter Tryz.func90, Tryz.ntmps90
  go_wp2_with (first | (go_at_call 111; clear tokA; refine h1.out.mono ?_; rintro e w1 ⟨rfl, m1, g1⟩) | (go_at_call 111; clear tokB; refine (h2.out _ m1).mono ?_; rintro e w2 ⟨rfl, m2, g2⟩) | (go_at_call 111; refine (h3.out _ m2).mono ?_; rintro e w3 ⟨rfl, m3, g3⟩))
  go_end0
  exact ⟨rfl, m3, gbkM_trans (gbkM_trans g1 g2) g3⟩
end Go.Proofs.YtkbohoolnpaleaaGreatDoor
namespace Go.Proofs.YtkbohoolnpaleaaGreatDoor
open Go.RowKit Go.Shelf Go.Lib Go.Sort Go.Proofs Go.Maps
set_option linter.unusedVariables false
set_option maxHeartbeats 2000000
set_option maxRecDepth 100000

theorem zero_set {w : World} {b : Nat} {P D : PV} {has : Int} (h : MB w b P has D) : MB ((((((((w.setCell ⟨b, 4, none⟩ (.int .i64 0)).setCell ⟨b, 5, none⟩ (.float .f64 0)).setCell ⟨b, 6, none⟩ (.string ⟨#[]⟩)).setCell ⟨b, 7, none⟩ (.int .i64 0)).setCell ⟨b, 8, none⟩ (.int .i64 0)).setCell ⟨b, 9, none⟩ (.float .f64 0)).setCell ⟨b, 10, none⟩ (.string ⟨#[]⟩)).setCell ⟨b, 11, none⟩ (.int .i64 0)) b { P with g := zeroVV, t := zeroVV } has D ∧
    w.grownBy ((((((((w.setCell ⟨b, 4, none⟩ (.int .i64 0)).setCell ⟨b, 5, none⟩ (.float .f64 0)).setCell ⟨b, 6, none⟩ (.string ⟨#[]⟩)).setCell ⟨b, 7, none⟩ (.int .i64 0)).setCell ⟨b, 8, none⟩ (.int .i64 0)).setCell ⟨b, 9, none⟩ (.float .f64 0)).setCell ⟨b, 10, none⟩ (.string ⟨#[]⟩)).setCell ⟨b, 11, none⟩ (.int .i64 0)) (some b) := by
  have h1 := heap_setCell_same w b 4 _ _ (.int .i64 0) h
  have h2 := heap_setCell_same _ b 5 _ _ (.float .f64 0) h1
  have h3 := heap_setCell_same _ b 6 _ _ (.string ⟨#[]⟩) h2
  have h4 := heap_setCell_same _ b 7 _ _ (.int .i64 0) h3
  have h5 := heap_setCell_same _ b 8 _ _ (.int .i64 0) h4
  have h6 := heap_setCell_same _ b 9 _ _ (.float .f64 0) h5
  have h7 := heap_setCell_same _ b 10 _ _ (.string ⟨#[]⟩) h6
  have h8 := heap_setCell_same _ b 11 _ _ (.int .i64 0) h7
  refine ⟨h8.trans (congrArg (fun a => some (Obj.cells a 139 (0, 0))) ?_), gbkM_trans (gbkM_trans (gbkM_trans (gbkM_trans (gbkM_trans (gbkM_trans (gbkM_trans (gbkM_set _ _ _ _) (gbkM_set _ _ _ _)) (gbkM_set _ _ _ _)) (gbkM_set _ _ _ _)) (gbkM_set _ _ _ _)) (gbkM_set _ _ _ _)) (gbkM_set _ _ _ _)) (gbkM_set _ _ _ _)⟩
  simp [encM, encP, zeroVV]
theorem MB.prop {w : World} {b : Nat} {P D : PV} {has : Int} (h : MB w b P has D) : w.rangeAt b 0 (encP P) := fun j v hv => by
  rw [Nat.zero_add]
  refine h.cell ?_
  unfold encM
  rw [List.getElem?_append_left (List.getElem?_eq_some_iff.1 hv).1]
  exact hv
def overP (P D : PV) (has : Int) : Nat → PV
  | 0 => P
  | 1 => { P with v := D.v }
  | 2 => { P with v := D.v }
  | 3 => { P with v := D.v }
  | _ => { P with v := D.v, fl := flagsV has P.fl D.fl }
theorem c_OOver {w : World} {b : Nat} {P D : PV} {has : Int} (h : MB w b P has D) (n1 : nam has 1 = true) (n4 : nam has 4 = false) (n8 : nam has 8 = false) (hf : bits BinOp.and IntKind.i64 (flagsV has P.fl D.fl) 8 = 0) :
    Calls Tryz.prog 67 #[.pointer (some ⟨b, 0, none⟩)] w fun e w' => e = .returned (propV ⟨D.v, zeroVV, zeroVV, flagsV has P.fl D.fl⟩) ∧ w.grownBy w' (some b) := by
  obtain ⟨W1, hW1⟩ : ∃ W1, (w.alloc (.cells (encP zeroPV).toArray 39)).alloc (.cells #[.func (.func 87) #[.pointer (some ⟨b, 0, none⟩)] #[], .func (.func 88) #[.pointer (some ⟨b, 0, none⟩)] #[], .func (.func 89) #[.pointer (some ⟨b, 0, none⟩)] #[], .func (.func 90) #[.pointer (some ⟨b, 0, none⟩)] #[]] 1) = W1 := ⟨_, rfl⟩
  have hb1 : Below w.heap.size w W1 := by rw [← hW1]; exact ((Below.refl _ w).alloc (Nat.le_refl _) _).alloc (by simp) _
  have hs1 : W1.heap.size = w.heap.size + 2 := by rw [← hW1]; simp
  have z1 : W1.heap[w.heap.size]? = some (.cells (encP zeroPV).toArray 39 (0, 0)) := by rw [← hW1, Below.heap_alloc _ _ _ (by simp)]; exact heap_alloc_new w _
  have k1 : W1.heap[w.heap.size + 1]? = some (.cells #[.func (.func 87) #[.pointer (some ⟨b, 0, none⟩)] #[], .func (.func 88) #[.pointer (some ⟨b, 0, none⟩)] #[], .func (.func 89) #[.pointer (some ⟨b, 0, none⟩)] #[], .func (.func 90) #[.pointer (some ⟨b, 0, none⟩)] #[]] 1 (0, 0)) := by rw [← hW1]; exact heap_alloc2_new w _ _
  have hlb := heapH_lt h
  have hM1 := h.below hb1
  have hV := fun (y : World) (hy : MB y b P has D) => c_OValue hy n1
  have hG := fun (y : World) (hy : MB y b { P with v := D.v } has D) => c_OGet hy n4
  have hS := fun (y : World) (hy : MB y b { P with v := D.v } has D) => c_OSet hy n8
  have hFl := fun (y : World) (hy : MB y b { P with v := D.v } has D) => c_OFlags hy
  have hk : ∀ y, W1.grownBy y (some b) → y.heap[w.heap.size]? = some (.cells (encP zeroPV).toArray 39 (0, 0)) ∧ y.cell? ⟨w.heap.size + 1, 0, none⟩ = some (.func (.func 87) #[.pointer (some ⟨b, 0, none⟩)] #[]) ∧ y.cell? ⟨w.heap.size + 1, 1, none⟩ = some (.func (.func 88) #[.pointer (some ⟨b, 0, none⟩)] #[]) ∧ y.cell? ⟨w.heap.size + 1, 2, none⟩ = some (.func (.func 89) #[.pointer (some ⟨b, 0, none⟩)] #[]) ∧ y.cell? ⟨w.heap.size + 1, 3, none⟩ = some (.func (.func 90) #[.pointer (some ⟨b, 0, none⟩)] #[]) := fun y hy => by
    have e1 := (hy.block (w.heap.size + 1) (by omega) (fun e => by have := Option.some.inj e; omega)).trans k1
    exact ⟨(hy.block w.heap.size (by omega) (fun e => by have := Option.some.inj e; omega)).trans z1, by rw [cell_of_row _ _ 0 _ _ _ e1]; rfl, by rw [cell_of_row _ _ 1 _ _ _ e1]; rfl, by rw [cell_of_row _ _ 2 _ _ _ e1]; rfl, by rw [cell_of_row _ _ 3 _ _ _ e1]; rfl⟩
  replace hV := Lib.hid hV
  replace hG := Lib.hid hG
  replace hS := Lib.hid hS
  replace hFl := Lib.hid hFl
  replace hk := Lib.hid hk
  replace hb1 := Lib.hid hb1
  replace hs1 := Lib.hid hs1
  have hM1' := Lib.hid hM1
  simp only [encP, zeroPV, zeroVV] at hW1
  clear h z1 k1 hM1
  have g0 := gbkM_refl W1 (some b)
  go_enter Tryz.func67, Tryz.ntmps67
  go_upto_region 2 with fail
  go_loopw [15] (fun vi wr => ∃ i : Nat, i ≤ 4 ∧ vi = .int .i64 (i : Int) ∧ MB wr b (overP P D has i) has D ∧ W1.grownBy wr (some b)) (fun vi _ => 4 - (intOf vi).toNat)
  case atStart => exact ⟨0, by omega, rfl, hM1'.out, g0⟩
  case round =>
    obtain ⟨i, hi, rfl, hM, hg⟩ := hrel
    obtain ⟨z1, k0, k1, k2, k3⟩ := hk.out wr hg
    rcases Nat.lt_or_ge i 4 with hlt | hge
    · have hcase : i = 0 ∨ i = 1 ∨ i = 2 ∨ i = 3 := by omega
      rcases hcase with rfl | rfl | rfl | rfl
      · have hc := hV.out wr hM
        replace hc := Lib.hid hc
        go_wp2_with (go_at_call 87; refine hc.out.mono ?_; rintro e y ⟨rfl, hM2, hg2⟩)
        exact ⟨⟨1, by omega, rfl, hM2, gbkM_trans hg hg2⟩, by simp [intOf]⟩
      · have hc := hG.out wr hM
        replace hc := Lib.hid hc
        go_wp2_with (go_at_call 88; refine hc.out.mono ?_; rintro e y ⟨rfl, rfl⟩)
        exact ⟨⟨2, by omega, rfl, hM, hg⟩, by simp [intOf]⟩
      · have hc := hS.out wr hM
        replace hc := Lib.hid hc
        go_wp2_with (go_at_call 89; refine hc.out.mono ?_; rintro e y ⟨rfl, rfl⟩)
        exact ⟨⟨3, by omega, rfl, hM, hg⟩, by simp [intOf]⟩
      · have hc := hFl.out wr hM
        replace hc := Lib.hid hc
        go_wp2_with (go_at_call 90; refine hc.out.mono ?_; rintro e y ⟨rfl, hM2, hg2⟩)
        exact ⟨⟨4, by omega, rfl, hM2, gbkM_trans hg hg2⟩, by simp [intOf]⟩
    · obtain rfl : i = 4 := by omega
      have hM4 : MB wr b { P with v := D.v, fl := flagsV has P.fl D.fl } has D := hM
      clear k0 k1 k2 k3 hM hi hge hV hG hS hFl
      generalize hfl : flagsV has P.fl D.fl = fl at *
      replace hfl := Lib.hid hfl
      have c12 := hM4.cell (j := 12) rfl
      have e4 := hM4.cell (j := 4) rfl
      have e5 := hM4.cell (j := 5) rfl
      have e6 := hM4.cell (j := 6) rfl
      have e7 := hM4.cell (j := 7) rfl
      have e8 := hM4.cell (j := 8) rfl
      have e9 := hM4.cell (j := 9) rfl
      have e10 := hM4.cell (j := 10) rfl
      have e11 := hM4.cell (j := 11) rfl
      have fz := hM4.fz
      have f4 := fz 4
      have f5 := fz 5
      have f6 := fz 6
      have f7 := fz 7
      have f8 := fz 8
      have f9 := fz 9
      have f10 := fz 10
      have f11 := fz 11
      have hf8 : (bits BinOp.and IntKind.i64 fl 8 != 0) = false := by rw [hf]; rfl
      have rsf := fun (w : World) (a : Addr) (x : Nat) => run_store Tryz.prog w a (.float .f64 x) .plain rfl
      obtain ⟨hM5, hg5⟩ := zero_set hM4
      replace hM4 := Lib.hid hM4
      replace hM5 := Lib.hid hM5
      replace hg5 := Lib.hid hg5
      replace z1 := Lib.hid z1
      replace hg := Lib.hid hg
      clear fz hf
      go_upto_region 9 with fail
      generalize hW5 : (((((((wr.setCell ⟨b, 4, none⟩ (.int .i64 0)).setCell ⟨b, 5, none⟩ (.float .f64 0)).setCell ⟨b, 6, none⟩ (.string ⟨#[]⟩)).setCell ⟨b, 7, none⟩ (.int .i64 0)).setCell ⟨b, 8, none⟩ (.int .i64 0)).setCell ⟨b, 9, none⟩ (.float .f64 0)).setCell ⟨b, 10, none⟩ (.string ⟨#[]⟩)).setCell ⟨b, 11, none⟩ (.int .i64 0) = W5 at *
      clear e4 e5 e6 e7 e8 e9 e10 e11 f4 f5 f6 f7 f8 f9 f10 f11 c12 rsf hf8 hW5 hM4
      have hg6 := gbkM_trans hg.out hg5.out
      have z5 : W5.heap[w.heap.size]? = some (.cells (encP zeroPV).toArray 39 (0, 0)) := (hk.out W5 hg6).1
      have hrg := hM5.out.prop
      generalize hR : ({ v := D.v, g := zeroVV, t := zeroVV, fl := fl } : PV) = R at *
      replace hR := Lib.hid hR
      have hth := there_of (n := 13) (o := 0) z5 (by simp [encP])
      have hi13 : (Tryz.prog.info? 39).map (·.size) = some (encP R).length := infoProp
      have hj13 : (Tryz.prog.info? 39).map (·.size) = some (encP R).toArray.size := infoProp
      have ho13 := all_oneCell_toArray (encP_one R)
      replace z5 := Lib.hid z5
      replace hg6 := Lib.hid hg6
      clear hM5 hg5 hg z1
      go_wp2_with (first | (refine wpList_load_mid (by rfl) 39 _ (by rfl) b 0 (by rfl) (encP R) _ hrg Tryz.underlying39 rfl hi13 ?_) | (refine wpList_store_mid (by rfl) 39 _ _ (by rfl) w.heap.size 0 (encP R).toArray (by rfl) (by rfl) hth hj13 ho13 ?_))
      have hz := heap_setCells_all (t := 39) (vs := encP R) z5.out rfl
      refine bodyPost_ret (results_cell_row rfl _ _ w.heap.size 39 (encP R).toArray (0, 0) _ rfl hz Tryz.underlying39 rfl infoProp) rfl ?_
      refine ⟨by rw [show flagsV has P.fl D.fl = fl from hfl.out, hR.out]; rfl, ?_⟩
      obtain ⟨s1, s2, s3, s4⟩ := size_setCellsH w.heap.size (encP R) 0 W5
      have hgw := gbkM_trans (gbkM_below hb1.out) hg6.out
      exact ⟨s2.trans hgw.os, s3.trans hgw.tape, s4.trans hgw.output, by rw [s1]; exact hgw.size, fun r hr hn => (heap_setCells_ne (encP R) 0 W5 (by omega)).trans (hgw.block r hr hn)⟩
end Go.Proofs.YtkbohoolnpaleaaGreatDoor

/-
  Contracts: Make: the walks. New; what each operation makes of the objects; the contracts of all, joined. The contracts of the heap's other operations, joined. The contract of the laws' awake (heap). The reference's heap: its state; Has, Proto, Class, Open. The reference's heap: an object that is set; SetProto, Shut.
-/
import Derived.Test.YtoccmiinkfhohaaGreatW11
import Derived.Test.YtoccmiinkfhohaaGreatW4
import Derived.Test.YtoccmiinkfhohaaGreatW1
import Derived.Test.YtoccmiinkfhohaaGreatW10
namespace Go.Proofs.YtoccmiinkfhohaaGreat
open Go.RowKit Go.Shelf Go.Lib Go.Sort Go.Proofs Go.Maps
set_option maxHeartbeats 4000000
set_option maxRecDepth 100000

theorem infoPObj : (Tryz.prog.info? 84).map (fun i => (i.zero, i.size, i.bytes)) = some (some (.pointer none), 1, 8) := by kernel_rfl
/-- a heap with one object more -/
theorem make_done {w Y w5 : World} {f : Nat → Nat} {hb B u u' : Nat} {lim : Int} {H : List OB} {tb : Nat} {L : List (List KK)} {rv : Value} {obs : List Nat} {gg cap : Nat} {cls pro : Int} {sb : Obj} (hN : Norm f w) (h : HeapX w f hb lim u B H tb L rv obs)
    (hT : Turn (fun c => c = 1) f f w Y) (h1 : Y.heap[hb]? = some (.cells #[.int .i64 1, .int .i64 lim, .int .i64 (u' : Int), ptrV tb, rv] 66 (0, 0)))
    (hg : (((Y.alloc (.cells #[.int .i64 0, .slice none 0 0] 102)).alloc (.cells #[.int .i64 cls, .int .i64 pro, .bool false, .int .i64 0, .iface 85 (ptrV Y.heap.size)] 92)).alloc sb).grownBy w5 rv.ownBlock)
    (hat : rv.ownBlock = some gg ∨ Y.heap.size + 3 ≤ gg)
    (hown : w5.ownsRow 0 84 1 (.slice (some ⟨gg, 0, none⟩) (H.length + 1 + 1) cap) (H.length + 1 + 1) (objRow obs ++ [ptrV (Y.heap.size + 1)])) :
    HeapT w f hb lim u' B (H ++ [⟨cls, pro, false, true, []⟩]) (w5.setCell ⟨hb, 4, none⟩ (.slice (some ⟨gg, 0, none⟩) (H.length + 1 + 1) cap)) := by
  obtain ⟨q1, q2, q3, q4, q5⟩ := h
  obtain ⟨Y1, e1⟩ : ∃ Y1, Y.alloc (.cells #[.int .i64 0, .slice none 0 0] 102) = Y1 := ⟨_, rfl⟩
  obtain ⟨Y2, e2⟩ : ∃ Y2, Y1.alloc (.cells #[.int .i64 cls, .int .i64 pro, .bool false, .int .i64 0, .iface 85 (ptrV Y.heap.size)] 92) = Y2 := ⟨_, rfl⟩
  obtain ⟨Y3, e3⟩ : ∃ Y3, Y2.alloc sb = Y3 := ⟨_, rfl⟩
  rw [e1, e2, e3] at hg
  have s1 : Y1.heap.size = Y.heap.size + 1 := by rw [← e1]; simp
  have s2 : Y2.heap.size = Y.heap.size + 2 := by rw [← e2]; simp; omega
  have s3 : Y3.heap.size = Y.heap.size + 3 := by rw [← e3]; simp; omega
  have b3 : Below Y.heap.size Y Y3 := by
    rw [← e3, ← e2, ← e1]
    exact ((((Below.refl _ Y).alloc (Nat.le_refl _) _).alloc (by simp) _).alloc (by simp; omega) _)
  have d1 : Y3.heap[Y.heap.size]? = some (.cells #[.int .i64 0, .slice none 0 0] 102 (0, 0)) := by
    rw [← e3, Below.heap_alloc _ _ _ (by omega), ← e2, Below.heap_alloc _ _ _ (by omega), ← e1]; exact heap_alloc_new Y _
  have d2 : Y3.heap[Y.heap.size + 1]? = some (.cells #[.int .i64 cls, .int .i64 pro, .bool false, .int .i64 0, .iface 85 (ptrV Y.heap.size)] 92 (0, 0)) := by
    rw [← e3, Below.heap_alloc _ _ _ (by omega), ← e2, ← s1]; exact heap_alloc_new Y1 _
  have nrow : ∀ k, rv.ownBlock = some k → k < Y.heap.size := fun k hk => Nat.lt_of_lt_of_le (q3.1.lt k hk).2 hT.size
  have fw : ∀ r, w.heap.size ≤ r → f r = 0 := hN
  obtain ⟨g, hgd⟩ : ∃ g : Nat → Nat, (fun r => if r = Y.heap.size then 10 + 2 * H.length else if r = Y.heap.size + 1 then 11 + 2 * H.length else if r = gg then 2 else 0) = g := ⟨_, rfl⟩
  have k5 : ∀ r, r < Y3.heap.size → (∀ k, rv.ownBlock = some k → r ≠ k) → w5.heap[r]? = Y3.heap[r]? := fun r hr hk => hg.block r hr (fun e => hk r e.symm rfl)
  have z1 := (k5 _ (by omega) (fun k hk e => by have := nrow k hk; omega)).trans d1
  have z2 := (k5 _ (by omega) (fun k hk e => by have := nrow k hk; omega)).trans d2
  have t1 : Turn (fun c => c = 1 ∨ c = 2) f (give f Y w5 g) w w5 := (hT.mono (fun _ h => .inl h)).give g (hg.os.trans b3.os) (hg.tape.trans b3.tape) (hg.output.trans b3.output) (Nat.le_trans b3.size hg.size) (fun r hr hc => by
    refine (k5 r (by omega) (fun k hk e => hc ?_)).trans (b3.block r hr)
    rw [e]
    exact .inr (q3.2 k hk))
  have fb1 : give f Y w5 g hb = 1 := by rw [give_old (heapH_lt h1)]; exact q1.2
  have f1 : give f Y w5 g Y.heap.size = 10 + 2 * H.length := by rw [give_new (Nat.le_refl _) (heapH_lt z1), ← hgd]; simp
  have f2 : give f Y w5 g (Y.heap.size + 1) = 11 + 2 * H.length := by rw [give_new (Nat.le_succ _) (heapH_lt z2), ← hgd]; simp
  have f3 : give f Y w5 g gg = 2 := by
    rcases hat with h | h
    · rw [give_old (nrow gg h)]; exact q3.2 gg h
    · rw [give_new (by omega) ((hown.lt gg rfl).2), ← hgd]
      have a1 : gg ≠ Y.heap.size := by omega
      have a2 : gg ≠ Y.heap.size + 1 := by omega
      simp [a1, a2]
  have nf := row_not q3.1 q1.1 (by decide)
  have hbw := heapH_lt q1.1
  have ng : gg ≠ hb := fun e => by rw [e, fb1] at f3; omega
  have hb5 : w5.heap[hb]? = some (.cells #[.int .i64 1, .int .i64 lim, .int .i64 (u' : Int), ptrV tb, rv] 66 (0, 0)) := ((k5 hb (Nat.lt_of_lt_of_le (heapH_lt h1) b3.size) (fun k hk e => nf (by rw [hk, e]))).trans (b3.block hb (heapH_lt h1))).trans h1
  generalize give f Y w5 g = f' at *
  have t2 : Turn (fun c => c = 1) f' f' w5 (w5.setCell ⟨hb, 4, none⟩ (.slice (some ⟨gg, 0, none⟩) (H.length + 1 + 1) cap)) := (Turn.refl _ t1.norm).set hb 4 _ fb1
  have tt : Turn (fun c => c = 1 ∨ c = 2) f f' w (w5.setCell ⟨hb, 4, none⟩ (.slice (some ⟨gg, 0, none⟩) (H.length + 1 + 1) cap)) := t1.trans (t2.mono fun _ h => .inl h)
  suffices hX : HeapX (w5.setCell ⟨hb, 4, none⟩ (.slice (some ⟨gg, 0, none⟩) (H.length + 1 + 1) cap)) f' hb lim u' B (H ++ [⟨cls, pro, false, true, []⟩]) tb L (.slice (some ⟨gg, 0, none⟩) (H.length + 1 + 1) cap) (obs ++ [Y.heap.size + 1]) from ⟨f', tt.mono (fun c hc => by omega), hX.heap, HeapX.grows (u := u) (B := B) (H := H) tt.norm ⟨q1, q2, q3, q4, q5⟩ hX (fun _ _ h => h)⟩
  refine ⟨⟨?_, fb1⟩, ⟨q2.1.turn tt (by omega) (by omega) (by omega) (by omega), q2.2⟩, ⟨?_, ?_⟩, ⟨by simp [q4.1], q4.2⟩, fun i a hi => ?_⟩
  · rw [heap_setCell_same w5 hb 4 _ _ _ hb5]; rfl
  · have ee : objRow (obs ++ [Y.heap.size + 1]) = objRow obs ++ [ptrV (Y.heap.size + 1)] := by simp [objRow]
    rw [ee, List.length_append]
    exact own_at hown fun r hr => by
      injection hr with hr; subst hr
      exact Below.heap_setCell _ _ _ _ ng
  · intro r hr
    injection hr with hr
    change gg = r at hr
    subst hr
    exact f3
  · rcases Nat.lt_or_ge i H.length with hlt | hge
    · rw [List.getElem?_append_left hlt] at hi
      obtain ⟨ob, r1, r2⟩ := q5 i a hi
      refine ⟨ob, ?_, r2.keep tt (by omega) (by omega) (fun _ _ h => h) (Nat.le_refl _)⟩
      rw [List.getElem?_append_left (by rw [q4.1]; exact hlt)]
      exact r1
    · obtain rfl : i = H.length := by
        have := (List.getElem?_eq_some_iff.1 hi).1
        simp at this; omega
      rw [List.getElem?_append_right (Nat.le_refl _), Nat.sub_self] at hi
      obtain rfl : _ = a := Option.some.inj hi
      refine ⟨Y.heap.size + 1, by rw [← q4.1, List.getElem?_append_right (Nat.le_refl _), Nat.sub_self]; rfl, 0, .iface 85 (ptrV Y.heap.size), ⟨?_, by rw [f2]; omega⟩, .inl ⟨rfl, Y.heap.size, [], [], rfl, ⟨0, .slice none 0 0, ⟨?_, f1⟩, ⟨⟨rfl, .inl ⟨rfl, rfl⟩⟩, fun k h => by cases h⟩, q4.2, rfl⟩, Nat.zero_le _, rfl⟩⟩
      · exact (t2.block _ (heapH_lt z2) (by rw [f2]; omega)).trans z2
      · exact (t2.block _ (heapH_lt z1) (by rw [f1]; omega)).trans z1
theorem heap_alloc3_new (Y : World) (o1 o2 o3 : Obj) : (((Y.alloc o1).alloc o2).alloc o3).heap[Y.heap.size + 1 + 1]? = some o3 := by
  have := heap_alloc2_new (Y.alloc o1) o2 o3
  rwa [show (Y.alloc o1).heap.size + 1 = Y.heap.size + 1 + 1 by simp] at this
theorem tb_after3 {w w5 : World} {tb i : Nat} {rv u : Value} {o1 o2 o3 : Obj} (hc : w.cell? ⟨tb, i, none⟩ = some u) (hf : w.frozen? ⟨tb, i, none⟩ = false) (hl : tb < w.heap.size) (hn : rv.ownBlock ≠ some tb) (hg : (((w.alloc o1).alloc o2).alloc o3).grownBy w5 rv.ownBlock) :
    w5.cell? ⟨tb, i, none⟩ = some u ∧ w5.frozen? ⟨tb, i, none⟩ = false := by
  have h : w5.heap[tb]? = w.heap[tb]? := by
    refine (hg.block tb (by simp; omega) (fun e => hn e.symm)).trans ?_
    rw [Below.heap_alloc _ _ _ (by simp; omega), Below.heap_alloc _ _ _ (by simp; omega), Below.heap_alloc _ _ _ hl]
  exact ⟨(World.cell?_of_block (w := w) h).trans hc, (World.frozen?_of_block (w := w) h).trans hf⟩
theorem c_HMakeR {w : World} {f : Nat → Nat} {hb B u : Nat} {lim : Int} {H : List OB} (h : HeapO w f hb lim u B H) (cls pro : Int) (hc : cls < 0 ∨ 6 < cls) :
    Calls Tryz.prog 16 #[ptrV hb, .int .i64 cls, .int .i64 pro] w fun e w' => e = .returned (.tuple #[.int .i64 0, .int .i64 1]) ∧ w' = w := by
  obtain ⟨rb, c, tb, c0, c1, c2, c3, c4, l1, l2, _⟩ := h.form
  unfold ptrV at *
  clear h
  rcases hc with hc | hc
  · go_enter Tryz.func16, Tryz.ntmps16
    go_wp2
    go_ret2
    exact ⟨rfl, rfl⟩
  · have h1 : ¬ cls < 0 := by omega
    go_enter Tryz.func16, Tryz.ntmps16
    go_wp2
    go_ret2
    exact ⟨rfl, rfl⟩
theorem c_HMakeP {w : World} {f : Nat → Nat} {hb B u : Nat} {lim : Int} {H : List OB} (h : HeapO w f hb lim u B H) (cls pro : Int) (hc0 : 0 ≤ cls) (hc6 : cls ≤ 6) (hp : pro ≠ 0) (hp2 : hasH H pro = false) :
    Calls Tryz.prog 16 #[ptrV hb, .int .i64 cls, .int .i64 pro] w fun e w' => e = .returned (.tuple #[.int .i64 0, .int .i64 151]) ∧ w' = w := by
  have hH := c_HHas h pro
  rw [hp2] at hH
  obtain ⟨rb, c, tb, c0, c1, c2, c3, c4, l1, l2, _⟩ := h.form
  have hpe : (pro == 0) = false := by simpa using hp
  have hpn : (pro != 0) = true := by simpa using hp
  have h1 : ¬ cls < 0 := by omega
  have h2 : ¬ 6 < cls := by omega
  unfold ptrV at *
  replace hH := Lib.hid hH
  clear h hp hp2
  go_enter Tryz.func16, Tryz.ntmps16
  go_wp2_with (go_at_call 35; refine hH.out.mono ?_; rintro e w1 ⟨rfl, rfl⟩)
  go_ret2
  exact ⟨rfl, rfl⟩
theorem c_HMakeL {w : World} {f : Nat → Nat} {hb B u : Nat} {lim : Int} {H : List OB} (h : HeapO w f hb lim u B H) (cls pro : Int) (hc0 : 0 ≤ cls) (hc6 : cls ≤ 6) (hp : pro = 0 ∨ hasH H pro = true) (hlt : lim ≤ (u : Int)) :
    Calls Tryz.prog 16 #[ptrV hb, .int .i64 cls, .int .i64 pro] w fun e w' => e = .returned (.tuple #[.int .i64 0, .int .i64 150]) ∧ w' = w.drew := by
  have hH := c_HHas h pro
  obtain ⟨rb, c, tb, c0, c1, c2, c3, c4, l1, l2, _⟩ := h.form
  have h1 : ¬ cls < 0 := by omega
  have h2 : ¬ 6 < cls := by omega
  have hdl : decide (lim ≤ (u : Int)) = true := decide_eq_true hlt
  have ho := onto_drew w
  unfold ptrV at *
  clear h hlt
  by_cases hpz : pro = 0
  · subst hpz
    clear hH hp
    go_enter Tryz.func16, Tryz.ntmps16
    go_wp2_with fail
    go_region_held3 (fun y => y = w.drew) (first | with_reducible assumption | rfl) (fail)
    go_wp2_with fail
    go_ret2
    exact ⟨rfl, rfl⟩
  · have hp' : hasH H pro = true := by rcases hp with h | h; exact absurd h hpz; exact h
    rw [hp'] at hH
    have hpe : (pro == 0) = false := by simpa using hpz
    have hpn : (pro != 0) = true := by simpa using hpz
    replace hH := Lib.hid hH
    clear hp hp' hpz
    go_enter Tryz.func16, Tryz.ntmps16
    go_wp2_with (go_at_call 35; refine hH.out.mono ?_; rintro e w1 ⟨rfl, e1⟩; cases e1)
    go_region_held3 (fun y => y = w.drew) (first | with_reducible assumption | rfl) (fail)
    go_wp2_with fail
    go_ret2
    exact ⟨rfl, rfl⟩
theorem c_HMakeT {w : World} {f : Nat → Nat} {hb B u : Nat} {lim : Int} {H : List OB} (hN : Norm f w) (h : HeapO w f hb lim u B H) (cls pro : Int) (hc0 : 0 ≤ cls) (hc6 : cls ≤ 6) (hp : pro = 0 ∨ hasH H pro = true) (hlt : (u : Int) < lim) (hu : u ≤ 100000000) (hl : H.length ≤ 100000) :
    Calls Tryz.prog 16 #[ptrV hb, .int .i64 cls, .int .i64 pro] w fun e w' => e = .returned (.tuple #[.int .i64 ((H.length + 1 : Nat) : Int), .int .i64 0]) ∧ HeapT w f hb lim (u + 1) B (H ++ [⟨cls, pro, false, true, []⟩]) w' := by
  have hH := c_HHas h pro
  obtain ⟨rb, c, tb, c0, c1, c2, c3, c4, l1, l2, _⟩ := h.form
  obtain ⟨tb', L, rv, obs, hX⟩ := h
  have hX' : HeapX w f hb lim u B H tb' L rv obs := hX
  clear hX
  have h1 : ¬ cls < 0 := by omega
  have h2 : ¬ 6 < cls := by omega
  have hdl : decide (lim ≤ (u : Int)) = false := decide_eq_false (by omega)
  obtain ⟨i0, hi0, hz0, hz1, hz2⟩ := info_parts infoPObj
  have p0u : (0 : Int) ≤ (u : Int) := by omega
  have p1u : (u : Int) ≤ 100000000 := by omega
  have hnb := row_not hX'.2.2.1.1 hX'.1.1 (by decide)
  obtain ⟨Y, hY⟩ : ∃ Y, w.drew.setCell ⟨hb, 2, none⟩ (.int .i64 ((u : Int) + 1)) = Y := ⟨_, rfl⟩
  have hT : Turn (fun c => c = 1) f f w Y := by rw [← hY]; exact ((Turn.refl _ hN).drew).set hb 2 _ hX'.1.2
  have hbY : Y.heap[hb]? = some (.cells #[.int .i64 1, .int .i64 lim, .int .i64 ((u + 1 : Nat) : Int), ptrV tb', rv] 66 (0, 0)) := by
    rw [← hY, heap_setCell_same w.drew hb 2 _ _ _ hX'.1.1]; rfl
  have hrow : Y.ownsRow 0 84 1 rv (H.length + 1) (objRow obs) := (hX'.2.2.1.turn hT (by omega)).1
  have f2w : w.frozen? ⟨hb, 2, none⟩ = false := by simp [World.frozen?, hX'.1.1]
  have cY4 : Y.cell? ⟨hb, 4, none⟩ = some rv := by rw [cell_of_row _ _ 4 _ _ _ hbY]; rfl
  have fY4 : Y.frozen? ⟨hb, 4, none⟩ = false := by simp [World.frozen?, hbY]
  have lY := heapH_lt hbY
  have hrv : ∃ c, rv = .slice (some ⟨rb, 0, none⟩) (H.length + 1) c := by
    have h4 := cell_of_row w hb 4 _ _ _ hX'.1.1
    rw [c4] at h4
    exact ⟨c, by have := Option.some.inj h4.symm; exact this⟩
  obtain ⟨c', rfl⟩ := hrv
  unfold ptrV at hH ⊢
  replace hX' := Lib.hid hX'
  replace hN := Lib.hid hN
  replace hT := Lib.hid hT
  replace hrow := Lib.hid hrow
  replace hbY := Lib.hid hbY
  replace hnb := Lib.hid hnb
  have hm1 : H.length + 1 + 1 ≤ maxLen ∧ (H.length + 1 + 1) * 8 ≤ 140737488355328 := by unfold maxLen; omega
  replace hm1 := Lib.hid hm1
  clear hlt
  have main : ∀ _ : True, Calls Tryz.prog 16 #[.pointer (some ⟨hb, 0, none⟩), .int .i64 cls, .int .i64 pro] w fun e w' => e = .returned (.tuple #[.int .i64 ((H.length + 1 : Nat) : Int), .int .i64 0]) ∧ HeapT w f hb lim (u + 1) B (H ++ [⟨cls, pro, false, true, []⟩]) w' := by
    intro _
    by_cases hpz : pro = 0
    · subst hpz
      clear hH hp
      go_enter Tryz.func16, Tryz.ntmps16
      go_wp2_with fail
      go_region_held3 (fun y => y = w.drew) (first | with_reducible assumption | rfl) (fail)
      go_wp2_with (first | (at_builtin; go_loud (refine wpList_append_lies _ (by rfl) _ _ _ (by rfl) 0 84 i0 _ 1 8 Tryz.underlying64 hi0 hz0 hz1 hz2 rfl (by omega) (.slice (some ⟨rb, 0, none⟩) (H.length + 1) c') (H.length + 1) (objRow obs) (by rfl) (((hrow.out.alloc _).alloc _).alloc _) ⟨_, 0, none⟩ 1 1 [.pointer (some ⟨Y.heap.size + 1, 0, none⟩)] (by simp [Act.eval]; rfl) (by rfl) (World.news_of_block (cs := #[.pointer (some ⟨Y.heap.size + 1, 0, none⟩)]) (t := 84) (fr := (0, 0)) (by exact heap_alloc3_new Y _ _ _)) (by simp [Value.oneCell']) (by omega) hm1.out.1 hm1.out.2 (by simp) _ rfl ?_; intro gg cap w5 hown5 hgrow hat hlt5; obtain ⟨hc5, hf5⟩ := tb_after3 cY4 fY4 lY hnb.out hgrow; replace hat := Lib.hid hat; replace hown5 := Lib.hid hown5; replace hgrow := Lib.hid hgrow)))
      go_ret2
      have hat2 : (Value.slice (some ⟨rb, 0, none⟩) (H.length + 1) c').ownBlock = some gg ∨ Y.heap.size + 3 ≤ gg := by
        rcases hat.out with h | h
        · exact .inl h
        · exact .inr (by simp at h; omega)
      exact ⟨rfl, make_done hN.out hX'.out hT.out hbY.out hgrow.out hat2 hown5.out⟩
    · have hp' : hasH H pro = true := by rcases hp with h | h; exact absurd h hpz; exact h
      rw [hp'] at hH
      have hpe : (pro == 0) = false := by simpa using hpz
      have hpn : (pro != 0) = true := by simpa using hpz
      replace hH := Lib.hid hH
      clear hp hp' hpz
      go_enter Tryz.func16, Tryz.ntmps16
      go_wp2_with (go_at_call 35; refine hH.out.mono ?_; rintro e w1 ⟨rfl, e1⟩; cases e1)
      go_region_held3 (fun y => y = w.drew) (first | with_reducible assumption | rfl) (fail)
      go_wp2_with (first | (at_builtin; go_loud (refine wpList_append_lies _ (by rfl) _ _ _ (by rfl) 0 84 i0 _ 1 8 Tryz.underlying64 hi0 hz0 hz1 hz2 rfl (by omega) (.slice (some ⟨rb, 0, none⟩) (H.length + 1) c') (H.length + 1) (objRow obs) (by rfl) (((hrow.out.alloc _).alloc _).alloc _) ⟨_, 0, none⟩ 1 1 [.pointer (some ⟨Y.heap.size + 1, 0, none⟩)] (by simp [Act.eval]; rfl) (by rfl) (World.news_of_block (cs := #[.pointer (some ⟨Y.heap.size + 1, 0, none⟩)]) (t := 84) (fr := (0, 0)) (by exact heap_alloc3_new Y _ _ _)) (by simp [Value.oneCell']) (by omega) hm1.out.1 hm1.out.2 (by simp) _ rfl ?_; intro gg cap w5 hown5 hgrow hat hlt5; obtain ⟨hc5, hf5⟩ := tb_after3 cY4 fY4 lY hnb.out hgrow; replace hat := Lib.hid hat; replace hown5 := Lib.hid hown5; replace hgrow := Lib.hid hgrow)))
      go_ret2
      have hat2 : (Value.slice (some ⟨rb, 0, none⟩) (H.length + 1) c').ownBlock = some gg ∨ Y.heap.size + 3 ≤ gg := by
        rcases hat.out with h | h
        · exact .inl h
        · exact .inr (by simp at h; omega)
      exact ⟨rfl, make_done hN.out hX'.out hT.out hbY.out hgrow.out hat2 hown5.out⟩
  exact main trivial
end Go.Proofs.YtoccmiinkfhohaaGreat
namespace Go.Proofs.YtoccmiinkfhohaaGreat
open Go.RowKit Go.Shelf Go.Lib Go.Sort Go.Proofs Go.Maps
set_option maxHeartbeats 4000000
set_option maxRecDepth 100000

theorem c_Hnew {w : World} {f : Nat → Nat} (hN : Norm f w) (lim : Int) : Calls Tryz.prog 7 #[.int .i64 lim] w fun e w' => ∃ hb f', e = .returned (ptrV hb) ∧ Turn (fun _ => False) f f' w w' ∧ HeapO w' f' hb lim 0 128 [] := by
  have hS := c_Snew hN
  unfold ptrV
  replace hS := Lib.hid hS
  replace hN := Lib.hid hN
  go_enter Tryz.func7, Tryz.ntmps7
  go_wp2_with (go_at_call 24; refine hS.out.mono ?_; rintro e w1 ⟨f1, rfl, t1, hT⟩; replace t1 := Lib.hid t1; replace hT := Lib.hid hT)
  go_ret
  obtain ⟨w2, e2⟩ : ∃ w2, w1.alloc (.cells #[.pointer none] 84) = w2 := ⟨_, rfl⟩
  obtain ⟨w3, e3⟩ : ∃ w3, w2.alloc (.cells #[.int .i64 1, .int .i64 lim, .int .i64 0, .pointer (some ⟨w.heap.size + 3, 0, none⟩), .slice (some ⟨w1.heap.size, 0, none⟩) 1 1] 66) = w3 := ⟨_, rfl⟩
  have s2 : w2.heap.size = w1.heap.size + 1 := by rw [← e2]; simp
  have b2 : Below w1.heap.size w1 w3 := by rw [← e3, ← e2]; exact ((Below.refl _ w1).alloc (Nat.le_refl _) _).alloc (by simp) _
  have d1 : w3.heap[w1.heap.size]? = some (.cells #[.pointer none] 84 (0, 0)) := by rw [← e3, Below.heap_alloc _ _ _ (by omega), ← e2]; exact heap_alloc_new w1 _
  have d2 : w3.heap[w1.heap.size + 1]? = some (.cells #[.int .i64 1, .int .i64 lim, .int .i64 0, .pointer (some ⟨w.heap.size + 3, 0, none⟩), .slice (some ⟨w1.heap.size, 0, none⟩) 1 1] 66 (0, 0)) := by rw [← e3, ← s2]; exact heap_alloc_new w2 _
  have t3 : Turn (fun _ => False) f (give f1 w1 w3 (fun r => if r = w1.heap.size then 2 else 1)) w w3 := t1.out.give _ b2.os b2.tape b2.output b2.size (fun r hr _ => b2.block r hr)
  have t2 : Turn (fun _ => False) f1 (give f1 w1 w3 (fun r => if r = w1.heap.size then 2 else 1)) w1 w3 := (Turn.refl _ t1.out.norm).give _ b2.os b2.tape b2.output b2.size (fun r hr _ => b2.block r hr)
  show ∃ hb f', _ ∧ Turn (fun _ => False) f f' w ((w1.alloc _).alloc _) ∧ HeapO ((w1.alloc _).alloc _) f' hb lim 0 128 []
  rw [e2, e3]
  refine ⟨w1.heap.size + 1, _, rfl, t3, w.heap.size + 3, [[]], .slice (some ⟨w1.heap.size, 0, none⟩) 1 1, [], ⟨d2, ?_⟩, ⟨hT.out.turn t2 id id id id, by simp⟩, ⟨⟨rfl, .inr ⟨w1.heap.size, 1, _, rfl, Nat.zero_le _, d1, Nat.le_refl _, by unfold maxLen; omega, rfl, rfl⟩⟩, ?_⟩, ⟨rfl, rfl⟩, fun i a h => by simp at h⟩
  · rw [give_new (by omega) (heapH_lt d2)]; simp
  · intro r hr
    simp [Value.ownBlock] at hr
    subst hr
    rw [give_new (Nat.le_refl _) (heapH_lt d1)]; simp
/-- an object that is changed -/
def updH (H : List OB) (o : Int) (g : OB → OB) : List OB := match objH H o with | some a => H.set (o.toNat - 1) (g a) | none => H
theorem updH_at {H : List OB} {o : Nat} {a : OB} (h0 : 0 < o) (h : H[o - 1]? = some a) (g : OB → OB) : updH H (o : Int) g = H.set (o - 1) (g a) := by
  unfold updH objH
  rw [hasH_of h0 h, if_pos rfl, Int.toNat_natCast, h]
theorem objH_at {H : List OB} {o : Nat} {a : OB} (h0 : 0 < o) (h : H[o - 1]? = some a) : objH H (o : Int) = some a := by
  unfold objH
  rw [hasH_of h0 h, if_pos rfl, Int.toNat_natCast, h]
/-- the answers -/
def makeE (H : List OB) (lim cls pro : Int) : Int := if cls < 0 ∨ 6 < cls then 1 else if pro ≠ 0 ∧ hasH H pro = false then 151 else if lim ≤ (usedH H : Int) then 150 else 0
def makeH (ft : Bool) (H : List OB) (lim cls pro : Int) : List OB := if makeE H lim cls pro = 0 then H ++ [⟨cls, pro, false, ft, []⟩] else H
def makeN (H : List OB) (lim cls pro : Int) : Int := if makeE H lim cls pro = 0 then ((H.length + 1 : Nat) : Int) else 0
def putE (H : List OB) (lim o : Int) (K : KK) (p : PV) : Int := if hasH H o = false then 151 else if p.fl < 0 ∨ 15 < p.fl then 1 else if (ownH H o K).isSome = false ∧ lim ≤ (usedH H : Int) then 150 else 0
def putA (K : KK) (p : PV) (a : OB) : OB := { a with fast := a.fast && canL a.fast a.l K, l := putL a.l K (keptP p) }
def putH (H : List OB) (lim o : Int) (K : KK) (p : PV) : List OB := if putE H lim o K p = 0 then updH H o (putA K p) else H
def dropA (K : KK) (a : OB) : OB := match idx (gk a.l) K with | some j => { a with fast := false, l := a.l.eraseIdx j } | none => a
def dropB (H : List OB) (o : Int) (K : KK) : Bool := (ownH H o K).isSome
def setE (H : List OB) (o pro : Int) : Int := if hasH H o = false ∨ (pro ≠ 0 ∧ hasH H pro = false) then 151 else 0
def setH (H : List OB) (o pro : Int) : List OB := if setE H o pro = 0 then updH H o (fun a => { a with pro := pro }) else H
def hasE (H : List OB) (o : Int) : Int := if hasH H o then 0 else 151
theorem HeapO.mono {w : World} {f : Nat → Nat} {hb B B' u : Nat} {lim : Int} {H : List OB} (hN : Norm f w) (h : HeapO w f hb lim u B H) (hB : B ≤ B') : HeapO w f hb lim u B' H := by
  obtain ⟨tb, L, rv, obs, h1, h2, h3, h4, h5⟩ := h
  exact ⟨tb, L, rv, obs, h1, ⟨h2.1, by omega⟩, h3, h4, fun i a hi => by
    obtain ⟨ob, q1, q2⟩ := h5 i a hi
    exact ⟨ob, q1, q2.keep (Turn.refl (fun _ => False) hN) id id (fun _ _ h => h) hB⟩⟩
theorem HeapT.mono {w w' : World} {f : Nat → Nat} {hb B B' u : Nat} {lim : Int} {H : List OB} (h : HeapT w f hb lim u B H w') (hB : B ≤ B') : HeapT w f hb lim u B' H w' := by
  obtain ⟨f', h1, h2, h3⟩ := h
  exact ⟨f', h1, h2.mono h1.norm hB, h3⟩
theorem HeapT.drew {w : World} {f : Nat → Nat} {hb B u : Nat} {lim : Int} {H : List OB} (hN : Norm f w) (h : HeapO w f hb lim u B H) : HeapT w f hb lim u B H w.drew := HeapT.same hN h (Below.refl _ w).drew
theorem c_HMake {w : World} {f : Nat → Nat} {hb B : Nat} {lim : Int} {H : List OB} (hN : Norm f w) (h : HeapO w f hb lim (usedH H) B H) (hu : usedH H ≤ 100000) (cls pro : Int) :
    Calls Tryz.prog 16 #[ptrV hb, .int .i64 cls, .int .i64 pro] w fun e w' => e = .returned (.tuple #[.int .i64 (makeN H lim cls pro), .int .i64 (makeE H lim cls pro)]) ∧ HeapT w f hb lim (usedH (makeH true H lim cls pro)) B (makeH true H lim cls pro) w' := by
  have hl : H.length ≤ 100000 := by unfold usedH at hu; omega
  by_cases h1 : cls < 0 ∨ 6 < cls
  · have e1 : makeE H lim cls pro = 1 := by unfold makeE; rw [if_pos h1]
    unfold makeN makeH
    rw [e1]
    refine (c_HMakeR h cls pro h1).mono ?_
    rintro e w' ⟨rfl, rfl⟩
    exact ⟨rfl, HeapT.same hN h (Below.refl _ _)⟩
  · by_cases h2 : pro ≠ 0 ∧ hasH H pro = false
    · have e1 : makeE H lim cls pro = 151 := by unfold makeE; rw [if_neg h1, if_pos h2]
      unfold makeN makeH
      rw [e1]
      refine (c_HMakeP h cls pro (by omega) (by omega) h2.1 h2.2).mono ?_
      rintro e w' ⟨rfl, rfl⟩
      exact ⟨rfl, HeapT.same hN h (Below.refl _ _)⟩
    · have hp : pro = 0 ∨ hasH H pro = true := by
        by_cases e : pro = 0
        · exact .inl e
        · exact .inr (by cases hh : hasH H pro; exact absurd ⟨e, hh⟩ h2; rfl)
      by_cases h3 : lim ≤ (usedH H : Int)
      · have e1 : makeE H lim cls pro = 150 := by unfold makeE; rw [if_neg h1, if_neg h2, if_pos h3]
        unfold makeN makeH
        rw [e1]
        refine (c_HMakeL h cls pro (by omega) (by omega) hp h3).mono ?_
        rintro e w' ⟨rfl, rfl⟩
        exact ⟨rfl, HeapT.drew hN h⟩
      · have e1 : makeE H lim cls pro = 0 := by unfold makeE; rw [if_neg h1, if_neg h2, if_neg h3]
        unfold makeN makeH
        rw [e1]
        refine (c_HMakeT hN h cls pro (by omega) (by omega) hp (by omega) (by omega) hl).mono ?_
        rintro e w' ⟨rfl, ht⟩
        refine ⟨rfl, ?_⟩
        have : usedH (H ++ [⟨cls, pro, false, true, []⟩]) = usedH H + 1 := by unfold usedH; simp; omega
        rw [if_pos rfl, this]
        exact ht
theorem own_some {H : List OB} {o : Nat} {a : OB} (h0 : 0 < o) (h : H[o - 1]? = some a) (K : KK) : (ownH H (o : Int) K).isSome = (getL a.l K).isSome := by unfold ownH; rw [objH_at h0 h]; rfl
theorem putL_len (l : List (KK × PV)) (K : KK) (p : PV) : (putL l K p).length = if (getL l K).isSome then l.length else l.length + 1 := by
  rw [getL_idx]
  unfold putL
  cases h : idx (gk l) K with
  | none => simp
  | some i => simp
theorem c_HPut {w : World} {f : Nat → Nat} {hb B : Nat} {lim : Int} {H : List OB} (hN : Norm f w) (h : HeapO w f hb lim (usedH H) B H) (hB1 : 128 ≤ B) (hB : B < 90000) (hu : usedH H ≤ 100000) (o : Int) (k : KK) (hk : okK k) (p : PV) :
    Calls Tryz.prog 17 #[ptrV hb, .int .i64 o, keyV k.1 k.2, propV p] w fun e w' => e = .returned (.int .i64 (putE H lim o (pk k) p)) ∧ HeapT w f hb lim (usedH (putH H lim o (pk k) p)) (B + 2) (putH H lim o (pk k) p) w' := by
  rcases objH_cases H o with ⟨h1, h2⟩ | ⟨n, a, rfl, h0, ha, h3, h4⟩
  · have e1 : putE H lim o (pk k) p = 151 := by unfold putE; rw [if_pos h1]
    unfold putH
    rw [e1]
    refine (c_HPut0 hN h o k p h1).mono ?_
    rintro e w' ⟨rfl, hb'⟩
    exact ⟨rfl, (HeapT.same hN h hb').mono (by omega)⟩
  · by_cases hf : p.fl < 0 ∨ 15 < p.fl
    · have e1 : putE H lim (n : Int) (pk k) p = 1 := by unfold putE; rw [h4, if_neg (by simp), if_pos hf]
      unfold putH
      rw [e1]
      refine (c_HPutR hN h n k p h4 hf).mono ?_
      rintro e w' ⟨rfl, hb'⟩
      exact ⟨rfl, (HeapT.same hN h hb').mono (by omega)⟩
    · have hos := own_some h0 ha (pk k)
      by_cases hg : (getL a.l (pk k)).isSome = true
      · have e1 : putE H lim (n : Int) (pk k) p = 0 := by unfold putE; rw [h4, if_neg (by simp), if_neg hf, if_neg (by rw [hos, hg]; simp)]
        have hcan : canL a.fast a.l (pk k) = true := by unfold canL; rw [← getL_idx, hg]; simp
        have e2 : putH H lim (n : Int) (pk k) p = H.set (n - 1) { a with l := putL a.l (pk k) (keptP p) } := by
          unfold putH putA
          rw [if_pos e1, updH_at h0 ha, hcan]
          simp
        have e3 : usedH (putH H lim (n : Int) (pk k) p) = usedH H := by
          rw [e2]
          have := usedH_set (a' := { a with l := putL a.l (pk k) (keptP p) }) ha
          have hl := putL_len a.l (pk k) (keptP p)
          rw [hg, if_pos rfl] at hl
          dsimp only at this
          omega
        rw [e1, e3, e2]
        refine (c_HPutST hN h hB1 hB n a h0 ha k hk p (by omega) (by omega) hg hcan).mono ?_
        rintro e w' ⟨rfl, ht⟩
        exact ⟨rfl, ht.mono (by omega)⟩
      · have hg' : (getL a.l (pk k)).isSome = false := by simpa using hg
        by_cases hlim : lim ≤ (usedH H : Int)
        · have e1 : putE H lim (n : Int) (pk k) p = 150 := by unfold putE; rw [h4, if_neg (by simp), if_neg hf, if_pos ⟨by rw [hos, hg'], hlim⟩]
          unfold putH
          rw [e1]
          refine (c_HPutL hN h n a h0 ha k hk p (by omega) (by omega) hg' hlim).mono ?_
          rintro e w' ⟨rfl, hb'⟩
          exact ⟨rfl, (HeapT.same hN h hb').mono (by omega)⟩
        · have e1 : putE H lim (n : Int) (pk k) p = 0 := by unfold putE; rw [h4, if_neg (by simp), if_neg hf, if_neg (by rintro ⟨_, h⟩; exact hlim h)]
          have hl := putL_len a.l (pk k) (keptP p)
          rw [hg'] at hl
          have hl' : (putL a.l (pk k) (keptP p)).length = a.l.length + 1 := by simpa using hl
          cases hcan : canL a.fast a.l (pk k) with
          | true =>
            have e2 : putH H lim (n : Int) (pk k) p = H.set (n - 1) { a with l := putL a.l (pk k) (keptP p) } := by
              unfold putH putA
              rw [if_pos e1, updH_at h0 ha, hcan]
              simp
            have e3 : usedH (putH H lim (n : Int) (pk k) p) = usedH H + 1 := by
              rw [e2]
              have := usedH_set (a' := { a with l := putL a.l (pk k) (keptP p) }) ha
              dsimp only at this
              omega
            rw [e1, e3, e2]
            refine (c_HPutNT hN h hB1 hB n a h0 ha k hk p (by omega) (by omega) hg' hcan (by omega) (by omega)).mono ?_
            rintro e w' ⟨rfl, ht⟩
            exact ⟨rfl, ht.mono (by omega)⟩
          | false =>
            have e2 : putH H lim (n : Int) (pk k) p = H.set (n - 1) { a with fast := false, l := putL a.l (pk k) (keptP p) } := by
              unfold putH putA
              rw [if_pos e1, updH_at h0 ha, hcan]
              simp
            have e3 : usedH (putH H lim (n : Int) (pk k) p) = usedH H + 1 := by
              rw [e2]
              have := usedH_set (a' := { a with fast := false, l := putL a.l (pk k) (keptP p) }) ha
              dsimp only at this
              omega
            rw [e1, e3, e2]
            refine (c_HPutNF hN h hB1 hB n a h0 ha k hk p (by omega) (by omega) hg' hcan (by omega) (by omega)).mono ?_
            rintro e w' ⟨rfl, ht⟩
            exact ⟨rfl, ht.mono (by omega)⟩
end Go.Proofs.YtoccmiinkfhohaaGreat
namespace Go.Proofs.YtoccmiinkfhohaaGreat
open Go.RowKit Go.Shelf Go.Lib Go.Sort Go.Proofs Go.Maps
set_option maxHeartbeats 4000000
set_option maxRecDepth 100000

theorem c_HDropN {w : World} {f : Nat → Nat} {hb B u : Nat} {lim : Int} {H : List OB} (hN : Norm f w) (h : HeapO w f hb lim u B H) (o : Int) (k : KK) (hk : okK k) (hj : (ownH H o (pk k)).isSome = false) :
    Calls Tryz.prog 23 #[ptrV hb, .int .i64 o, keyV k.1 k.2] w fun e w' => e = .returned (.bool false) ∧ Below w.heap.size w w' := by
  obtain ⟨W1, hW1⟩ : ∃ W1, w.alloc (.cells #[.string k.1, .int .i64 k.2] 31) = W1 := ⟨_, rfl⟩
  have hb1 : Below w.heap.size w W1 := by rw [← hW1]; exact (Below.refl _ w).alloc (Nat.le_refl _) _
  have hs1 : W1.heap.size = w.heap.size + 1 := by rw [← hW1]; simp
  have d0 : W1.heap[w.heap.size]? = some (.cells #[.string k.1, .int .i64 k.2] 31 (0, 0)) := by rw [← hW1]; exact heap_alloc_new w _
  have kc0 : W1.cell? ⟨w.heap.size, 0, none⟩ = some (.string k.1) := by rw [cell_of_row _ _ 0 _ _ _ d0]; rfl
  have kc1 : W1.cell? ⟨w.heap.size, 1, none⟩ = some (.int .i64 k.2) := by rw [cell_of_row _ _ 1 _ _ _ d0]; rfl
  have hOw := c_HOwn (fun r hr => hN r (Nat.le_trans hb1.size hr)) (h.below hN hb1) o k hk
  unfold tellV at hOw
  rw [hj] at hOw
  generalize (ownH H o (pk k)).getD zeroPV = P at *
  have hst := fun (y : World) (b : Nat) (hy : ZB y b) => hy.store P
  have hzb := zb_new
  obtain ⟨k0, kn⟩ := k
  unfold ptrV keyV propV at *
  dsimp only at *
  replace hOw := Lib.hid hOw
  replace hb1 := Lib.hid hb1
  replace hs1 := Lib.hid hs1
  replace d0 := Lib.hid d0
  clear hk hj hN h
  go_enter Tryz.func23, Tryz.ntmps23
  go_wp2_with (first | (go_at_call 44; refine hOw.out.mono ?_; rintro e w2 ⟨hb2, rfl⟩; have hz2 := hzb w2; clear kc0 kc1; replace hb2 := Lib.hid hb2))
  go_ret
  have hf6 := (fresh_set (w := w2) (o := (encP zeroPV).toArray) (t := 36) (vs := encP P) rfl).1
  have hB2 : Below w.heap.size w w2 := hb1.out.trans (hb2.out.mono hb1.out.size)
  exact ⟨rfl, hB2.trans (hf6.mono hB2.size)⟩
theorem set_same {H : List OB} {i : Nat} {a : OB} (h : H[i]? = some a) : H.set i a = H := by
  apply List.ext_getElem?
  intro j
  rw [List.getElem?_set]
  split
  · rename_i e; subst e; rw [h, if_pos (List.getElem?_eq_some_iff.1 h).1]
  · rfl
theorem usedH_upd (H : List OB) (o : Int) (g : OB → OB) (hg : ∀ a, (g a).l.length = a.l.length) : usedH (updH H o g) = usedH H := by
  rcases objH_cases H o with ⟨h1, h2⟩ | ⟨n, a, rfl, h0, ha, h3, h4⟩
  · unfold updH; rw [h2]
  · rw [updH_at h0 ha]
    have := usedH_set (a' := g a) ha
    rw [hg] at this
    omega
/-- what an object has -/
def listH (H : List OB) (o : Int) : List (KK × PV) := match objH H o with | some a => a.l | none => []
theorem own_list (H : List OB) (o : Int) (K : KK) : ownH H o K = getL (listH H o) K := by
  unfold ownH listH
  cases objH H o with
  | none => rfl
  | some a => rfl
theorem c_HDrop {w : World} {f : Nat → Nat} {hb B : Nat} {lim : Int} {H : List OB} (hN : Norm f w) (h : HeapO w f hb lim (usedH H) B H) (hB1 : 128 ≤ B) (hB : B ≤ 100000) (hu : usedH H ≤ 100000) (o : Int) (k : KK) (hk : okK k) :
    Calls Tryz.prog 23 #[ptrV hb, .int .i64 o, keyV k.1 k.2] w fun e w' => e = .returned (.bool (dropB H o (pk k))) ∧ HeapT w f hb lim (usedH (updH H o (dropA (pk k)))) B (updH H o (dropA (pk k))) w' := by
  unfold dropB
  cases hd : (ownH H o (pk k)).isSome with
  | false =>
    have e1 : updH H o (dropA (pk k)) = H := by
      rcases objH_cases H o with ⟨h1, h2⟩ | ⟨n, a, rfl, h0, ha, h3, h4⟩
      · unfold updH; rw [h2]
      · rw [updH_at h0 ha]
        rw [own_some h0 ha, getL_idx] at hd
        have : dropA (pk k) a = a := by
          unfold dropA
          cases hi : idx (gk a.l) (pk k) with
          | none => rfl
          | some j => rw [hi] at hd; cases hd
        rw [this, set_same ha]
    rw [e1]
    refine (c_HDropN hN h o k hk hd).mono ?_
    rintro e w' ⟨rfl, hb'⟩
    exact ⟨rfl, HeapT.same hN h hb'⟩
  | true =>
    rcases objH_cases H o with ⟨h1, h2⟩ | ⟨n, a, rfl, h0, ha, h3, h4⟩
    · unfold ownH at hd; rw [h2] at hd; cases hd
    · rw [own_some h0 ha, getL_idx] at hd
      obtain ⟨j, hj⟩ := Option.isSome_iff_exists.1 hd
      have hjl : j < a.l.length := by have := idx_lt hj; simpa [gk] using this
      have e1 : updH H (n : Int) (dropA (pk k)) = H.set (n - 1) { a with fast := false, l := a.l.eraseIdx j } := by
        rw [updH_at h0 ha]
        unfold dropA
        rw [hj]
      have e2 := usedH_set (a' := { a with fast := false, l := a.l.eraseIdx j }) ha
      dsimp only at e2
      rw [List.length_eraseIdx, if_pos hjl] at e2
      have e3 : usedH (updH H (n : Int) (dropA (pk k))) = usedH H - 1 := by rw [e1]; omega
      rw [e3, e1]
      refine (c_HDropT hN h hB1 hB n a h0 ha k hk j hj (by omega) (by omega)).mono ?_
      rintro e w' ⟨rfl, ht⟩
      exact ⟨rfl, ht⟩
theorem c_HSetProto {w : World} {f : Nat → Nat} {hb B : Nat} {lim : Int} {H : List OB} (hN : Norm f w) (h : HeapO w f hb lim (usedH H) B H) (o pro : Int) :
    Calls Tryz.prog 28 #[ptrV hb, .int .i64 o, .int .i64 pro] w fun e w' => e = .returned (.int .i64 (setE H o pro)) ∧ HeapT w f hb lim (usedH (setH H o pro)) B (setH H o pro) w' := by
  rcases objH_cases H o with ⟨h1, h2⟩ | ⟨n, a, rfl, h0, ha, h3, h4⟩
  · have e1 : setE H o pro = 151 := by unfold setE; rw [if_pos (.inl h1)]
    unfold setH
    rw [e1]
    refine (c_HSetProto0 h o pro h1).mono ?_
    rintro e w' ⟨rfl, rfl⟩
    exact ⟨rfl, HeapT.same hN h (Below.refl _ _)⟩
  · by_cases h5 : pro ≠ 0 ∧ hasH H pro = false
    · have e1 : setE H (n : Int) pro = 151 := by unfold setE; rw [if_pos (.inr h5)]
      unfold setH
      rw [e1]
      refine (c_HSetProtoN h n pro h4 h5.1 h5.2).mono ?_
      rintro e w' ⟨rfl, rfl⟩
      exact ⟨rfl, HeapT.same hN h (Below.refl _ _)⟩
    · have e1 : setE H (n : Int) pro = 0 := by
        unfold setE
        rw [if_neg]
        rintro (h | h)
        · rw [h4] at h; cases h
        · exact h5 h
      have hp : pro = 0 ∨ hasH H pro = true := by
        by_cases e : pro = 0
        · exact .inl e
        · exact .inr (by cases hh : hasH H pro; exact absurd ⟨e, hh⟩ h5; rfl)
      unfold setH
      rw [e1, if_pos rfl, usedH_upd H n (fun a => { a with pro := pro }) (fun _ => rfl), updH_at h0 ha]
      refine (c_HSetProto1 hN h n a h0 ha pro hp).mono ?_
      rintro e w' ⟨rfl, ht⟩
      exact ⟨rfl, ht⟩
theorem c_HShut {w : World} {f : Nat → Nat} {hb B : Nat} {lim : Int} {H : List OB} (hN : Norm f w) (h : HeapO w f hb lim (usedH H) B H) (o : Int) :
    Calls Tryz.prog 30 #[ptrV hb, .int .i64 o] w fun e w' => e = .returned (.int .i64 (hasE H o)) ∧ HeapT w f hb lim (usedH (updH H o (fun a => { a with shut := true }))) B (updH H o (fun a => { a with shut := true })) w' := by
  rw [usedH_upd H o (fun a => { a with shut := true }) (fun _ => rfl)]
  unfold hasE
  rcases objH_cases H o with ⟨h1, h2⟩ | ⟨n, a, rfl, h0, ha, h3, h4⟩
  · unfold updH
    rw [h1, h2]
    refine (c_HShut0 h o h1).mono ?_
    rintro e w' ⟨rfl, rfl⟩
    exact ⟨rfl, HeapT.same hN h (Below.refl _ _)⟩
  · rw [h4, updH_at h0 ha]
    refine (c_HShut1 hN h n a h0 ha).mono ?_
    rintro e w' ⟨rfl, ht⟩
    exact ⟨rfl, ht⟩
theorem c_HForce {w : World} {f : Nat → Nat} {hb B : Nat} {lim : Int} {H : List OB} (hN : Norm f w) (h : HeapO w f hb lim (usedH H) B H) (hB1 : 128 ≤ B) (o : Int) :
    Calls Tryz.prog 12 #[ptrV hb, .int .i64 o] w fun e w' => e = .returned (.int .i64 (hasE H o)) ∧ HeapT w f hb lim (usedH (updH H o (fun a => { a with fast := false }))) B (updH H o (fun a => { a with fast := false })) w' := by
  rw [usedH_upd H o (fun a => { a with fast := false }) (fun _ => rfl)]
  unfold hasE
  rcases objH_cases H o with ⟨h1, h2⟩ | ⟨n, a, rfl, h0, ha, h3, h4⟩
  · unfold updH
    rw [h1, h2]
    refine (c_HForce0 h o h1).mono ?_
    rintro e w' ⟨rfl, rfl⟩
    exact ⟨rfl, HeapT.same hN h (Below.refl _ _)⟩
  · rw [h4, updH_at h0 ha]
    obtain ⟨tb, L, rv, obs, hX⟩ := h
    refine (c_HForceA hN hX hB1 n a h0 ha).mono ?_
    rintro e w' ⟨rfl, ht⟩
    exact ⟨rfl, ht.t⟩
theorem c_HFast {w : World} {f : Nat → Nat} {hb B u : Nat} {lim : Int} {H : List OB} (h : HeapO w f hb lim u B H) (o : Int) :
    Calls Tryz.prog 22 #[ptrV hb, .int .i64 o] w fun e w' => e = .returned (.bool (match objH H o with | some a => a.fast | none => false)) ∧ w' = w := by
  rcases objH_cases H o with ⟨h1, h2⟩ | ⟨n, a, rfl, h0, ha, h3, h4⟩
  · rw [h2]; exact c_HFast0 h o h1
  · rw [h3]; exact c_HFast1 h n a h0 ha
theorem c_HProto {w : World} {f : Nat → Nat} {hb B u : Nat} {lim : Int} {H : List OB} (h : HeapO w f hb lim u B H) (o : Int) :
    Calls Tryz.prog 38 #[ptrV hb, .int .i64 o] w fun e w' => e = .returned (.int .i64 (match objH H o with | some a => a.pro | none => 0)) ∧ w' = w := by
  rcases objH_cases H o with ⟨h1, h2⟩ | ⟨n, a, rfl, h0, ha, h3, h4⟩
  · rw [h2]; exact c_HProto0 h o h1
  · rw [h3]; exact c_HProto1 h n a h0 ha
theorem c_HClass {w : World} {f : Nat → Nat} {hb B u : Nat} {lim : Int} {H : List OB} (h : HeapO w f hb lim u B H) (o : Int) :
    Calls Tryz.prog 36 #[ptrV hb, .int .i64 o] w fun e w' => e = .returned (.int .i64 (match objH H o with | some a => a.cls | none => 0)) ∧ w' = w := by
  rcases objH_cases H o with ⟨h1, h2⟩ | ⟨n, a, rfl, h0, ha, h3, h4⟩
  · rw [h2]; exact c_HClass0 h o h1
  · rw [h3]; exact c_HClass1 h n a h0 ha
theorem c_HOpen {w : World} {f : Nat → Nat} {hb B u : Nat} {lim : Int} {H : List OB} (h : HeapO w f hb lim u B H) (o : Int) :
    Calls Tryz.prog 40 #[ptrV hb, .int .i64 o] w fun e w' => e = .returned (.bool (match objH H o with | some a => !a.shut | none => false)) ∧ w' = w := by
  rcases objH_cases H o with ⟨h1, h2⟩ | ⟨n, a, rfl, h0, ha, h3, h4⟩
  · rw [h2]; exact c_HOpen0 h o h1
  · rw [h3]; exact c_HOpen1 h n a h0 ha
theorem KeysOf.nil : KeysOf [] [] := ⟨[], rfl, by unfold Srt; simp, fun _ => rfl, fun _ h => by cases h⟩
theorem c_HKeys {w : World} {f : Nat → Nat} {hb B u : Nat} {lim : Int} {H : List OB} (hN : Norm f w) (h : HeapO w f hb lim u B H) (hB1 : 128 ≤ B) (hB : B ≤ 100000) (o : Int) :
    Calls Tryz.prog 19 #[ptrV hb, .int .i64 o] w fun e w' => ∃ v Z, e = .returned v ∧ RdK w' v Z ∧ KeysOf (gk (listH H o)) Z ∧ Below w.heap.size w w' := by
  unfold listH
  rcases objH_cases H o with ⟨h1, h2⟩ | ⟨n, a, rfl, h0, ha, h3, h4⟩
  · rw [h2]
    refine (c_HKeys0 h o h1).mono ?_
    rintro e w' ⟨rfl, rfl⟩
    exact ⟨_, [], rfl, .inl ⟨rfl, rfl⟩, KeysOf.nil, Below.refl _ _⟩
  · rw [h3]
    exact c_HKeys1 hN h hB1 hB n a h0 ha
end Go.Proofs.YtoccmiinkfhohaaGreat
namespace Go.Proofs.YtoccmiinkfhohaaGreat
open Go.RowKit Go.Shelf Go.Lib Go.Sort Go.Proofs Go.Maps
set_option maxHeartbeats 2000000
set_option maxRecDepth 100000

/-- a text of few letters -/
def xs (l : List UInt8) : ByteArray := ⟨l.toArray⟩
def tx (l : List UInt8) : ByteArray := textU (codes (xs l))
theorem asc {l : List UInt8} (h : (l.all fun u => decide (u.toNat < 128)) = true) : ∀ u ∈ codes (xs l), u < 128 := by
  intro u hu
  simp [codes, xs] at hu
  obtain ⟨b, hb, rfl⟩ := hu
  simpa using List.all_eq_true.1 h b hb
theorem c_name {l : List UInt8} (h : (l.all fun u => decide (u.toNat < 128)) = true) (hl : l.length ≤ 1000) (w : World) :
    Calls Tryz.prog 18 #[.string (xs l)] w fun e w' => e = .returned (keyV (tx l) 0) ∧ Below w.heap.size w w' :=
  c_Name4 (xs l) (by show l.length ≤ _; omega) (asc h) w
def kb : KK := (tx [98], 0)
def k2 : KK := (tx [50], 0)
def p7 : PV := ⟨zeroVV, zeroVV, zeroVV, 7⟩
def aw1 : List OB := makeH true [] 100 0 0
def aw2 : List OB := putH aw1 100 1 (pk kb) p7
def aw3 : List OB := putH aw2 100 1 (pk k2) p7
def aw4 : List OB := updH aw3 1 (dropA (pk kb))
theorem kb_ok : okK kb := by unfold okK; exact ⟨by decide +kernel, by decide +kernel⟩
theorem k2_ok : okK k2 := by unfold okK; exact ⟨by decide +kernel, by decide +kernel⟩
theorem aw_E1 : putE aw1 100 1 (pk kb) p7 = 0 := by decide +kernel
theorem aw_E2 : putE aw2 100 1 (pk k2) p7 = 0 := by decide +kernel
theorem aw_B : dropB aw3 1 (pk kb) = true := by decide +kernel
theorem aw_gk : gk (listH aw3 1) = [pk kb, pk k2] := by decide +kernel
theorem aw_f3 : (objH aw3 1).map OB.fast = some true := by decide +kernel
theorem aw_f4 : (objH aw4 1).map OB.fast = some false := by decide +kernel
theorem aw_u1 : usedH aw1 = 1 := by decide +kernel
theorem aw_u2 : usedH aw2 = 2 := by decide +kernel
theorem aw_u3 : usedH aw3 = 3 := by decide +kernel
theorem rkb : rk kb = 4294967296 := by decide +kernel
theorem rk2 : rk k2 = 2 := by decide +kernel
theorem aw_same : sameK k2.1 k2.1 k2.2 k2.2 = true := by decide +kernel
theorem aw_keysOf : KeysOf [pk kb, pk k2] [k2, kb] := by
  refine ⟨[kb, k2], rfl, ?_, ?_, ?_⟩
  · simp [Srt, rkb, rk2]
  · intro r
    simp only [cls, List.filter_cons, List.filter_nil, rkb, rk2, beq_iff_eq]
    by_cases h1 : 2 = r
    · subst h1; simp
    · simp [h1]
  · intro x hx
    simp at hx
    rcases hx with rfl | rfl
    · exact k2_ok
    · exact kb_ok
/-- the heap of the example; below w0 nothing turns -/
def AwH (w0 : World) (hb u B : Nat) (H : List OB) (w : World) : Prop := ∃ f, Norm f w ∧ HeapO w f hb 100 u B H ∧ Below w0.heap.size w0 w ∧ ∀ r, r < w0.heap.size → f r = 0
theorem AwH.keep {w0 w w' : World} {hb u B : Nat} {H : List OB} (h : AwH w0 hb u B H w) (hb' : Below w.heap.size w w') : AwH w0 hb u B H w' := by
  obtain ⟨f, h1, h2, h3, h4⟩ := h
  exact ⟨f, fun r hr => h1 r (Nat.le_trans hb'.size hr), h2.below h1 hb', h3.trans (hb'.mono h3.size), h4⟩
theorem AwH.step {w0 w w' : World} {hb u' B' : Nat} {H' : List OB} {f : Nat → Nat} (h3 : Below w0.heap.size w0 w) (h4 : ∀ r, r < w0.heap.size → f r = 0) (ht : HeapT w f hb 100 u' B' H' w') : AwH w0 hb u' B' H' w' := by
  obtain ⟨f', t1, t2, _⟩ := ht
  refine ⟨f', t1.norm, t2, h3.trans (t1.below h3.size fun r hr h => h.2 (h4 r hr)), fun r hr => ?_⟩
  rw [t1.agree r (Nat.lt_of_lt_of_le hr h3.size)]
  exact h4 r hr
theorem aw_new (w : World) : Calls Tryz.prog 7 #[.int .i64 100] w fun e w' => ∃ hb, e = .returned (.pointer (some ⟨hb, 0, none⟩)) ∧ AwH w hb 0 128 [] w' := by
  refine (c_Hnew (f := fun _ => 0) (fun _ _ => rfl) 100).mono ?_
  rintro e w' ⟨hb, f', rfl, t1, t2⟩
  exact ⟨hb, rfl, f', t1.norm, t2, t1.below (Nat.le_refl _) (fun _ _ h => h), fun r hr => t1.agree r hr⟩
theorem aw_make {w0 w : World} {hb : Nat} (h : AwH w0 hb 0 128 [] w) : Calls Tryz.prog 16 #[.pointer (some ⟨hb, 0, none⟩), .int .i64 0, .int .i64 0] w fun e w' => e = .returned (.tuple #[.int .i64 1, .int .i64 0]) ∧ AwH w0 hb 1 128 aw1 w' := by
  obtain ⟨f, h1, h2, h3, h4⟩ := h
  refine (c_HMake (H := []) h1 h2 (by decide) 0 0).mono ?_
  rintro e w' ⟨rfl, ht⟩
  exact ⟨rfl, AwH.step h3 h4 ht⟩
theorem aw_put1 {w0 w : World} {hb : Nat} (h : AwH w0 hb 1 128 aw1 w) : Calls Tryz.prog 17 #[.pointer (some ⟨hb, 0, none⟩), .int .i64 1, .agg #[.string (tx [98]), .int .i64 0], propV p7] w fun e w' => e = .returned (.int .i64 0) ∧ AwH w0 hb 2 130 aw2 w' := by
  obtain ⟨f, h1, h2, h3, h4⟩ := h
  rw [← aw_u1] at h2
  have h := c_HPut h1 h2 (by decide) (by decide) (by rw [aw_u1]; decide) 1 kb kb_ok p7
  rw [aw_E1] at h
  refine h.mono ?_
  rintro e w' ⟨rfl, ht⟩
  have ht' : HeapT w f hb 100 (usedH aw2) 130 aw2 w' := ht
  rw [aw_u2] at ht'
  exact ⟨rfl, AwH.step h3 h4 ht'⟩
theorem aw_put2 {w0 w : World} {hb : Nat} (h : AwH w0 hb 2 130 aw2 w) : Calls Tryz.prog 17 #[.pointer (some ⟨hb, 0, none⟩), .int .i64 1, .agg #[.string (tx [50]), .int .i64 0], propV p7] w fun e w' => e = .returned (.int .i64 0) ∧ AwH w0 hb 3 132 aw3 w' := by
  obtain ⟨f, h1, h2, h3, h4⟩ := h
  rw [← aw_u2] at h2
  have h := c_HPut h1 h2 (by decide) (by decide) (by rw [aw_u2]; decide) 1 k2 k2_ok p7
  rw [aw_E2] at h
  refine h.mono ?_
  rintro e w' ⟨rfl, ht⟩
  have ht' : HeapT w f hb 100 (usedH aw3) 132 aw3 w' := ht
  rw [aw_u3] at ht'
  exact ⟨rfl, AwH.step h3 h4 ht'⟩
theorem aw_keys {w0 w : World} {hb : Nat} (h : AwH w0 hb 3 132 aw3 w) : Calls Tryz.prog 19 #[.pointer (some ⟨hb, 0, none⟩), .int .i64 1] w fun e w' => ∃ (b o c : Nat) (x : KK), e = .returned (.slice (some ⟨b, o, none⟩) 2 c) ∧ (∀ y, Below w'.heap.size w' y → y.cell? ⟨b, o, none⟩ = some (.string x.1) ∧ y.cell? ⟨b, o + 1, none⟩ = some (.int .i64 x.2)) ∧ x.1.size ≤ 1099511627776 ∧ sameK x.1 (tx [50]) x.2 0 = true ∧ AwH w0 hb 3 132 aw3 w' := by
  have hA := h
  obtain ⟨f, h1, h2, h3, h4⟩ := h
  have h := c_HKeys h1 h2 (by decide) (by decide) 1
  rw [aw_gk] at h
  refine h.mono ?_
  rintro e w' ⟨v, Z, rfl, hr, hk, hb'⟩
  have e1 := hk.alike aw_keysOf
  obtain ⟨_, _, _, _, hok⟩ := hk
  obtain ⟨x, z, rfl⟩ : ∃ x z, Z = [x, z] := by
    have h2 := congrArg List.length e1
    simp at h2
    match Z, h2 with
    | [x, z], _ => exact ⟨x, z, rfl⟩
  · obtain ⟨p, c, rfl, _, hc, hcell⟩ := hr.form
    obtain ⟨b, o, rfl, _, hy⟩ := hcell 0 x rfl
    refine ⟨b, o, c, x, rfl, fun y hy' => by simpa using hy y hy', (hok x (by simp)).1, ?_, hA.keep hb'⟩
    have e2 : pk x = pk k2 := by injection e1
    have e3 : sameK x.1 k2.1 x.2 k2.2 = true := by rw [sameK_pk x k2, e2]; exact decide_eq_true rfl
    exact e3
theorem aw_used {w0 w : World} {hb u B : Nat} {H : List OB} (h : AwH w0 hb u B H w) : Calls Tryz.prog 21 #[.pointer (some ⟨hb, 0, none⟩)] w fun e w' => e = .returned (.int .i64 (u : Int)) ∧ w' = w := by
  obtain ⟨f, h1, h2, h3, h4⟩ := h
  exact c_HUsed h2
theorem aw_fast3 {w0 w : World} {hb : Nat} (h : AwH w0 hb 3 132 aw3 w) : Calls Tryz.prog 22 #[.pointer (some ⟨hb, 0, none⟩), .int .i64 1] w fun e w' => e = .returned (.bool true) ∧ w' = w := by
  obtain ⟨f, h1, h2, h3, h4⟩ := h
  obtain ⟨a, ha, hf⟩ := Option.map_eq_some_iff.1 aw_f3
  have h := c_HFast h2 1
  rw [ha] at h
  dsimp only at h
  rw [hf] at h
  exact h
theorem aw_fast4 {w0 w : World} {hb u : Nat} (h : AwH w0 hb u 132 aw4 w) : Calls Tryz.prog 22 #[.pointer (some ⟨hb, 0, none⟩), .int .i64 1] w fun e w' => e = .returned (.bool false) ∧ w' = w := by
  obtain ⟨f, h1, h2, h3, h4⟩ := h
  obtain ⟨a, ha, hf⟩ := Option.map_eq_some_iff.1 aw_f4
  have h := c_HFast h2 1
  rw [ha] at h
  dsimp only at h
  rw [hf] at h
  exact h
theorem aw_drop {w0 w : World} {hb : Nat} (h : AwH w0 hb 3 132 aw3 w) : Calls Tryz.prog 23 #[.pointer (some ⟨hb, 0, none⟩), .int .i64 1, .agg #[.string (tx [98]), .int .i64 0]] w fun e w' => e = .returned (.bool true) ∧ AwH w0 hb (usedH aw4) 132 aw4 w' := by
  obtain ⟨f, h1, h2, h3, h4⟩ := h
  rw [← aw_u3] at h2
  have h := c_HDrop h1 h2 (by decide) (by decide) (by rw [aw_u3]; decide) 1 kb kb_ok
  rw [aw_B] at h
  refine h.mono ?_
  rintro e w' ⟨rfl, ht⟩
  exact ⟨rfl, AwH.step h3 h4 ht⟩
theorem c_awake15 (w : World) : Calls Tryz.prog 5 #[] w fun e w' => e = .returned (.bool true) ∧ Below w.heap.size w w' := by
  have hNb : ∀ y : World, RowKit.Hid (Calls Tryz.prog 18 #[.string ⟨#[98]⟩] y fun e w' => e = .returned (.agg #[.string (tx [98]), .int .i64 0]) ∧ Below y.heap.size y w') := fun y => Lib.hid (c_name (l := [98]) rfl (by decide) y)
  have hN2 : ∀ y : World, RowKit.Hid (Calls Tryz.prog 18 #[.string ⟨#[50]⟩] y fun e w' => e = .returned (.agg #[.string (tx [50]), .int .i64 0]) ∧ Below y.heap.size y w') := fun y => Lib.hid (c_name (l := [50]) rfl (by decide) y)
  have hP1 := fun (y : World) (hb : Nat) (h : AwH w hb 1 128 aw1 y) => Lib.hid (aw_put1 h)
  have hP2 := fun (y : World) (hb : Nat) (h : AwH w hb 2 130 aw2 y) => Lib.hid (aw_put2 h)
  unfold propV encP p7 zeroVV at hP1 hP2
  dsimp only at hP1 hP2
  go_enter Tryz.func5, Tryz.ntmps5
  go_wp2_with (first | (go_at_call 7; refine (aw_new _).mono ?_; rintro e w1 ⟨hb, rfl, hA1⟩) | (go_at_call 16; refine (aw_make hA1).mono ?_; rintro e w2 ⟨rfl, hA2⟩) | (go_at_call 18; with_reducible refine (hNb _).out.mono ?_; rintro e w3 ⟨rfl, hq⟩; have hA3 := AwH.keep (by assumption) hq; clear hq) | (go_at_call 17; with_reducible refine (hP1 _ _ (by assumption)).out.mono ?_; rintro e w4 ⟨rfl, hA4⟩) | (go_at_call 18; with_reducible refine (hN2 _).out.mono ?_; rintro e w5 ⟨rfl, hq⟩; have hA5 := AwH.keep (by assumption) hq; clear hq) | (go_at_call 17; with_reducible refine (hP2 _ _ (by assumption)).out.mono ?_; rintro e w6 ⟨rfl, hA6⟩) | (go_at_call 19; refine (aw_keys (by assumption)).mono ?_; rintro e w7 ⟨b, o, c, x, rfl, hl, hx, hs, hA7⟩))
  have hS := fun y => Lib.hid (c_Same4 x.1 (tx [50]) x.2 0 hx (by decide +kernel) y)
  rw [hs] at hS
  unfold keyV at hS
  have hA8 := hA7.keep (Below.refl _ w7).drew
  have hlt : b < w7.heap.size := cell_lt (hl w7 (Below.refl _ _)).1
  obtain ⟨c0, c1⟩ := hl w7.drew (Below.refl _ _).drew
  replace hl := Lib.hid hl
  clear hP1 hP2 hNb hA1 hA2 hA3 hA4 hA5 hA6 hA7 hx hs
  have hNb : ∀ y : World, RowKit.Hid (Calls Tryz.prog 18 #[.string ⟨#[98]⟩] y fun e w' => e = .returned (.agg #[.string (tx [98]), .int .i64 0]) ∧ Below y.heap.size y w') := fun y => Lib.hid (c_name (l := [98]) rfl (by decide) y)
  go_region_law (first | (go_simp; go_at_call 18; with_reducible refine (hN2 _).out.mono ?_; rintro e y1 ⟨rfl, hq⟩; have hA9 := AwH.keep (by assumption) hq; obtain ⟨c2, c3⟩ := hl.out y1 ((Below.refl _ w7).drew.trans (hq.mono (Nat.le_refl _))); clear hq) | (go_simp; go_at_call 20; with_reducible refine (hS _).out.mono ?_; rintro e y2 ⟨rfl, hq⟩; have hA10 := AwH.keep (by assumption) hq; clear hq) | (go_simp; go_at_call 21; refine (aw_used (by assumption)).mono ?_; rintro e y3 ⟨rfl, rfl⟩) | (go_simp; go_at_call 22; refine (aw_fast3 (by assumption)).mono ?_; rintro e y4 ⟨rfl, rfl⟩) | (go_simp; go_at_call 18; with_reducible refine (hNb _).out.mono ?_; rintro e y5 ⟨rfl, hq⟩; have hA11 := AwH.keep (by assumption) hq; clear hq) | (go_simp; go_at_call 23; refine (aw_drop (by assumption)).mono ?_; rintro e y6 ⟨rfl, hA12⟩) | (go_simp; go_at_call 22; refine (aw_fast4 (by assumption)).mono ?_; rintro e y7 ⟨rfl, rfl⟩))
  all_goals
    obtain ⟨_, _, _, hB, _⟩ := hA12
    go_wp2
    go_ret
    exact ⟨rfl, hB⟩
end Go.Proofs.YtoccmiinkfhohaaGreat
namespace Go.Proofs.YtoccmiinkfhohaaGreat
open Go.RowKit Go.Shelf Go.Lib Go.Sort Go.Proofs Go.Maps
set_option maxHeartbeats 2000000
set_option maxRecDepth 100000

/-- the reference's objects and slots as cells -/
abbrev RO := OB × Value
def encR (x : RO) : List Value := [.int .i64 x.1.cls, .int .i64 x.1.pro, .bool x.1.shut, x.2]
def flatR (l : List RO) : List Value := l.flatMap encR
theorem flatR_len (l : List RO) : (flatR l).length = l.length * 4 := fm_len (k := 4) (fun _ => rfl) l
theorem flatR_get {l : List RO} {i : Nat} {x : RO} (h : l[i]? = some x) {j : Nat} {v : Value} (hj : (encR x)[j]? = some v) : (flatR l)[i * 4 + j]? = some v := fm_get (enc := encR) (k := 4) (fun _ => rfl) h hj
theorem flatR_set {l : List RO} {i : Nat} {x x' : RO} {j : Nat} {v : Value} (h : l[i]? = some x) (hj : j < 4) (he : (encR x).set j v = encR x') : (flatR l).set (i * 4 + j) v = flatR (l.set i x') := fm_set (enc := encR) (k := 4) (fun _ => rfl) h hj he
def encL (x : KK × PV) : List Value := .string x.1.1 :: .int .i64 x.1.2 :: encP x.2
def flatL (l : List (KK × PV)) : List Value := l.flatMap encL
theorem flatL_len (l : List (KK × PV)) : (flatL l).length = l.length * 15 := fm_len (k := 15) (fun _ => rfl) l
theorem flatL_get {l : List (KK × PV)} {i : Nat} {x : KK × PV} (h : l[i]? = some x) {j : Nat} {v : Value} (hj : (encL x)[j]? = some v) : (flatL l)[i * 15 + j]? = some v := fm_get (enc := encL) (k := 15) (fun _ => rfl) h hj
theorem encL_one (x : KK × PV) : ∀ u ∈ encL x, u.oneCell' = true := by simp [encL, encP, Value.oneCell']
theorem flatL_one (l : List (KK × PV)) : ∀ u ∈ flatL l, u.oneCell' = true := by
  intro u hu
  obtain ⟨y, _, hy⟩ := List.mem_flatMap.1 hu
  exact encL_one y u hy
/-- an object's slots: nobody turns them; their keys are as they came -/
def SlotsO (w : World) (f : Nat → Nat) (sv : Value) (l : List (KK × PV)) : Prop :=
  ∃ r : List (KK × PV), RowO w f 9 106 15 sv r.length (flatL r) ∧ r.map (fun x => (pk x.1, x.2)) = l ∧ ∀ x ∈ r, okK x.1
theorem SlotsO.turn {C : Nat → Prop} {f f' : Nat → Nat} {w w' : World} {sv : Value} {l : List (KK × PV)} (h : SlotsO w f sv l) (ht : Turn C f f' w w') (hc : ¬ C 9) : SlotsO w' f' sv l := by
  obtain ⟨r, h1, h2⟩ := h
  exact ⟨r, h1.turn ht hc, h2⟩
theorem SlotsO.nil (w : World) (f : Nat → Nat) : SlotsO w f (.slice none 0 0) [] := ⟨[], ⟨⟨rfl, .inl ⟨rfl, rfl⟩⟩, fun k h => by cases h⟩, rfl, fun _ h => by cases h⟩
def zeroOB : OB := ⟨0, 0, false, false, []⟩
/-- the reference's heap -/
def RefO (w : World) (f : Nat → Nat) (rb : Nat) (lim : Int) (R : List OB) : Prop :=
  ∃ (rv : Value) (xs : List RO), (w.heap[rb]? = some (.cells #[.int .i64 lim, rv] 69 (0, 0)) ∧ f rb = 6) ∧ RowO w f 7 109 4 rv xs.length (flatR xs) ∧ xs.map Prod.fst = zeroOB :: R ∧ ∀ x ∈ xs, SlotsO w f x.2 x.1.l
theorem RefO.turn {C : Nat → Prop} {f f' : Nat → Nat} {w w' : World} {rb : Nat} {lim : Int} {R : List OB} (h : RefO w f rb lim R) (ht : Turn C f f' w w') (hC : ∀ c, C c → c = 0) : RefO w' f' rb lim R := by
  obtain ⟨rv, xs, h1, h2, h3, h4⟩ := h
  have hn : ∀ c, 0 < c → ¬ C c := fun c hc h => by have := hC c h; omega
  exact ⟨rv, xs, blk_turn h1 ht (hn _ (by omega)), h2.turn ht (hn _ (by omega)), h3, fun x hx => (h4 x hx).turn ht (hn _ (by omega))⟩
theorem RefO.below {f : Nat → Nat} {w w' : World} {rb : Nat} {lim : Int} {R : List OB} (h : RefO w f rb lim R) (hN : Norm f w) (hb' : Below w.heap.size w w') : RefO w' f rb lim R := h.turn (Turn.of_below (fun _ => False) hN hb') (fun _ h => h.elim)
/-- its cells -/
theorem RefO.form {f : Nat → Nat} {w : World} {rb : Nat} {lim : Int} {R : List OB} (h : RefO w f rb lim R) :
    ∃ g c, w.cell? ⟨rb, 0, none⟩ = some (.int .i64 lim) ∧ w.cell? ⟨rb, 1, none⟩ = some (.slice (some ⟨g, 0, none⟩) (R.length + 1) c) ∧ (rb < w.heap.size ∧ g < w.heap.size ∧ rb ≠ g) ∧
      ∀ (o : Nat) a, 0 < o → R[o - 1]? = some a → ∃ sv, SlotsO w f sv a.l ∧ ((0 : Int) ≤ (o : Int) ∧ (o : Int) < ((R.length + 1 : Nat) : Int)) ∧ (w.cell? ⟨g, o * 4, none⟩ = some (.int .i64 a.cls) ∧ w.cell? ⟨g, o * 4 + 1, none⟩ = some (.int .i64 a.pro) ∧ w.cell? ⟨g, o * 4 + 2, none⟩ = some (.bool a.shut) ∧ w.cell? ⟨g, o * 4 + 3, none⟩ = some sv) := by
  obtain ⟨rv, xs, h1, h2, h3, h4⟩ := h
  have hl : xs.length = R.length + 1 := by have := congrArg List.length h3; simpa using this
  obtain ⟨g, c, rfl, _, hlt⟩ := h2.1.form (by omega)
  have hc := h2.1.cells (g := g) rfl
  refine ⟨g, c, ?_, ?_, ⟨heapH_lt h1.1, hlt, fun e => ?_⟩, fun o a h0 ha => ?_⟩
  · rw [cell_of_row _ _ 0 _ _ _ h1.1]; rfl
  · rw [cell_of_row _ _ 1 _ _ _ h1.1, ← hl]; rfl
  · have := h2.2 g rfl; rw [← e, h1.2] at this; omega
  · have hx : (xs.map Prod.fst)[o]? = some a := by
      rw [h3]
      obtain ⟨m, rfl⟩ : ∃ m, o = m + 1 := ⟨o - 1, by omega⟩
      simpa using ha
    rw [List.getElem?_map, Option.map_eq_some_iff] at hx
    obtain ⟨x, hx1, hx2⟩ := hx
    have hlt := (List.getElem?_eq_some_iff.1 hx1).1
    subst hx2
    have e := fun j v (hj : (encR x)[j]? = some v) => hc (o * 4 + j) v (flatR_get hx1 hj)
    simp only [Addr.add_lit, Nat.zero_add] at e
    exact ⟨x.2, h4 x (List.mem_of_getElem? hx1), ⟨by omega, by omega⟩, e 0 _ rfl, e 1 _ rfl, e 2 _ rfl, e 3 _ rfl⟩
theorem c_RHas {w : World} {f : Nat → Nat} {rb : Nat} {lim : Int} {R : List OB} (h : RefO w f rb lim R) (o : Int) :
    Calls Tryz.prog 32 #[ptrV rb, .int .i64 o] w fun e w' => e = .returned (.bool (hasH R o)) ∧ w' = w := by
  obtain ⟨g, c, c0, c1, _, _⟩ := h.form
  unfold ptrV at *
  cases h1 : decide (0 < o) with
  | false =>
    have e : hasH R o = false := by unfold hasH; rw [h1]; rfl
    rw [e]
    go_enter Tryz.func32, Tryz.ntmps32
    go_wp2
    go_ret
    exact ⟨rfl, rfl⟩
  | true =>
    have e : hasH R o = decide (o < ((R.length + 1 : Nat) : Int)) := by unfold hasH; rw [h1]; rfl
    rw [e]
    clear e
    generalize R.length + 1 = n at *
    go_enter Tryz.func32, Tryz.ntmps32
    go_wp2
    go_ret
    exact ⟨rfl, rfl⟩
theorem c_RProto0 {w : World} {f : Nat → Nat} {rb : Nat} {lim : Int} {R : List OB} (h : RefO w f rb lim R) (o : Int) (ho : hasH R o = false) :
    Calls Tryz.prog 39 #[ptrV rb, .int .i64 o] w fun e w' => e = .returned (.int .i64 0) ∧ w' = w := by
  have hH := c_RHas h o
  rw [ho] at hH
  replace hH := Lib.hid hH
  clear h ho
  go_enter Tryz.func39, Tryz.ntmps39
  go_wp2_with (go_at_call 32; refine hH.out.mono ?_; rintro e w1 ⟨rfl, rfl⟩)
  go_ret
  exact ⟨rfl, rfl⟩
theorem c_RProto1 {w : World} {f : Nat → Nat} {rb : Nat} {lim : Int} {R : List OB} (h : RefO w f rb lim R) (o : Nat) (a : OB) (h0 : 0 < o) (ho : R[o - 1]? = some a) :
    Calls Tryz.prog 39 #[ptrV rb, .int .i64 (o : Int)] w fun e w' => e = .returned (.int .i64 a.pro) ∧ w' = w := by
  have hH := c_RHas h (o : Int)
  rw [hasH_of h0 ho] at hH
  obtain ⟨g, c, c0, c1, _, hr⟩ := h.form
  obtain ⟨sv, _, ⟨p1, p2⟩, d0, d1, d2, d3⟩ := hr o a h0 ho
  unfold ptrV at *
  replace hH := Lib.hid hH
  clear h ho hr
  go_enter Tryz.func39, Tryz.ntmps39
  go_wp2_with (go_at_call 32; refine hH.out.mono ?_; rintro e w1 ⟨rfl, rfl⟩)
  go_ret
  exact ⟨rfl, rfl⟩
theorem c_RClass0 {w : World} {f : Nat → Nat} {rb : Nat} {lim : Int} {R : List OB} (h : RefO w f rb lim R) (o : Int) (ho : hasH R o = false) :
    Calls Tryz.prog 37 #[ptrV rb, .int .i64 o] w fun e w' => e = .returned (.int .i64 0) ∧ w' = w := by
  have hH := c_RHas h o
  rw [ho] at hH
  replace hH := Lib.hid hH
  clear h ho
  go_enter Tryz.func37, Tryz.ntmps37
  go_wp2_with (go_at_call 32; refine hH.out.mono ?_; rintro e w1 ⟨rfl, rfl⟩)
  go_ret
  exact ⟨rfl, rfl⟩
theorem c_RClass1 {w : World} {f : Nat → Nat} {rb : Nat} {lim : Int} {R : List OB} (h : RefO w f rb lim R) (o : Nat) (a : OB) (h0 : 0 < o) (ho : R[o - 1]? = some a) :
    Calls Tryz.prog 37 #[ptrV rb, .int .i64 (o : Int)] w fun e w' => e = .returned (.int .i64 a.cls) ∧ w' = w := by
  have hH := c_RHas h (o : Int)
  rw [hasH_of h0 ho] at hH
  obtain ⟨g, c, c0, c1, _, hr⟩ := h.form
  obtain ⟨sv, _, ⟨p1, p2⟩, d0, d1, d2, d3⟩ := hr o a h0 ho
  unfold ptrV at *
  replace hH := Lib.hid hH
  clear h ho hr
  go_enter Tryz.func37, Tryz.ntmps37
  go_wp2_with (go_at_call 32; refine hH.out.mono ?_; rintro e w1 ⟨rfl, rfl⟩)
  go_ret
  exact ⟨rfl, rfl⟩
theorem c_ROpen0 {w : World} {f : Nat → Nat} {rb : Nat} {lim : Int} {R : List OB} (h : RefO w f rb lim R) (o : Int) (ho : hasH R o = false) :
    Calls Tryz.prog 41 #[ptrV rb, .int .i64 o] w fun e w' => e = .returned (.bool false) ∧ w' = w := by
  have hH := c_RHas h o
  rw [ho] at hH
  replace hH := Lib.hid hH
  clear h ho
  go_enter Tryz.func41, Tryz.ntmps41
  go_wp2_with (go_at_call 32; refine hH.out.mono ?_; rintro e w1 ⟨rfl, rfl⟩)
  go_ret
  exact ⟨rfl, rfl⟩
theorem c_ROpen1 {w : World} {f : Nat → Nat} {rb : Nat} {lim : Int} {R : List OB} (h : RefO w f rb lim R) (o : Nat) (a : OB) (h0 : 0 < o) (ho : R[o - 1]? = some a) :
    Calls Tryz.prog 41 #[ptrV rb, .int .i64 (o : Int)] w fun e w' => e = .returned (.bool (!a.shut)) ∧ w' = w := by
  have hH := c_RHas h (o : Int)
  rw [hasH_of h0 ho] at hH
  obtain ⟨g, c, c0, c1, _, hr⟩ := h.form
  obtain ⟨sv, _, ⟨p1, p2⟩, d0, d1, d2, d3⟩ := hr o a h0 ho
  unfold ptrV at *
  replace hH := Lib.hid hH
  clear h ho hr
  go_enter Tryz.func41, Tryz.ntmps41
  go_wp2_with (go_at_call 32; refine hH.out.mono ?_; rintro e w1 ⟨rfl, rfl⟩)
  go_ret
  exact ⟨rfl, rfl⟩
end Go.Proofs.YtoccmiinkfhohaaGreat
namespace Go.Proofs.YtoccmiinkfhohaaGreat
open Go.RowKit Go.Shelf Go.Lib Go.Sort Go.Proofs Go.Maps
set_option maxHeartbeats 2000000
set_option maxRecDepth 100000

def RefT (w : World) (f : Nat → Nat) (rb : Nat) (lim : Int) (R' : List OB) (w' : World) : Prop := ∃ f', Turn (fun c => c = 6 ∨ c = 7) f f' w w' ∧ RefO w' f' rb lim R'
theorem RefT.same {w w' : World} {f : Nat → Nat} {rb : Nat} {lim : Int} {R : List OB} (hN : Norm f w) (h : RefO w f rb lim R) (hb' : Below w.heap.size w w') : RefT w f rb lim R w' := ⟨f, Turn.of_below _ hN hb', h.below hN hb'⟩
theorem RefO.upd {f : Nat → Nat} {w : World} {rb : Nat} {lim : Int} {R : List OB} (h : RefO w f rb lim R) {o : Nat} {a : OB} (h0 : 0 < o) (ha : R[o - 1]? = some a) :
    ∃ g c sv, (w.cell? ⟨rb, 0, none⟩ = some (.int .i64 lim) ∧ w.cell? ⟨rb, 1, none⟩ = some (.slice (some ⟨g, 0, none⟩) (R.length + 1) c)) ∧ (rb < w.heap.size ∧ g < w.heap.size ∧ rb ≠ g) ∧ (f rb = 6 ∧ f g = 7) ∧ SlotsO w f sv a.l ∧ ((0 : Int) ≤ (o : Int) ∧ (o : Int) < ((R.length + 1 : Nat) : Int)) ∧
      (w.cell? ⟨g, o * 4, none⟩ = some (.int .i64 a.cls) ∧ w.cell? ⟨g, o * 4 + 1, none⟩ = some (.int .i64 a.pro) ∧ w.cell? ⟨g, o * 4 + 2, none⟩ = some (.bool a.shut) ∧ w.cell? ⟨g, o * 4 + 3, none⟩ = some sv) ∧ (∀ j, w.frozen? ⟨g, j, none⟩ = false) ∧
      (∀ (f1 : Nat → Nat) (w1 : World) (j : Nat) (v : Value) (a' : OB) (sv' : Value), Turn (fun _ => False) f f1 w w1 → j < 4 → (encR (a, sv)).set j v = encR (a', sv') → SlotsO w1 f1 sv' a'.l → RefT w f rb lim (R.set (o - 1) a') (w1.setCell ⟨g, o * 4 + j, none⟩ v)) := by
  obtain ⟨rv, xs, h1, h2, h3, h4⟩ := h
  have hl : xs.length = R.length + 1 := by have := congrArg List.length h3; simpa using this
  obtain ⟨g, c, rfl, _, hlt⟩ := h2.1.form (by omega)
  have hc := h2.1.cells (g := g) rfl
  have hg := h2.2 g rfl
  have hrg : rb ≠ g := fun e => by rw [← e, h1.2] at hg; omega
  obtain ⟨m, rfl⟩ : ∃ m, o = m + 1 := ⟨o - 1, by omega⟩
  have ha' : R[m]? = some a := ha
  have hx : (xs.map Prod.fst)[m + 1]? = some a := by rw [h3]; simpa using ha
  rw [List.getElem?_map, Option.map_eq_some_iff] at hx
  obtain ⟨⟨a', sv⟩, hx1, hx2⟩ := hx
  dsimp only at hx2
  subst hx2
  have hlt2 := (List.getElem?_eq_some_iff.1 hx1).1
  have e := fun j v (hj : (encR (a', sv))[j]? = some v) => hc ((m + 1) * 4 + j) v (flatR_get hx1 hj)
  simp only [Addr.add_lit, Nat.zero_add] at e
  refine ⟨g, c, sv, ⟨?_, ?_⟩, ⟨heapH_lt h1.1, hlt, hrg⟩, ⟨h1.2, hg⟩, h4 _ (List.mem_of_getElem? hx1), ⟨by omega, by omega⟩, ⟨e 0 _ rfl, e 1 _ rfl, e 2 _ rfl, e 3 _ rfl⟩, fun j => ?_, fun f1 w1 j v a2 sv2 ht hj he hs => ?_⟩
  · rw [cell_of_row _ _ 0 _ _ _ h1.1]; rfl
  · rw [cell_of_row _ _ 1 _ _ _ h1.1, ← hl]; rfl
  · obtain ⟨g', cap, e1, _, _, _, e2⟩ := row_front h2.1 (by omega)
    injection e1 with e1
    injection e1 with e1
    injection e1 with e1
    subst e1
    exact e2 j
  · have t0 : Turn (fun c => c = 6 ∨ c = 7) f f1 w w1 := ht.mono (fun _ h => h.elim)
    have g1 : f1 g = 7 := (ht.agree g hlt).trans hg
    have t1 : Turn (fun c => c = 7) f1 f1 w1 (w1.setCell ⟨g, (m + 1) * 4 + j, none⟩ v) := (Turn.refl _ ht.norm).set g _ v g1
    have r1 := blk_turn (blk_turn h1 ht id) t1 (by omega)
    have r2 := h2.turn ht id
    refine ⟨f1, t0.trans (t1.mono (fun _ h => .inr h)), _, xs.set (m + 1) (a2, sv2), r1, ?_, ?_, ?_⟩
    · have := row_set r2.1 ((m + 1) * 4 + j) v
      rw [flatR_set hx1 hj he] at this
      rw [List.length_set]
      exact ⟨this, r2.2⟩
    · rw [List.map_set, h3]; simp
    · intro x hx
      rcases List.mem_or_eq_of_mem_set hx with h | h
      · exact ((h4 x h).turn ht id).turn t1 (by omega)
      · subst h; exact hs.turn t1 (by omega)
theorem c_RShut0 {w : World} {f : Nat → Nat} {rb : Nat} {lim : Int} {R : List OB} (h : RefO w f rb lim R) (o : Int) (ho : hasH R o = false) :
    Calls Tryz.prog 31 #[ptrV rb, .int .i64 o] w fun e w' => e = .returned (.int .i64 151) ∧ w' = w := by
  have hH := c_RHas h o
  rw [ho] at hH
  replace hH := Lib.hid hH
  clear h ho
  go_enter Tryz.func31, Tryz.ntmps31
  go_wp2_with (go_at_call 32; refine hH.out.mono ?_; rintro e w1 ⟨rfl, rfl⟩)
  go_ret
  exact ⟨rfl, rfl⟩
theorem c_RShut1 {w : World} {f : Nat → Nat} {rb : Nat} {lim : Int} {R : List OB} (hN : Norm f w) (h : RefO w f rb lim R) (o : Nat) (a : OB) (h0 : 0 < o) (ho : R[o - 1]? = some a) :
    Calls Tryz.prog 31 #[ptrV rb, .int .i64 (o : Int)] w fun e w' => e = .returned (.int .i64 0) ∧ RefT w f rb lim (R.set (o - 1) { a with shut := true }) w' := by
  have hH := c_RHas h (o : Int)
  rw [hasH_of h0 ho] at hH
  obtain ⟨g, c, sv, ⟨_, c1⟩, _, _, hs, ⟨p1, p2⟩, _, fz, hu⟩ := h.upd h0 ho
  have hfin := hu f w 2 (.bool true) { a with shut := true } sv (Turn.refl _ hN) (by omega) rfl hs
  have fz2 := fz (o * 4 + 2)
  obtain ⟨d0, d1, d2, d3⟩ := ‹_ ∧ _ ∧ _ ∧ _›
  unfold ptrV at *
  replace hH := Lib.hid hH
  replace hfin := Lib.hid hfin
  clear h ho hu hs fz hN
  go_enter Tryz.func31, Tryz.ntmps31
  go_wp2_with (go_at_call 32; refine hH.out.mono ?_; rintro e w1 ⟨rfl, rfl⟩)
  go_ret
  exact ⟨rfl, hfin.out⟩
theorem c_RSetProto0 {w : World} {f : Nat → Nat} {rb : Nat} {lim : Int} {R : List OB} (h : RefO w f rb lim R) (o p : Int) (ho : hasH R o = false) :
    Calls Tryz.prog 29 #[ptrV rb, .int .i64 o, .int .i64 p] w fun e w' => e = .returned (.int .i64 151) ∧ w' = w := by
  have hH := c_RHas h o
  rw [ho] at hH
  replace hH := Lib.hid hH
  clear h ho
  go_enter Tryz.func29, Tryz.ntmps29
  go_wp2_with (go_at_call 32; refine hH.out.mono ?_; rintro e w1 ⟨rfl, rfl⟩)
  go_ret
  exact ⟨rfl, rfl⟩
theorem c_RSetProtoN {w : World} {f : Nat → Nat} {rb : Nat} {lim : Int} {R : List OB} (h : RefO w f rb lim R) (o p : Int) (ho : hasH R o = true) (hp : p ≠ 0) (hp2 : hasH R p = false) :
    Calls Tryz.prog 29 #[ptrV rb, .int .i64 o, .int .i64 p] w fun e w' => e = .returned (.int .i64 151) ∧ w' = w := by
  have hH := fun q => c_RHas h q
  have h1 := hH o
  have h2 := hH p
  rw [ho] at h1
  rw [hp2] at h2
  have hpe : (p == 0) = false := by simpa using hp
  have hpn : (p != 0) = true := by simpa using hp
  replace h1 := Lib.hid h1
  replace h2 := Lib.hid h2
  clear h ho hH hp hp2
  go_enter Tryz.func29, Tryz.ntmps29
  go_wp2_with (first | (go_at_call 32; with_reducible refine h1.out.mono ?_; rintro e w1 ⟨rfl, rfl⟩) | (go_at_call 32; with_reducible refine h2.out.mono ?_; rintro e w1 ⟨rfl, rfl⟩))
  go_ret
  exact ⟨rfl, rfl⟩
theorem c_RSetProto1 {w : World} {f : Nat → Nat} {rb : Nat} {lim : Int} {R : List OB} (hN : Norm f w) (h : RefO w f rb lim R) (o : Nat) (a : OB) (h0 : 0 < o) (ho : R[o - 1]? = some a) (p : Int) (hp : p = 0 ∨ hasH R p = true) :
    Calls Tryz.prog 29 #[ptrV rb, .int .i64 (o : Int), .int .i64 p] w fun e w' => e = .returned (.int .i64 0) ∧ RefT w f rb lim (R.set (o - 1) { a with pro := p }) w' := by
  have hH := c_RHas h (o : Int)
  rw [hasH_of h0 ho] at hH
  have hH2 := c_RHas h p
  obtain ⟨g, c, sv, ⟨_, c1⟩, _, _, hs, ⟨p1, p2⟩, _, fz, hu⟩ := h.upd h0 ho
  have hfin := hu f w 1 (.int .i64 p) { a with pro := p } sv (Turn.refl _ hN) (by omega) rfl hs
  have fz2 := fz (o * 4 + 1)
  obtain ⟨d0, d1, d2, d3⟩ := ‹_ ∧ _ ∧ _ ∧ _›
  unfold ptrV at *
  replace hH := Lib.hid hH
  replace hfin := Lib.hid hfin
  clear h ho hu hs fz hN
  by_cases hpz : p = 0
  · subst hpz
    clear hH2 hp
    go_enter Tryz.func29, Tryz.ntmps29
    go_wp2_with (go_at_call 32; refine hH.out.mono ?_; rintro e w1 ⟨rfl, rfl⟩)
    go_ret
    exact ⟨rfl, hfin.out⟩
  · have hp' : hasH R p = true := by rcases hp with h | h; exact absurd h hpz; exact h
    rw [hp'] at hH2
    have hpe : (p == 0) = false := by simpa using hpz
    have hpn : (p != 0) = true := by simpa using hpz
    replace hH2 := Lib.hid hH2
    clear hp hp' hpz
    go_enter Tryz.func29, Tryz.ntmps29
    go_wp2_with (first | (go_at_call 32; with_reducible refine hH.out.mono ?_; rintro e w1 ⟨rfl, rfl⟩) | (go_at_call 32; with_reducible refine hH2.out.mono ?_; rintro e w1 ⟨rfl, rfl⟩))
    go_ret
    exact ⟨rfl, hfin.out⟩
end Go.Proofs.YtoccmiinkfhohaaGreat

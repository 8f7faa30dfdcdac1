/-
  The contracts of slices.Clone and of the program's Order; what is in order, and has the same elements of each rank, is one list.
-/
import Derived.Test.YtbodfdmmfaampaaGreatDoorK1
import Derived.Lib.SliceRun
namespace Go.Proofs.YtbodfdmmfaampaaGreatDoor
open Go.RowKit Go.Shelf Go.Lib Go.Sort Go.Proofs
set_option maxHeartbeats 400000
set_option maxRecDepth 100000

theorem srt_eqv_eq {a b : List KK} (ha : Srt a) (hb : Srt b) (h : Eqv a b) : a = b := by
  induction a generalizing b with
  | nil => exact (List.length_eq_zero_iff.1 h.len.symm).symm
  | cons x a ih =>
    cases b with
    | nil => have := h.len; simp at this
    | cons y b =>
      obtain ⟨p1, p2⟩ := List.pairwise_cons.1 ha
      obtain ⟨q1, q2⟩ := List.pairwise_cons.1 hb
      have e1 : rk y ≤ rk x := by
        rcases List.mem_cons.1 (h.mem (List.mem_cons_self (a := x) (l := a))) with e | e
        · rw [e]; exact Nat.le_refl _
        · exact q1 x e
      have e2 : rk x ≤ rk y := by
        rcases List.mem_cons.1 (h.symm.mem (List.mem_cons_self (a := y) (l := b))) with e | e
        · rw [e]; exact Nat.le_refl _
        · exact p1 y e
      have e : rk x = rk y := Nat.le_antisymm e2 e1
      have h1 : ∀ r, cls r (x :: a) = if rk x == r then x :: cls r a else cls r a := fun r => List.filter_cons ..
      have h2 : ∀ r, cls r (y :: b) = if rk y == r then y :: cls r b else cls r b := fun r => List.filter_cons ..
      have h0 := h (rk x)
      rw [h1, h2, ← e] at h0
      simp at h0
      refine List.cons_eq_cons.2 ⟨h0.1, ih p2 q2 fun r => ?_⟩
      have hr := h r
      rw [h1, h2, ← e] at hr
      split at hr
      · exact (List.cons_eq_cons.1 hr).2
      · exact hr
theorem infoKey : (Tryz.prog.info? 29).map (fun i => (i.zero, i.size, i.bytes)) = some (some (.agg #[.string ⟨#[]⟩, .int .i64 0]), 2, 24) := by kernel_rfl
theorem news_of {w : World} {l : List KK} {p : Addr} (h : ∀ k x, l[k]? = some x → p.spot = none ∧ w.cell? ⟨p.block, p.off + k * 2, none⟩ = some (.string x.1) ∧ w.cell? ⟨p.block, p.off + k * 2 + 1, none⟩ = some (.int .i64 x.2)) :
    ∀ j u, (flatK l)[j]? = some u → w.cell? (p.add j) = some u := by
  intro j u hu
  have hj : j < l.length * 2 := by
    rw [← flatK_len]
    exact (List.getElem?_eq_some_iff.1 hu).1
  have hk : j / 2 < l.length := by omega
  have hx : l[j / 2]? = some l[j / 2] := List.getElem?_eq_getElem hk
  obtain ⟨h1, h2, h3⟩ := h _ _ hx
  obtain ⟨q1, q2⟩ := flatK_get l _ _ hx
  have e : p.add j = ⟨p.block, p.off + j, none⟩ := by
    unfold Addr.add
    split
    · rename_i h0; subst h0; rw [← h1]; simp
    · rfl
  rw [e]
  rcases Nat.mod_two_eq_zero_or_one j with hm | hm
  · have ej : j = j / 2 * 2 := by omega
    rw [ej] at hu ⊢
    rw [q1] at hu
    rw [← hu]; exact h2
  · have ej : j = j / 2 * 2 + 1 := by omega
    rw [ej] at hu ⊢
    rw [q2] at hu
    rw [← hu, ← Nat.add_assoc]; exact h3
theorem c_Clone (v : Value) (l : List KK) (hl : l.length ≤ 1099511627776) (w : World) (h : RdK w v l) :
    Calls Tryz.prog 23 #[v] w fun e w' => ∃ v', e = .returned v' ∧ (w'.ownsRow w.heap.size 29 2 v' l.length (flatK l) ∨ l = [] ∧ ∃ p, v' = .slice p 0 0) ∧ Below w.heap.size w w' := by
  rcases h with ⟨rfl, rfl⟩ | ⟨p, c, rfl, hlc, hcell⟩
  · have hq := run_eql_slice_nil (P := Tryz.prog) w 33 29 none 0 0 0 0 Tryz.underlying33
    go_enter Tryz.func23, Tryz.ntmps23
    go_wp2
    go_ret
    exact ⟨_, rfl, .inr ⟨by trivial, _, rfl⟩, Below.refl _ _⟩
  · cases l with
    | nil =>
      have hq := run_eql_slice_nil (P := Tryz.prog) w 33 29 (some p) 0 c 0 0 Tryz.underlying33
      clear hlc hcell hl
      go_enter Tryz.func23, Tryz.ntmps23
      go_wp2
      go_ret
      exact ⟨_, rfl, .inr ⟨by trivial, _, rfl⟩, (Below.refl _ _).alloc (Nat.le_refl _) _⟩
    | cons x l =>
      have hq := run_eql_slice_nil (P := Tryz.prog) w 33 29 (some p) (l.length + 1) c 0 0 Tryz.underlying33
      have hn0 := news_of hcell
      have hn := Lib.hid (fun j u (hu : (flatK (x :: l))[j]? = some u) => show (w.alloc (.cells #[] 29)).cell? (p.add j) = some u by rw [((Below.refl _ w).alloc (Nat.le_refl _) _).cell (p := p.add j) (cell_lt (hn0 j u hu))]; exact hn0 j u hu)
      clear hn0
      obtain ⟨i0, hi0, hz0, hz1, hz2⟩ := info_parts infoKey
      have hl2 : l.length + 1 ≤ 1099511627776 := hl
      have hown : (w.alloc (.cells #[] 29)).ownsRow w.heap.size 29 2 (.slice (some ⟨w.heap.size, 0, none⟩) 0 0) 0 [] := ⟨rfl, .inr ⟨w.heap.size, 0, #[], rfl, Nat.le_refl _, heap_alloc_new w _, Nat.le_refl _, Nat.zero_le _, rfl, rfl⟩⟩
      clear hcell hl
      go_enter Tryz.func23, Tryz.ntmps23
      go_wp2_with (at_builtin; refine wpList_append_lies _ (by rfl) _ _ _ (by rfl) w.heap.size 29 i0 _ 2 24 Tryz.underlying33 hi0 hz0 hz1 hz2 rfl (by omega) _ 0 [] (by rfl) hown p (l.length + 1) c (flatK (x :: l)) (by rfl) (by rw [flatK_len]; simp) hn.out (flatK_one _) (by omega) (by unfold maxLen; omega) (by omega) (by simp) (w.heap.size + 1) (by simp) ?_; intro gg cap w2 hown2 hgrow hat hlt2)
      go_ret
      refine ⟨_, rfl, .inl ?_, ((Below.refl _ w).alloc (Nat.le_refl _) _).grown hgrow (by simp) (own_base hown)⟩
      simpa using hown2
theorem rowL_own {w : World} {base g cap n : Nat} {l : List KK} (h : w.ownsRow base 29 2 (.slice (some ⟨g, 0, none⟩) n cap) n (flatK l)) : RowL w g l ∧ base ≤ g ∧ n = l.length ∧ n ≤ cap := by
  rcases h with ⟨hn, ⟨h0, _⟩ | ⟨g', cap', cur, hv, hb, hh, h1, h2, h3, h4⟩⟩
  · cases h0
  · injection hv with e1 e2 e3
    injection e1 with e1
    injection e1 with e1
    subst e1; subst e3
    rw [flatK_len] at hn
    have hB : g < w.heap.size := by
      rcases Nat.lt_or_ge g w.heap.size with h5 | h5
      · exact h5
      · rw [Array.getElem?_eq_none h5] at hh; cases hh
    refine ⟨⟨?_, hB⟩, hb, by omega, h1⟩
    intro j hj
    have hj' : j < l.length * 2 := by simpa using hj
    have hk : j / 2 < l.length := by omega
    have hx : l[j / 2]? = some l[j / 2] := List.getElem?_eq_getElem hk
    obtain ⟨q1, q2⟩ := flatK_get l _ _ hx
    have e3 : cur[j]? = (flatK l)[j]? := by rw [← h4, List.getElem?_take_of_lt (by omega), Array.getElem?_toList]
    have e4 : l.toArray[j / 2]! = l[j / 2] := by rw [getElem!_pos _ _ (by simpa using hk)]; simp
    have e5 : w.cell? ⟨g, 0 + j, none⟩ = (flatK l)[j]? := by rw [Nat.zero_add, cell_of_row w g j cur _ _ hh]; exact e3
    refine ⟨?_, by simp [World.frozen?, hh]⟩
    rw [e5, Go.Sort.get_flatK encK 2 _ j (by simpa using hj'), e4]
    rcases Nat.mod_two_eq_zero_or_one j with hm | hm
    · have ej : j / 2 * 2 = j := by omega
      rw [ej] at q1
      rw [hm]; exact q1
    · have ej : j / 2 * 2 + 1 = j := by omega
      rw [ej] at q2
      rw [hm]; exact q2
theorem rdk_rowL {w : World} {g cap : Nat} {l : List KK} (h : RowL w g l) (hc : l.length ≤ cap) : RdK w (.slice (some ⟨g, 0, none⟩) l.length cap) l := by
  refine .inr ⟨_, cap, rfl, hc, fun k x hx => ?_⟩
  have hk := (List.getElem?_eq_some_iff.1 hx).1
  have := cell_row h k (by simpa using hk)
  have e : l.toArray[k]! = x := by
    rw [getElem!_pos _ _ (by simpa using hk)]
    simpa using (List.getElem?_eq_some_iff.1 hx).2
  rw [e] at this
  exact ⟨rfl, by simpa using this.1, by simpa using this.2.1⟩
theorem c_Order (v : Value) (l : List KK) (hl : l.length ≤ 1099511627776) (hsm : Small l) (w : World) (h : RdK w v l) :
    Calls Tryz.prog 11 #[v] w fun e w' => ∃ v' Z, e = .returned v' ∧ RdK w' v' Z ∧ Srt Z ∧ Eqv Z l ∧ Below w.heap.size w w' := by
  have hC := Lib.hid (c_Clone v l hl w h)
  clear h
  cases l with
  | nil =>
    have hC2 : Calls Tryz.prog 23 #[v] w fun e w' => (∃ p c, e = .returned (.slice p 0 c) ∧ (p = none → c = 0)) ∧ Below w.heap.size w w' := by
      refine hC.out.mono ?_
      rintro e w1 ⟨v', rfl, h1, h2⟩
      refine ⟨?_, h2⟩
      rcases h1 with ⟨_, ⟨rfl, _⟩ | ⟨g, cap, cur, rfl, _⟩⟩ | ⟨_, p, rfl⟩
      · exact ⟨_, _, rfl, fun _ => rfl⟩
      · exact ⟨_, _, rfl, fun h => by cases h⟩
      · exact ⟨_, _, rfl, fun _ => rfl⟩
    replace hC2 := Lib.hid hC2
    clear hC hl hsm
    go_enter Tryz.func11, Tryz.ntmps11
    go_wp2_with (first | (go_at_call 23; refine hC2.out.mono ?_; rintro e w1 ⟨⟨p, c, rfl, hp⟩, hb⟩) | (go_at_call 24; refine (c_SortStable0 _ _ _).mono ?_; rintro e w2 ⟨rfl, rfl⟩))
    go_ret
    refine ⟨_, [], rfl, ?_, List.Pairwise.nil, Eqv.refl _, hb⟩
    cases p with
    | none =>
      obtain rfl := hp rfl
      exact .inl ⟨rfl, rfl⟩
    | some p => exact .inr ⟨p, c, rfl, by simp, fun k x hx => by simp at hx⟩
  | cons x l =>
    have hlen := (Lib.hid (rfl : (x :: l).length = (x :: l).length))
    generalize hL : x :: l = L at *
    have hpos : 0 < L.length := by rw [← hL]; simp
    have hC2 : Calls Tryz.prog 23 #[v] w fun e w' => ∃ g c, e = .returned (.slice (some ⟨g, 0, none⟩) L.length c) ∧ RowL w' g L ∧ w.heap.size ≤ g ∧ L.length ≤ c ∧ Below w.heap.size w w' := by
      refine hC.out.mono ?_
      rintro e w1 ⟨v', rfl, h1, h2⟩
      rcases h1 with h1 | ⟨h1, _⟩
      · obtain ⟨g, cap, rfl, _, _⟩ := h1.form hpos
        obtain ⟨r1, r2, r3, r4⟩ := rowL_own h1
        exact ⟨g, cap, rfl, r1, r2, r4, h2⟩
      · rw [h1] at hpos; simp at hpos
    replace hC2 := Lib.hid hC2
    have hS := fun g c w => Lib.hid (c_SortStable g c L.length L rfl hsm hl w)
    clear hC hL hlen hsm hpos
    generalize hm : L.length = m at *
    replace hm := Lib.hid hm
    go_enter Tryz.func11, Tryz.ntmps11
    go_wp2_with (first | (go_at_call 23; refine hC2.out.mono ?_; rintro e w1 ⟨g, c, rfl, hrow, hg, hc, hb⟩) | (go_at_call 24; refine ((hS _ _ _).out hrow).mono ?_; rintro e w2 ⟨rfl, ⟨Z, q1, q2, q3⟩, hfr⟩))
    go_ret
    have hZ : Z.length = m := q3.len.trans hm.out
    refine ⟨_, Z, rfl, ?_, q2, q3, ?_⟩
    · show RdK w2 (.slice (some ⟨g, 0, none⟩) m c) Z
      rw [← hZ]
      exact rdk_rowL q1 (by omega)
    · exact hb.trans ⟨hfr.os, hfr.tape, hfr.output, hfr.size, fun k hk => hfr.block k (Nat.lt_of_lt_of_le hk hb.size) (by omega)⟩
end Go.Proofs.YtbodfdmmfaampaaGreatDoor

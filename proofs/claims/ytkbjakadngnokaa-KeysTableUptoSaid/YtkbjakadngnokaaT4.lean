/-
  Tables that nobody made: what their methods tell; the contract of About.
-/
import Derived.Test.YtkbjakadngnokaaT3
namespace Go.Proofs.Ytkbjakadngnokaa
open Go.RowKit Go.Shelf Go.Lib Go.Sort Go.Proofs Go.Maps
set_option maxHeartbeats 400000
set_option maxRecDepth 8000

/-- t is nil, or leads to a table that nobody made -/
def NotT (w : World) (t : Value) : Prop := t = .pointer none ∨ ∃ tb, t = .pointer (some ⟨tb, 0, none⟩) ∧ w.heap[tb]? = some (.cells #[.int .i64 0, .map none, .slice none 0 0, .slice none 0 0] 52 (0, 0))
theorem NotT.keep {w w' : World} {t : Value} (h : NotT w t) (hb : Below w.heap.size w w') : NotT w' t := by
  rcases h with h | ⟨tb, h1, h2⟩
  · exact .inl h
  · exact .inr ⟨tb, h1, by rw [hb.block tb (heap_lt h2)]; exact h2⟩
theorem c_isN {w : World} {t : Value} (h : NotT w t) : Calls Try.prog 37 #[t] w fun e w' => e = .returned (.bool false) ∧ w' = w := by
  rcases h with rfl | ⟨tb, rfl, h2⟩
  · exact c_is0 w
  · exact c_is w tb 0 _ h2 rfl
theorem c_Name0 {w : World} {t : Value} (h : NotT w t) (n : Int) : Calls Try.prog 19 #[t, .int .i64 n] w fun e w' => e = .returned (.tuple #[.string ⟨#[]⟩, .int .i64 40]) ∧ w' = w := by
  have hI := Lib.hid (c_isN h)
  clear h
  go_enter Try.func19, Try.ntmps19
  go_wp2_with (go_at_call 37; refine hI.out.mono ?_; rintro e w1 ⟨rfl, rfl⟩)
  go_ret2
  exact ⟨rfl, rfl⟩
theorem c_Len0 {w : World} {t : Value} (h : NotT w t) : Calls Try.prog 18 #[t] w fun e w' => e = .returned (.int .i64 0) ∧ w' = w := by
  have hI := Lib.hid (c_isN h)
  clear h
  go_enter Try.func18, Try.ntmps18
  go_wp2_with (go_at_call 37; refine hI.out.mono ?_; rintro e w1 ⟨rfl, rfl⟩)
  go_ret
  exact ⟨rfl, rfl⟩
theorem c_Intern0 {w : World} {t : Value} (h : NotT w t) (s : ByteArray) : Calls Try.prog 17 #[t, .string s] w fun e w' => e = .returned (.int .i64 (-1)) ∧ w' = w := by
  have hI := Lib.hid (c_isN h)
  clear h
  go_enter Try.func17, Try.ntmps17
  go_wp2_with (go_at_call 37; refine hI.out.mono ?_; rintro e w1 ⟨rfl, rfl⟩)
  go_ret
  exact ⟨rfl, rfl⟩
theorem c_Symbol0 {w : World} {t : Value} (h : NotT w t) (s : ByteArray) : Calls Try.prog 21 #[t, .string s] w fun e w' => e = .returned (.tuple #[.agg #[.string ⟨#[]⟩, .int .i64 0], .int .i64 40]) ∧ Below w.heap.size w w' := by
  have hbA : Below w.heap.size w (w.alloc (.cells #[.string ⟨#[]⟩, .int .i64 0] 29)) := (Below.refl _ w).alloc (Nat.le_refl _) _
  have hI := Lib.hid (c_isN (h.keep hbA))
  have hr := heap_alloc_new w (.cells #[.string ⟨#[]⟩, .int .i64 0] 29)
  have hr := Lib.hid hr
  have hbA := Lib.hid hbA
  clear h
  go_enter Try.func21, Try.ntmps21
  go_wp2_with (go_at_call 37; refine hI.out.mono ?_; rintro e w1 ⟨rfl, rfl⟩)
  refine bodyPost_ret (results_cell_tmp_row rfl _ _ w.heap.size 29 _ (0, 0) _ rfl hr.out Try.underlying29 rfl infoKeyRow) rfl ?_
  exact ⟨rfl, hbA.out⟩
theorem c_About0 {w : World} {t : Value} (h : NotT w t) (k : KK) : Calls Try.prog 22 #[t, .agg #[.string k.1, .int .i64 k.2]] w fun e w' => e = .returned (.tuple #[.string ⟨#[]⟩, .int .i64 40]) ∧ Below w.heap.size w w' := by
  have hbA : Below w.heap.size w (w.alloc (.cells #[.string k.1, .int .i64 k.2] 29)) := (Below.refl _ w).alloc (Nat.le_refl _) _
  have hI := Lib.hid (c_isN (h.keep hbA))
  have hbA := Lib.hid hbA
  clear h
  go_enter Try.func22, Try.ntmps22
  go_wp2_with (go_at_call 37; refine hI.out.mono ?_; rintro e w1 ⟨rfl, rfl⟩)
  go_ret2
  exact ⟨rfl, hbA.out⟩
theorem c_AboutYes (B tb : Nat) (names syms : List ByteArray) (k : KK) (hk : 0 < k.2) (hk2 : k.2 ≤ syms.length) (hn : syms.length ≤ 1099511627776) (w : World) (h : TabS w B tb names syms) :
    Calls Try.prog 22 #[.pointer (some ⟨tb, 0, none⟩), .agg #[.string k.1, .int .i64 k.2]] w fun e w' => ∃ s, syms[(k.2 - 1).toNat]? = some s ∧ e = .returned (.tuple #[.string s, .int .i64 0]) ∧ Below w.heap.size w w' := by
  have hbA : Below w.heap.size w (w.alloc (.cells #[.string k.1, .int .i64 k.2] 29)) := (Below.refl _ w).alloc (Nat.le_refl _) _
  have hA := h.keep hbA
  have hr := heap_alloc_new w (.cells #[.string k.1, .int .i64 k.2] 29)
  have r0 : (w.alloc (.cells #[.string k.1, .int .i64 k.2] 29)).cell? ⟨w.heap.size, 0, none⟩ = some (.string k.1) := by rw [cell_of_row _ _ _ _ _ _ hr]; rfl
  have r1 : (w.alloc (.cells #[.string k.1, .int .i64 k.2] 29)).cell? ⟨w.heap.size, 1, none⟩ = some (.int .i64 k.2) := by rw [cell_of_row _ _ _ _ _ _ hr]; rfl
  obtain ⟨bm, vn, vs, D, hB1, hB2, hh, hm, ht, on, os, hal⟩ := hA
  have hI := Lib.hid (c_is (w.alloc (.cells #[.string k.1, .int .i64 k.2] 29)) tb 1 _ hh rfl)
  obtain ⟨c0, c1, c2, c3, f2, f3⟩ := rowT_cells hh
  obtain ⟨j, hj⟩ : ∃ j : Nat, k.2 = (j : Int) + 1 := ⟨(k.2 - 1).toNat, by omega⟩
  have hjl : j < syms.length := by omega
  obtain ⟨g, cap, rfl, _, _⟩ := os.form (by omega)
  have hs : syms[j]? = some syms[j] := List.getElem?_eq_getElem hjl
  have hc := os.cells (g := g) rfl j (.string syms[j]) (by simp [strs, hjl])
  rw [add_zero_addr] at hc
  have hj2 : (k.2 - 1).toNat = j := by omega
  rw [hj2]
  rw [hj] at hI r1 c0 c1 c2 c3 hc hbA ⊢
  generalize syms[j] = sj at *
  have hs := Lib.hid hs
  have hbA := Lib.hid hbA
  have p1 : ¬ ((j : Int) + 1 = 0) := by omega
  have p2 : ¬ ((j : Int) + 1 < 0) := by omega
  have p3 : ¬ ((syms.length : Int) < (j : Int) + 1) := by omega
  have p4 : (j : Int) < (syms.length : Int) := by omega
  have p5 : IntKind.i64.wrap (j : Int) = (j : Int) := by rw [IntKind.wrap_i64]; omega
  clear h hh hm ht on os hal hr f2 f3 hk hk2 hj hj2
  go_enter Try.func22, Try.ntmps22
  go_wp2_with (go_at_call 37; refine hI.out.mono ?_; rintro e w1 ⟨rfl, rfl⟩)
  go_quiet (fail)
  go_wp2
  go_quiet (fail)
  go_wp2
  go_ret2
  exact ⟨sj, hs.out, rfl, bel_drewN (bel_drewN hbA.out _) _⟩
theorem c_AboutNo (B tb : Nat) (names syms : List ByteArray) (k : KK) (hk : ¬ (0 < k.2 ∧ k.2 ≤ syms.length)) (w : World) (h : TabS w B tb names syms) :
    Calls Try.prog 22 #[.pointer (some ⟨tb, 0, none⟩), .agg #[.string k.1, .int .i64 k.2]] w fun e w' => e = .returned (.tuple #[.string ⟨#[]⟩, .int .i64 41]) ∧ Below w.heap.size w w' := by
  have hbA : Below w.heap.size w (w.alloc (.cells #[.string k.1, .int .i64 k.2] 29)) := (Below.refl _ w).alloc (Nat.le_refl _) _
  have hA := h.keep hbA
  have hr := heap_alloc_new w (.cells #[.string k.1, .int .i64 k.2] 29)
  have r0 : (w.alloc (.cells #[.string k.1, .int .i64 k.2] 29)).cell? ⟨w.heap.size, 0, none⟩ = some (.string k.1) := by rw [cell_of_row _ _ _ _ _ _ hr]; rfl
  have r1 : (w.alloc (.cells #[.string k.1, .int .i64 k.2] 29)).cell? ⟨w.heap.size, 1, none⟩ = some (.int .i64 k.2) := by rw [cell_of_row _ _ _ _ _ _ hr]; rfl
  obtain ⟨bm, vn, vs, D, hB1, hB2, hh, hm, ht, on, os, hal⟩ := hA
  have hI := Lib.hid (c_is (w.alloc (.cells #[.string k.1, .int .i64 k.2] 29)) tb 1 _ hh rfl)
  obtain ⟨c0, c1, c2, c3, f2, f3⟩ := rowT_cells hh
  have hvs : ∃ b c, vs = .slice b syms.length c := by
    rcases os.2 with ⟨e, h⟩ | ⟨g, cap, cur, e, _⟩
    · rw [h]; exact ⟨_, _, e⟩
    · exact ⟨_, _, e⟩
  obtain ⟨vb, vc, rfl⟩ := hvs
  have hbA := Lib.hid hbA
  clear h hh hm ht on os hal hr f2 f3
  generalize k.2 = z at *
  generalize k.1 = s at *
  generalize syms.length = n at *
  rcases Int.lt_trichotomy z 0 with hz | hz | hz
  · have p1 : ¬ (z = 0) := by omega
    clear hk
    go_enter Try.func22, Try.ntmps22
    go_wp2_with (go_at_call 37; refine hI.out.mono ?_; rintro e w1 ⟨rfl, rfl⟩)
    go_quiet (fail)
    go_wp2
    go_ret2
    exact ⟨rfl, bel_drewN hbA.out _⟩
  · subst hz
    clear hk
    go_enter Try.func22, Try.ntmps22
    go_wp2_with (go_at_call 37; refine hI.out.mono ?_; rintro e w1 ⟨rfl, rfl⟩)
    go_quiet (fail)
    go_wp2
    go_ret2
    exact ⟨rfl, bel_drewN hbA.out _⟩
  · have p1 : ¬ (z = 0) := by omega
    have p2 : ¬ (z < 0) := by omega
    have p3 : (n : Int) < z := by omega
    clear hk hz
    go_enter Try.func22, Try.ntmps22
    go_wp2_with (go_at_call 37; refine hI.out.mono ?_; rintro e w1 ⟨rfl, rfl⟩)
    go_quiet (fail)
    go_wp2
    go_ret2
    exact ⟨rfl, bel_drewN hbA.out _⟩
end Go.Proofs.Ytkbjakadngnokaa

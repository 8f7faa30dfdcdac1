/-
  Contracts: strings.Builder's WriteByte, WriteString and String (turned from the guide's worked texts); Itoa of 0 and 1. A builder as a state that is apart from all else; an operand, shown. Show at the law's first function (printed by gen_XQX.py). The law's awake. CodeReads: the law's walk (printed by gen_XQZ.py).
-/
import Derived.Test.YtjjogaenejdliaaGreatDoorY9
import Derived.Lib.Builder
import Derived.Lib.UnsafeStr
import Derived.WalkSpells
import Derived.WalkLawsBesides
import Derived.Test.YtjjogaenejdliaaGreatDoorY5
namespace Go.Proofs.YtjjogaenejdliaaGreatDoor
open Go.RowKit
set_option linter.unusedVariables false
set_option linter.unusedSimpArgs false
set_option maxHeartbeats 2000000
set_option maxRecDepth 100000

theorem infoByte : (Tryz.prog.info? 5).map (fun i => (i.zero, i.size, i.bytes)) = some (some (.int .u8 0), 1, 1) := by kernel_rfl
theorem sizeBuilder : (Tryz.prog.info? 73).map (·.size) = some 2 := by kernel_rfl
theorem liesBuilder : liesAt Tryz.prog Tryz.prog.depth 73 (2 / Tryz.prog.cellsOf 73) 0 73 1 = true := by kernel_rfl
theorem cellsByte : Tryz.prog.cellsOf 5 = 1 := by kernel_rfl
theorem neB5 : 73 ≠ 5 := by decide
theorem b_copyCheck_used (b : Nat) (w : World) (h0 : w.cell? ⟨b, 0, none⟩ = some (.pointer (some ⟨b, 0, none⟩))) :
    Calls Tryz.prog 63 #[.pointer (some ⟨b, 0, none⟩)] w fun e w' => e = .returned (.tuple #[]) ∧ w' = w := by
  obtain ⟨j, hj, _⟩ := Option.map_eq_some_iff.1 sizeBuilder
  go_enter Tryz.func63, Tryz.ntmps63
  go_wp2
  rw [Lib.run_neq_ptr_same w _ Tryz.underlying71 hj]
  go_wp2
  go_end0
  exact ⟨rfl, rfl⟩
theorem b_copyCheck_fresh (b : Nat) (w : World) (h0 : w.cell? ⟨b, 0, none⟩ = some (.pointer none)) (hsh : w.shape? b = some (73, 2)) (hfz : w.frozen? ⟨b, 0, none⟩ = false) :
    Calls Tryz.prog 63 #[.pointer (some ⟨b, 0, none⟩)] w fun e w' => e = .returned (.tuple #[]) ∧ w' = w.setCell ⟨b, 0, none⟩ (.pointer (some ⟨b, 0, none⟩)) := by
  obtain ⟨j, hj, hjs⟩ := Option.map_eq_some_iff.1 sizeBuilder
  go_enter Tryz.func63, Tryz.ntmps63
  go_wp2
  rw [Lib.run_to_unsafe w ⟨b, 0, none⟩ Tryz.underlying71 Tryz.underlying129 hj (by rw [hjs]; decide) hsh (Nat.zero_lt_succ 1)]
  simp only [Result.andThen]
  rw [Oper.upon_value]
  go_wp2
  rw [run_callFunc_extern Tryz.func74 (by kernel_rfl) (by kernel_rfl) (by kernel_rfl) (e := Extern.AbiNoEscape.same) (by kernel_rfl)]
  rw [Lib.run_noEscape]
  simp only [Result.andThen]
  rw [Oper.upon_value]
  go_wp2
  rw [Lib.run_from_unsafe w ⟨b, 0, none⟩ Tryz.underlying129 Tryz.underlying71 hj hsh liesBuilder]
  simp only [Result.andThen]
  rw [Oper.upon_value]
  go_wp2
  go_end0
  exact ⟨rfl, rfl⟩
theorem b_copyCheck (B b : Nat) (bs : List Value) (w : World) (h : Lib.IsBuilder 73 5 B b bs w) :
    Calls Tryz.prog 63 #[.pointer (some ⟨b, 0, none⟩)] w fun e w' => e = .returned (.tuple #[]) ∧ (Lib.BuilderAt 73 5 B b (.pointer (some ⟨b, 0, none⟩)) bs w' ∧ Below B w w') := by
  rcases h with h | h
  · refine (b_copyCheck_fresh b w h.cell0 h.shape h.frozen0).mono ?_
    rintro e w' ⟨rfl, rfl⟩
    exact ⟨rfl, h.used _, (Below.refl B w).setCell (p := ⟨b, 0, none⟩) h.1 _⟩
  · refine (b_copyCheck_used b w h.cell0).mono ?_
    rintro e w' ⟨rfl, rfl⟩
    exact ⟨rfl, h, Below.refl B _⟩
theorem b_WriteByte (B b : Nat) (bs : List Value) (c : Int) (w : World) (h : Lib.IsBuilder 73 5 B b bs w) (hlen : bs.length + 1 ≤ 140737488355328) (hBw : B ≤ w.heap.size) :
    Calls Tryz.prog 33 #[.pointer (some ⟨b, 0, none⟩), .int .u8 c] w fun e w' => e = .returned .nilIface ∧ (Lib.BuilderAt 73 5 B b (.pointer (some ⟨b, 0, none⟩)) (bs ++ [.int .u8 c]) w' ∧ Below B w w') := by
  obtain ⟨i0, hi, hz0, hz1, hz2⟩ := info_parts infoByte
  go_enter Tryz.func33, Tryz.ntmps33
  go_wp2_with (go_at_call 63; refine (b_copyCheck B b bs _ h).mono ?_)
  rintro e w1 ⟨rfl, h1, hb1⟩
  obtain ⟨hB, v, hbk, hown, hne⟩ := h1
  have c0 : w1.cell? ⟨b, 0, none⟩ = some (.pointer (some ⟨b, 0, none⟩)) := by rw [Lib.cell_of_heap hbk]; rfl
  have c1 : w1.cell? ⟨b, 1, none⟩ = some v := by rw [Lib.cell_of_heap hbk]; rfl
  go_wp2_with (at_builtin; refine wpList_append_own _ rfl _ _ 27 rfl B 5 i0 (.int .u8 0) 1 1 Tryz.underlying27 hi hz0 hz1 hz2 rfl (by decide) _ _ _ rfl (hown.alloc _) ⟨w1.heap.size, 0, none⟩ 1 1 [.int .u8 c] rfl rfl ?c1 ?c2 ?c3 ?c4 ?c5 ?_)
  case c1 =>
    intro j u hj
    match j, hj with
    | 0, hj => simp at hj; subst hj; simp [Addr.add]
  case c2 => intro u hu; simp at hu; subst hu; rfl
  case c3 => unfold maxLen; omega
  case c4 => omega
  case c5 => have := hb1.size; simp; omega
  intro v' w2 hown' hgrow _
  have hlt : b < w1.heap.size := by
    rcases Nat.lt_or_ge b w1.heap.size with h' | h'
    · exact h'
    · simp [Array.getElem?_eq_none h'] at hbk
  have hb2 : w2.heap[b]? = some (.cells #[.pointer (some ⟨b, 0, none⟩), v] 73 (0, 0)) := by
    rw [hgrow.block b (by simp; omega) (fun e => hne e.symm), Lib.alloc_old w1 _ b hlt]
    exact hbk
  have d0 : w2.cell? ⟨b, 0, none⟩ = some (.pointer (some ⟨b, 0, none⟩)) := by rw [Lib.cell_of_heap hb2]; rfl
  have d1 : w2.cell? ⟨b, 1, none⟩ = some v := by rw [Lib.cell_of_heap hb2]; rfl
  have f1 : w2.frozen? ⟨b, 1, none⟩ = false := Lib.frozen_of_heap hb2 1
  obtain ⟨g, cap, rfl⟩ : ∃ g cap, v' = .slice (some ⟨g, 0, none⟩) (bs.length + 1) cap := by
    rcases hown'.2 with ⟨_, h0⟩ | ⟨g, cap, cur, hv, _⟩
    · omega
    · exact ⟨g, cap, hv⟩
  go_wp2
  go_ret
  refine ⟨rfl, ?_, ?_⟩
  · exact Lib.BuilderAt.put (T := 73) (e := 5) hB hb2 (bs' := bs ++ [.int .u8 c]) (by simpa using hown') neB5
  · exact ((hb1.alloc (by have := hb1.size; omega) _).grown hgrow (by have := hb1.size; simp; omega) (fun k hk => (hown.lt k hk).1)).setCell (p := ⟨b, 1, none⟩) hB _
theorem b_String (B b : Nat) (l : List UInt8) (w : World) (h : Lib.IsBuilder 73 5 B b (Lib.byteCells l) w) (h0 : l ≠ []) :
    Calls Tryz.prog 34 #[.pointer (some ⟨b, 0, none⟩)] w fun e w' => e = .returned (.string ⟨l.toArray⟩) ∧ Below B w w' := by
  obtain ⟨p, hB, v, hbk, hown, hne⟩ : ∃ p, Lib.BuilderAt 73 5 B b p (Lib.byteCells l) w := by
    rcases h with h | h
    · exact ⟨_, h⟩
    · exact ⟨_, h⟩
  have hl0 : l.length ≠ 0 := by simpa using h0
  rw [Lib.byteCells_length] at hown
  obtain ⟨g, cap, cur, rfl, hbg, hg, hnc, hcm, hcs, htake⟩ : ∃ g cap cur, v = .slice (some ⟨g, 0, none⟩) l.length cap ∧ B ≤ g ∧ w.heap[g]? = some (.cells cur 5 (0, 0)) ∧ l.length ≤ cap ∧ cap ≤ maxLen ∧ cur.size = cap * 1 ∧ cur.toList.take (l.length * 1) = Lib.byteCells l := by
    rcases hown.2 with ⟨_, hz⟩ | ⟨g, cap, cur, hv, r⟩
    · exact absurd hz hl0
    · exact ⟨g, cap, cur, hv, r⟩
  have c1 : w.drew.cell? ⟨b, 1, none⟩ = some (.slice (some ⟨g, 0, none⟩) l.length cap) := by
    have : w.drew.heap[b]? = some (.cells #[p, .slice (some ⟨g, 0, none⟩) l.length cap] 73 (0, 0)) := hbk
    rw [Lib.cell_of_heap this]; rfl
  have hSD : (Builtin.unsafeSliceData_ #[27] 121 #[.slice (some ⟨g, 0, none⟩) l.length cap]).run Tryz.prog w.drew = .ok (.pointer (some ⟨g, 0, none⟩)) w.drew :=
    Lib.run_unsafeSliceData_row _ _ _ _ _ _ (by omega)
  have hUS : (Builtin.unsafeString_ #[121, 3] 9 #[.pointer (some ⟨g, 0, none⟩), .int .i64 l.length]).run Tryz.prog w.drew = .ok (.string ⟨l.toArray⟩) (w.drew.freeze ⟨g, 0, none⟩ l.length) := by
    refine Lib.run_unsafeString_row w.drew 121 3 9 5 Tryz.underlying121 cellsByte g cur.size (by have hg' : w.drew.heap[g]? = some (.cells cur 5 (0, 0)) := hg; simp [World.shape?, hg']) l h0 (by omega) (by unfold maxLen at hcm; omega) ?_
    intro j x hx
    have := hown.cells (g := g) rfl j (.int .u8 x.toNat) (by simp [Lib.byteCells, hx])
    exact this
  go_enter Tryz.func34, Tryz.ntmps34
  go_wp2
  go_region
  all_goals (go_wp2; go_ret; exact ⟨rfl, Lib.below_freeze (Below.drew (Below.refl B w)) (p := ⟨g, 0, none⟩) hbg _⟩)
theorem b_WriteString (B b : Nat) (bs : List Value) (s : ByteArray) (w : World) (h : Lib.IsBuilder 73 5 B b bs w) (hlen : bs.length + s.size ≤ 140737488355328) (hBw : B ≤ w.heap.size) :
    Calls Tryz.prog 29 #[.pointer (some ⟨b, 0, none⟩), .string s] w fun e w' => e = .returned (.tuple #[.int .i64 (s.size : Int), .nilIface]) ∧ (Lib.BuilderAt 73 5 B b (.pointer (some ⟨b, 0, none⟩)) (bs ++ Lib.strCells s) w' ∧ Below B w w') := by
  obtain ⟨i0, hi, hz0, hz1, hz2⟩ := info_parts infoByte
  go_enter Tryz.func29, Tryz.ntmps29
  go_wp2_with (go_at_call 63; refine (b_copyCheck B b bs _ h).mono ?_)
  rintro e w1 ⟨rfl, h1, hb1⟩
  obtain ⟨hB, v, hbk, hown, hne⟩ := h1
  have c0 : w1.cell? ⟨b, 0, none⟩ = some (.pointer (some ⟨b, 0, none⟩)) := by rw [Lib.cell_of_heap hbk]; rfl
  have c1 : w1.cell? ⟨b, 1, none⟩ = some v := by rw [Lib.cell_of_heap hbk]; rfl
  go_wp2_with (at_builtin; refine Lib.wpList_append_own_string _ rfl _ _ 27 9 rfl B 5 i0 Tryz.underlying27 Tryz.underlying9 hi hz0 hz1 hz2 _ _ _ rfl hown s rfl ?c3 ?c4 ?c5 ?_)
  case c3 => unfold maxLen; omega
  case c4 => omega
  case c5 => have := hb1.size; omega
  intro v' w2 hown' hgrow _
  have hlt : b < w1.heap.size := by
    rcases Nat.lt_or_ge b w1.heap.size with h' | h'
    · exact h'
    · simp [Array.getElem?_eq_none h'] at hbk
  have hb2 : w2.heap[b]? = some (.cells #[.pointer (some ⟨b, 0, none⟩), v] 73 (0, 0)) := by
    rw [hgrow.block b hlt (fun e => hne e.symm)]
    exact hbk
  have d0 : w2.cell? ⟨b, 0, none⟩ = some (.pointer (some ⟨b, 0, none⟩)) := by rw [Lib.cell_of_heap hb2]; rfl
  have d1 : w2.cell? ⟨b, 1, none⟩ = some v := by rw [Lib.cell_of_heap hb2]; rfl
  have f1 : w2.frozen? ⟨b, 1, none⟩ = false := Lib.frozen_of_heap hb2 1
  obtain ⟨q, cap, rfl⟩ := own_form2 hown'
  have hlc : (Lib.strCells s).length = s.size := Lib.strCells_length s
  go_wp2
  go_ret2
  refine ⟨rfl, ?_, ?_⟩
  · exact Lib.BuilderAt.put (T := 73) (e := 5) hB hb2 (bs' := bs ++ Lib.strCells s) (by rw [List.length_append, hlc]; exact hown') neB5
  · exact ((hb1.grown hgrow (by have := hb1.size; omega) (fun k hk => (hown.lt k hk).1))).setCell (p := ⟨b, 1, none⟩) hB _
theorem c_Itoa0 (w : World) : Calls Tryz.prog 30 #[.int .i64 0] w fun e w' => e = .returned (.string ⟨#[48]⟩) ∧ w' = w := by
  have hs : ∀ w : World, Calls Tryz.prog 86 #[.int .i64 0] w fun e w' => e = .returned (.string ⟨#[48]⟩) ∧ w' = w := fun w => by
    go_enter Tryz.func86, Tryz.ntmps86
    go_wp2
    go_ret
    exact ⟨rfl, rfl⟩
  have hf : ∀ w : World, Calls Tryz.prog 75 #[.int .i64 0, .int .i64 10] w fun e w' => e = .returned (.string ⟨#[48]⟩) ∧ w' = w := fun w => by
    go_enter Tryz.func75, Tryz.ntmps75
    go_wp2_with (go_at_call 86; refine (hs _).mono ?_; rintro e y ⟨rfl, rfl⟩)
    go_ret
    exact ⟨rfl, rfl⟩
  have hi : ∀ w : World, Calls Tryz.prog 64 #[.int .i64 0] w fun e w' => e = .returned (.string ⟨#[48]⟩) ∧ w' = w := fun w => by
    go_enter Tryz.func64, Tryz.ntmps64
    go_wp2_with (go_at_call 75; refine (hf _).mono ?_; rintro e y ⟨rfl, rfl⟩)
    go_ret
    exact ⟨rfl, rfl⟩
  go_enter Tryz.func30, Tryz.ntmps30
  go_wp2_with (go_at_call 64; refine (hi _).mono ?_; rintro e y ⟨rfl, rfl⟩)
  go_ret
  exact ⟨rfl, rfl⟩
theorem c_Itoa1 (w : World) : Calls Tryz.prog 30 #[.int .i64 1] w fun e w' => e = .returned (.string ⟨#[49]⟩) ∧ w' = w := by
  have hs : ∀ w : World, Calls Tryz.prog 86 #[.int .i64 1] w fun e w' => e = .returned (.string ⟨#[49]⟩) ∧ w' = w := fun w => by
    go_enter Tryz.func86, Tryz.ntmps86
    go_wp2
    go_ret
    exact ⟨rfl, rfl⟩
  have hf : ∀ w : World, Calls Tryz.prog 75 #[.int .i64 1, .int .i64 10] w fun e w' => e = .returned (.string ⟨#[49]⟩) ∧ w' = w := fun w => by
    go_enter Tryz.func75, Tryz.ntmps75
    go_wp2_with (go_at_call 86; refine (hs _).mono ?_; rintro e y ⟨rfl, rfl⟩)
    go_ret
    exact ⟨rfl, rfl⟩
  have hi : ∀ w : World, Calls Tryz.prog 64 #[.int .i64 1] w fun e w' => e = .returned (.string ⟨#[49]⟩) ∧ w' = w := fun w => by
    go_enter Tryz.func64, Tryz.ntmps64
    go_wp2_with (go_at_call 75; refine (hf _).mono ?_; rintro e y ⟨rfl, rfl⟩)
    go_ret
    exact ⟨rfl, rfl⟩
  go_enter Tryz.func30, Tryz.ntmps30
  go_wp2_with (go_at_call 64; refine (hi _).mono ?_; rintro e y ⟨rfl, rfl⟩)
  go_ret
  exact ⟨rfl, rfl⟩
end Go.Proofs.YtjjogaenejdliaaGreatDoor
namespace Go.Proofs.YtjjogaenejdliaaGreatDoor
open Go.RowKit Go.Lib
set_option linter.unusedVariables false
set_option linter.unusedSimpArgs false
set_option maxHeartbeats 2000000
set_option maxRecDepth 100000

/-- the builder in block b holds bs; its bytes lie in the block o -/
def BS (b : Nat) (o : Option Nat) (w : World) (bs : List Nat) : Prop := ∃ p v, (p = .pointer none ∨ p = .pointer (some ⟨b, 0, none⟩)) ∧ w.heap[b]? = some (.cells #[p, v] 73 (0, 0)) ∧ v.ownBlock = o ∧ w.ownsRow 0 5 1 v bs.length (bs.map byteV) ∧ o ≠ some b
section
variable {b : Nat} {o o' : Option Nat} {w w' : World} {bs : List Nat}
theorem BS.lt (h : BS b o w bs) : b < w.heap.size := by
  obtain ⟨_, _, _, h1, _⟩ := h
  exact row_lt h1
theorem BS.own_lt (h : BS b o w bs) : ∀ k, o = some k → k < w.heap.size := by
  obtain ⟨_, v, _, _, rfl, h3, _⟩ := h
  exact Go.Proofs.YtjjogaenejdliaaGreatDoor.own_lt h3
theorem BS.below (h : BS b o w bs) (hb : Below w.heap.size w w') : BS b o w' bs := by
  obtain ⟨p, v, h0, h1, h2, h3, h4⟩ := h
  exact ⟨p, v, h0, (hb.block _ (row_lt h1)).trans h1, h2, own_turn h3 (fun k _ _ hl => hb.block k hl), h4⟩
theorem c_bcheck (h : BS b o w bs) : Calls Tryz.prog 63 #[.pointer (some ⟨b, 0, none⟩)] w fun e w' => e = .returned (.tuple #[]) ∧ WT b o o w w' ∧ ∃ v, w'.heap[b]? = some (.cells #[.pointer (some ⟨b, 0, none⟩), v] 73 (0, 0)) ∧ v.ownBlock = o ∧ w'.ownsRow 0 5 1 v bs.length (bs.map byteV) ∧ o ≠ some b := by
  obtain ⟨p, v, rfl | rfl, h1, h2, h3, h4⟩ := h
  · have c0 : w.cell? ⟨b, 0, none⟩ = some (.pointer none) := by rw [cell_of_row _ _ 0 _ _ _ h1]; rfl
    refine (b_copyCheck_fresh b w c0 (by simp [World.shape?, h1]) (by simp [World.frozen?, h1])).mono ?_
    rintro e w' ⟨rfl, rfl⟩
    have h5 := heap_setCell_same w b 0 _ _ (.pointer (some ⟨b, 0, none⟩)) h1
    exact ⟨rfl, ⟨KB.setCell (.inl rfl), .inl rfl⟩, v, h5, h2, own_turn h3 (fun k _ he _ => Below.heap_setCell _ _ _ _ (fun e => h4 (by rw [← h2, he, e]))), h4⟩
  · have c0 : w.cell? ⟨b, 0, none⟩ = some (.pointer (some ⟨b, 0, none⟩)) := by rw [cell_of_row _ _ 0 _ _ _ h1]; rfl
    refine (b_copyCheck_used b w c0).mono ?_
    rintro e w' ⟨rfl, rfl⟩
    exact ⟨rfl, WT.refl _ _ _, v, h1, h2, h3, h4⟩
/-- what an append to a builder leaves -/
theorem bs_app {news : List Nat} {n : Nat} {y w5 : World} {v u : Value} (h0 : y.heap[b]? = some (.cells #[.pointer (some ⟨b, 0, none⟩), v] 73 (0, 0))) (ho : v.ownBlock ≠ some b) (hl : bs.length = n)
    (hown5 : w5.ownsRow 0 5 1 u (n + news.length) (bs.map byteV ++ news.map byteV)) (hg5 : KB (fun r => v.ownBlock = some r) y w5) (hat : u.ownBlock = v.ownBlock ∨ ∃ k, u.ownBlock = some k ∧ y.heap.size ≤ k) :
    (w5.cell? ⟨b, 1, none⟩ = some v ∧ w5.frozen? ⟨b, 1, none⟩ = false) ∧ BS b u.ownBlock (w5.setCell ⟨b, 1, none⟩ u) (bs ++ news) ∧ WT b v.ownBlock u.ownBlock y (w5.setCell ⟨b, 1, none⟩ u) := by
  have hlt := row_lt h0
  have h5 : w5.heap[b]? = some (.cells #[.pointer (some ⟨b, 0, none⟩), v] 73 (0, 0)) := (hg5.block b hlt ho).trans h0
  have hou : u.ownBlock ≠ some b := by
    rcases hat with h | ⟨k, h, hk⟩
    · rw [h]; exact ho
    · rw [h]; intro e; injection e with e; omega
  refine ⟨⟨by rw [cell_of_row _ _ 1 _ _ _ h5]; rfl, by simp [World.frozen?, h5]⟩, ⟨_, u, .inr rfl, heap_setCell_same w5 b 1 _ _ u h5, rfl, ?_, hou⟩, ⟨⟨hg5.os, hg5.tape, hg5.output, by simpa [World.setCell] using hg5.size, fun r hr hn => ?_⟩, hat⟩⟩
  · rw [List.map_append, List.length_append, hl]
    exact own_turn hown5 (fun k _ he _ => Below.heap_setCell _ _ _ _ (fun e => hou (by rw [he, e])))
  · exact (Below.heap_setCell _ _ _ _ (fun e => hn (.inl e))).trans (hg5.block r hr (fun e => hn (.inr e)))
theorem kb_grown {y w5 : World} {row : Option Nat} (h : y.grownBy w5 row) : KB (fun r => row = some r) y w5 := ⟨h.os, h.tape, h.output, h.size, fun r hr hn => h.block r hr (fun e => hn e.symm)⟩
theorem c_bWS (h : BS b o w bs) (s : ByteArray) (hN : bs.length + s.size ≤ 1099511627776) : Calls Tryz.prog 29 #[.pointer (some ⟨b, 0, none⟩), .string s] w fun e w' => e = .returned (.tuple #[.int .i64 (s.size : Int), .nilIface]) ∧ ∃ o', BS b o' w' (bs ++ codesB s) ∧ WT b o o' w w' := by
  obtain ⟨i0, hi0, hz0, hz1, hz2⟩ := info_parts infoU8
  have hC := Lib.hid (c_bcheck h)
  replace hN := Lib.hid hN
  clear h
  go_enter Tryz.func29, Tryz.ntmps29
  go_wp2_with fail
  refine hC.out.mono ?_
  rintro e y ⟨rfl, hWT, v, r0, rfl, hown, hne⟩
  have c1 : y.cell? ⟨b, 1, none⟩ = some v := by rw [cell_of_row _ _ 1 _ _ _ r0]; rfl
  obtain ⟨p, c, rfl⟩ := own_form2 hown
  have hlw := row_lt r0
  have hNs := hN.out
  have hr0 := Lib.hid r0
  have hne' := Lib.hid hne
  replace hWT := Lib.hid hWT
  have hN' := Lib.hid hNs
  clear hne r0 hC
  go_wp2_with (at_builtin; refine wpList_append_lies_string (by rfl) _ _ _ _ (by rfl) 0 5 i0 Tryz.underlying27 Tryz.underlying9 hi0 hz0 hz1 hz2 (.slice p bs.length c) bs.length (bs.map byteV) (by rfl) hown s (by rfl) (by unfold maxLen; omega) (by omega) (by omega) ?_; intro u w5 hown5 hg5 hat5; obtain ⟨pu, cu, rfl⟩ := own_form2 hown5; obtain ⟨⟨c10, f10⟩, hfin⟩ := bs_app (bs := bs) (n := bs.length) (news := codesB s) (u := .slice pu (bs.length + s.size) cu) hr0.out hne'.out rfl (by rw [codesB_len, ← strCells_codes]; exact hown5) (kb_grown hg5) (hat5.imp id (fun h => ⟨_, h, Nat.le_refl _⟩)); replace hfin := Lib.hid hfin; clear hg5 hown5 hat5 hown)
  go_ret2
  exact ⟨rfl, _, hfin.out.1, hWT.out.trans hfin.out.2⟩
theorem c_bWB (h : BS b o w bs) (x : Nat) (hN : bs.length + 1 ≤ 1099511627776) : Calls Tryz.prog 33 #[.pointer (some ⟨b, 0, none⟩), .int .u8 (x : Int)] w fun e w' => e = .returned .nilIface ∧ ∃ o', BS b o' w' (bs ++ [x]) ∧ WT b o o' w w' := by
  obtain ⟨i0, hi0, hz0, hz1, hz2⟩ := info_parts infoU8
  have hC := Lib.hid (c_bcheck h)
  replace hN := Lib.hid hN
  clear h
  go_enter Tryz.func33, Tryz.ntmps33
  go_wp2_with fail
  refine hC.out.mono ?_
  rintro e y ⟨rfl, hWT, v, r0, rfl, hown, hne⟩
  have c1 : y.cell? ⟨b, 1, none⟩ = some v := by rw [cell_of_row _ _ 1 _ _ _ r0]; rfl
  obtain ⟨p, c, rfl⟩ := own_form2 hown
  have hlw := row_lt r0
  have hNs := hN.out
  have hr0 := Lib.hid r0
  have hne' := Lib.hid hne
  replace hWT := Lib.hid hWT
  have hown8 := hown.alloc (.cells #[.int .u8 (x : Int)] 5)
  have hnx := World.news_of_block (cs := #[.int .u8 (x : Int)]) (t := 5) (fr := (0, 0)) (heap_alloc_new y (.cells #[.int .u8 (x : Int)] 5))
  clear hne r0 hC hown
  go_wp2_with (at_builtin; refine wpList_append_lies _ (by rfl) _ _ _ (by rfl) 0 5 i0 _ 1 1 Tryz.underlying27 hi0 hz0 hz1 hz2 rfl (by omega) (.slice p bs.length c) bs.length (bs.map byteV) (by rfl) hown8 ⟨y.heap.size, 0, none⟩ 1 1 _ (by rfl) (by rfl) hnx (fun u hu => by simp at hu; subst hu; rfl) (by omega) (by unfold maxLen; omega) (by omega) (by omega) (y.heap.size + 1) (by simp) ?_; intro gg cap w5 hown5 hg5 hat5 hlt5; obtain ⟨⟨c10, f10⟩, hfin⟩ := bs_app (bs := bs) (n := bs.length) (news := [x]) (u := .slice (some ⟨gg, 0, none⟩) (bs.length + 1) cap) hr0.out hne'.out rfl hown5 ((KB.alloc _).trans (kb_grown hg5)) (hat5.elim (fun h => .inl h.symm) (fun h => .inr ⟨gg, rfl, by omega⟩)); replace hfin := Lib.hid hfin; clear hg5 hown5 hat5 hlt5 hown8 hnx)
  go_ret
  exact ⟨rfl, _, hfin.out.1, hWT.out.trans hfin.out.2⟩
end
section
variable {a0 : ByteArray} {a1 a4 : Int} {a2 a3 : Bool} {q5 q8 q11 q14 : Option Addr} {n5 n8 n11 n14 c5 c8 c11 c14 : Nat}
theorem c_operand_r (w : World) : Calls Tryz.prog 31 #[.agg #[.string a0, .int .i64 a1, .bool a2, .bool a3, .int .i64 a4, .slice q5 n5 c5, .slice q8 n8 c8, .slice q11 n11 c11, .slice q14 n14 c14], .int .i32 114, .int .i64 0] w fun e w' => e = .returned (.string ⟨#[114, 48]⟩) ∧ Below w.heap.size w w' := by
  have hI := Lib.hid (fun (w : World) => c_Itoa0 w)
  go_enter Tryz.func31, Tryz.ntmps31
  go_wp2_with (go_at_call 30; refine (hI.out _).mono ?_; rintro e y ⟨rfl, rfl⟩)
  go_ret
  exact ⟨rfl, by first | exact (Below.refl _ w).alloc (Nat.le_refl _) _ | trivial⟩
theorem c_operand_n (w : World) : Calls Tryz.prog 31 #[.agg #[.string a0, .int .i64 a1, .bool a2, .bool a3, .int .i64 a4, .slice q5 n5 c5, .slice q8 n8 c8, .slice q11 n11 c11, .slice q14 n14 c14], .int .i32 110, .int .i64 0] w fun e w' => e = .returned (.string ⟨#[48]⟩) ∧ Below w.heap.size w w' := by
  have hI := Lib.hid (fun (w : World) => c_Itoa0 w)
  go_enter Tryz.func31, Tryz.ntmps31
  go_wp2_with (go_at_call 30; refine (hI.out _).mono ?_; rintro e y ⟨rfl, rfl⟩)
  go_ret
  exact ⟨rfl, by first | exact (Below.refl _ w).alloc (Nat.le_refl _) _ | trivial⟩
end
end Go.Proofs.YtjjogaenejdliaaGreatDoor
namespace Go.Proofs.YtjjogaenejdliaaGreatDoor
open Go.RowKit Go.Lib
set_option linter.unusedVariables false
set_option linter.unusedSimpArgs false
set_option maxHeartbeats 4000000
set_option maxRecDepth 100000

def txtS : Nat → List Nat
  | 0 => []
  | 1 => [48, 32, 76, 111, 97, 100, 32, 114, 48, 32, 48, 10]
  | _ => [48, 32, 76, 111, 97, 100, 32, 114, 48, 32, 48, 10, 49, 32, 82, 101, 116, 117, 114, 110, 32, 114, 48, 10]
def pieceL (c : UInt8) : List Nat := if c = 114 then [32, 114, 48] else [32, 48]
theorem show_at (k : Nat) (hk : k < 2) : ∃ (op : Nat) (it nm lt : ByteArray), (([0, 34] : List Nat)[k]? = some op ∧ op ≤ 70) ∧ (nmT op = nm ∧ ltT op = lt) ∧ (∀ y : World, Calls Tryz.prog 30 #[.int .i64 (k : Int)] y fun e w' => e = .returned (.string it) ∧ w' = y) ∧
    (it.size ≤ 5 ∧ nm.size ≤ 10 ∧ lt.size ≤ 4) ∧ (∀ c ∈ lt.data.toList, c = 114 ∨ c = 110) ∧ txtS k ++ codesB (it ++ ⟨#[32]⟩ ++ nm) ++ (lt.data.toList.flatMap pieceL ++ [10]) = txtS (k + 1) := by
  match k, hk with
  | 0, _ => exact ⟨0, ⟨#[48]⟩, nmT 0, ltT 0, ⟨rfl, by decide⟩, ⟨rfl, rfl⟩, fun y => c_Itoa0 y, by decide +kernel, by decide +kernel, by decide +kernel⟩
  | 1, _ => exact ⟨34, ⟨#[49]⟩, nmT 34, ltT 34, ⟨rfl, by decide⟩, ⟨rfl, rfl⟩, fun y => c_Itoa1 y, by decide +kernel, by decide +kernel, by decide +kernel⟩
theorem piece_len (l : List UInt8) : (l.flatMap pieceL).length ≤ 3 * l.length := by
  induction l with
  | nil => simp
  | cons c l ih =>
    rw [List.flatMap_cons, List.length_append, List.length_cons]
    have : (pieceL c).length ≤ 3 := by unfold pieceL; split <;> simp
    omega
theorem BS.turn {b : Nat} {o : Option Nat} {w w' : World} {bs : List Nat} (h : BS b o w bs) (hb : w'.heap[b]? = w.heap[b]?) (ho : ∀ k, o = some k → w'.heap[k]? = w.heap[k]?) : BS b o w' bs := by
  obtain ⟨p, v, h0, h1, h2, h3, h4⟩ := h
  exact ⟨p, v, h0, hb.trans h1, h2, own_turn h3 (fun k _ he _ => ho k (by rw [← h2, he])), h4⟩
theorem zero_at (j : Nat) (hj : j < 4) : ∀ W, (Instr.index 84 (.agg #[.int .i64 0, .int .i64 0, .int .i64 0, .int .i64 0]) (.int .i64 (j : Int))).run Tryz.prog W = .ok (.int .i64 0) W := by
  match j, hj with
  | 0, _ => exact fun _ => by kernel_rfl
  | 1, _ => exact fun _ => by kernel_rfl
  | 2, _ => exact fun _ => by kernel_rfl
  | 3, _ => exact fun _ => by kernel_rfl
def insS (op : Nat) : IV := ⟨(op : Int), 0, 0, 0, 0⟩
theorem c_Show2 (w : World) (cb : Nat) (hS : Spc w) (hcb : RdL 5 encI w (.slice (some ⟨cb, 0, none⟩) 2 2) [insS 0, insS 34]) :
    Calls Tryz.prog 12 #[.agg #[.string ⟨#[]⟩, .int .i64 0, .bool false, .bool false, .int .i64 1, .slice none 0 0, .slice (some ⟨cb, 0, none⟩) 2 2, .slice none 0 0, .slice none 0 0]] w fun e w' => e = .returned (.string ⟨#[48, 32, 76, 111, 97, 100, 32, 114, 48, 32, 48, 10, 49, 32, 82, 101, 116, 117, 114, 110, 32, 114, 48, 10]⟩) ∧ Below w.heap.size w w' := by
  obtain ⟨W1, hW1⟩ : ∃ W, w.alloc (.cells #[.string ⟨#[]⟩, .int .i64 0, .bool false, .bool false, .int .i64 1, .slice none 0 0, .slice (some ⟨cb, 0, none⟩) 2 2, .slice none 0 0, .slice none 0 0] 47) = W := ⟨_, rfl⟩
  obtain ⟨W2, hW2⟩ : ∃ W, W1.alloc (.cells #[.pointer none, .slice none 0 0] 73) = W := ⟨_, rfl⟩
  have s1 : W1.heap.size = w.heap.size + 1 := by rw [← hW1]; exact Array.size_push _
  have s2 : W2.heap.size = w.heap.size + 1 + 1 := by rw [← hW2, ← s1]; exact Array.size_push _
  have b1 : Below w.heap.size w W1 := by rw [← hW1]; exact (Below.refl _ w).alloc (Nat.le_refl _) _
  have b2 : Below W1.heap.size W1 W2 := by rw [← hW2]; exact (Below.refl _ W1).alloc (Nat.le_refl _) _
  have hb2 : Below w.heap.size w W2 := b1.trans (b2.mono (by omega))
  have df : W2.heap[w.heap.size]? = some (.cells #[.string ⟨#[]⟩, .int .i64 0, .bool false, .bool false, .int .i64 1, .slice none 0 0, .slice (some ⟨cb, 0, none⟩) 2 2, .slice none 0 0, .slice none 0 0] 47 (0, 0)) := by
    rw [b2.block _ (by omega), ← hW1]; exact heap_alloc_new w _
  have db : W2.heap[w.heap.size + 1]? = some (.cells #[.pointer none, .slice none 0 0] 73 (0, 0)) := by
    rw [← hW2, ← s1]; exact heap_alloc_new W1 _
  have hBS : BS (w.heap.size + 1) none W2 (txtS 0) := ⟨_, _, .inl rfl, db, rfl, World.ownsRow_nil _ _ _ _, by simp⟩
  obtain ⟨p, c, hcv, -, -, hcell⟩ := hcb
  obtain ⟨rfl, -⟩ : p = some ⟨cb, 0, none⟩ ∧ True := by injection hcv with h; exact ⟨h.symm, trivial⟩
  have hT := Lib.hid (fun (y : World) => c_find 0 y)
  obtain ⟨⟨a0, a1, a2, a3, a4, a5, a6, a7, a8⟩, -⟩ := row9 df
  replace hb2 := Lib.hid hb2
  replace df := Lib.hid df
  replace hBS := Lib.hid hBS
  replace s2 := Lib.hid s2
  replace hcell := Lib.hid hcell
  replace hS := Lib.hid hS
  clear b1 b2 db hcv
  go_enter Tryz.func12, Tryz.ntmps12
  go_wp2_with fail
  go_loopg [13] 2 (fun g v13 wr => ∃ (k : Nat) (o2 : Option Nat), k + g = 2 ∧ v13 = .int .i64 (k : Int) ∧ BS (w.heap.size + 1) o2 wr (txtS k) ∧ WT (w.heap.size + 1) none o2 W2 wr ∧ o2 ≠ some w.heap.size)
  case atStart => exact ⟨0, none, rfl, rfl, hBS.out, WT.refl _ _ _, by simp⟩
  case round =>
    obtain ⟨k, o2, hkg, rfl, hB, hWT, hof⟩ := hrel
    have hBw := hWT.below0 (B := w.heap.size) (w0 := w) (by omega) (fun k hk => by cases hk) (Nat.le_refl _) hb2.out
    rcases gk with _ | g
    · obtain rfl : k = 2 := by omega
      have hfo := hWT.from0 (B := w.heap.size) (fun k hk => by cases hk) (by have := s2.out; omega)
      obtain ⟨pp, v, hpp, r0, rfl, hown, hne⟩ := hB
      have hIs : Lib.IsBuilder 73 5 w.heap.size (w.heap.size + 1) (Lib.byteCells [48, 32, 76, 111, 97, 100, 32, 114, 48, 32, 48, 10, 49, 32, 82, 101, 116, 117, 114, 110, 32, 114, 48, 10]) wr := by
        have hx : Lib.BuilderAt 73 5 w.heap.size (w.heap.size + 1) pp (Lib.byteCells [48, 32, 76, 111, 97, 100, 32, 114, 48, 32, 48, 10, 49, 32, 82, 101, 116, 117, 114, 110, 32, 114, 48, 10]) wr := ⟨Nat.le_succ _, v, r0, own_base hown hfo, hne⟩
        rcases hpp with rfl | rfl
        · exact .inl hx
        · exact .inr hx
      have hC := Lib.hid (b_String w.heap.size (w.heap.size + 1) _ wr hIs (by decide))
      replace hBw := Lib.hid hBw
      clear hIs hown r0 hne hfo hWT hof hkg hpp
      go_wp2_with (go_at_call 34; refine hC.out.mono ?_; rintro e y ⟨rfl, hby⟩)
      go_ret
      exact ⟨rfl, hBw.out.trans hby⟩
    · obtain ⟨op, it, nm, lt, ⟨hop, hop70⟩, ⟨hnm, hlt⟩, hIt, ⟨z1, z2, z3⟩, hlet, htx⟩ := show_at k (by omega)
      have hins : ([insS 0, insS 34] : List IV)[k]? = some (insS op) := by
        have hk2 : k = 0 ∨ k = 1 := by omega
        rcases hk2 with rfl | rfl
        · simp at hop; subst hop; rfl
        · simp at hop; subst hop; rfl
      obtain ⟨bx, ox, hbx, hyx⟩ := hcell.out k _ hins
      obtain ⟨rfl, rfl⟩ : bx = cb ∧ ox = 0 := by injection hbx with h; injection h with h1 h2; exact ⟨h1.symm, h2.symm⟩
      have hcx := at_I (w := wr) (b := bx) (o := 0) (k := k) (x := insS op) (fun j u hu => (hBw.cell (cell_lt (hyx j u hu))).trans (hyx j u hu))
      simp only [Nat.zero_add, insS] at hcx
      obtain ⟨cx0, cx1, cx2, cx3, cx4⟩ := hcx
      have hfr := hWT.keep df.out (by omega) (by simp)
      obtain ⟨W9, hW9⟩ : ∃ W, wr.alloc (.cells #[.int .i64 (op : Int), .int .i64 0, .int .i64 0, .int .i64 0, .int .i64 0] 40) = W := ⟨_, rfl⟩
      have hb9 : Below wr.heap.size wr W9 := by rw [← hW9]; exact (Below.refl _ wr).alloc (Nat.le_refl _) _
      have d9 : W9.heap[wr.heap.size]? = some (.cells #[.int .i64 (op : Int), .int .i64 0, .int .i64 0, .int .i64 0, .int .i64 0] 40 (0, 0)) := by rw [← hW9]; exact heap_alloc_new wr _
      have hv : findV (op : Int) = .tuple #[.agg #[.string nm, .string lt], .bool true] := by unfold findV; rw [if_pos ⟨by omega, by omega⟩, Int.toNat_natCast, hnm, hlt]
      have hFd := c_find (op : Int) W9 (hS.out.keep (hBw.trans (hb9.mono hBw.size)))
      rw [hv] at hFd
      have hB9 := hB.below hb9
      have hT9 := hWT.trans (WT.of_below hb9)
      have hf9 := (hb9.block _ (row_lt hfr)).trans hfr
      have hibb : wr.heap.size ≠ w.heap.size + 1 := by have := hB.lt; omega
      have hio : o2 ≠ some wr.heap.size := fun e => by have := hB.own_lt _ e; omega
      obtain ⟨e0, e1, e2, e3, e4⟩ := (row5 d9).1
      have q1 : (0 : Int) ≤ (k : Int) := by omega
      have q2 : (k : Int) < 2 := by omega
      have hkg2 : (k + 1) + g = 2 := by omega
      have htxl : (txtS k).length ≤ 100 := by
        have hk2 : k = 0 ∨ k = 1 := by omega
        rcases hk2 with rfl | rfl <;> decide
      replace hFd := Lib.hid hFd
      replace hB9 := Lib.hid hB9
      replace hT9 := Lib.hid hT9
      replace hf9 := Lib.hid hf9
      replace d9 := Lib.hid d9
      replace hIt := Lib.hid hIt
      replace htx := Lib.hid htx
      replace hlet := Lib.hid hlet
      replace hibb := Lib.hid hibb
      replace hio := Lib.hid hio
      replace htxl := Lib.hid htxl
      have hz := Lib.hid (show it.size ≤ 5 ∧ nm.size ≤ 10 ∧ lt.size ≤ 4 from ⟨z1, z2, z3⟩)
      clear hyx hbx hins hop hnm hlt hv hB hWT hfr hb9 hBw hkg z1 z2 z3
      subst hW9
      go_wp2_with fail
      refine hFd.out.mono ?_
      rintro e y ⟨rfl, hby⟩
      obtain ⟨W9, hW9⟩ : ∃ W, wr.alloc (.cells #[.int .i64 (op : Int), .int .i64 0, .int .i64 0, .int .i64 0, .int .i64 0] 40) = W := ⟨_, rfl⟩
      rw [hW9] at hby hB9 hT9 hf9 d9
      have hs9 : wr.heap.size < W9.heap.size := row_lt d9.out
      obtain ⟨Wx, hWx⟩ : ∃ W, y.alloc (.cells #[.string nm, .string lt] 75) = W := ⟨_, rfl⟩
      have hbx : Below W9.heap.size W9 Wx := by rw [← hWx]; exact hby.alloc hby.size _
      have dx : Wx.heap[y.heap.size]? = some (.cells #[.string nm, .string lt] 75 (0, 0)) := by rw [← hWx]; exact heap_alloc_new y _
      have hBx := hB9.out.below hbx
      have hTx := Lib.hid (hT9.out.trans (WT.of_below hbx))
      have hfx := Lib.hid ((hbx.block _ (row_lt hf9.out)).trans hf9.out)
      have hdx := Lib.hid ((hbx.block _ (row_lt d9.out)).trans d9.out)
      have hobb := Lib.hid (show y.heap.size ≠ w.heap.size + 1 ∧ o2 ≠ some y.heap.size from ⟨by have := hB9.out.lt; have := hby.size; omega, fun e => by have := hB9.out.own_lt _ e; have := hby.size; omega⟩)
      have x0 : Wx.drew.cell? ⟨y.heap.size, 0, none⟩ = some (.string nm) := by rw [cell_of_row _ _ 0 _ _ _ (show Wx.drew.heap[y.heap.size]? = _ from dx)]; rfl
      have hBd : BS (w.heap.size + 1) o2 Wx.drew (txtS k) := hBx
      have hWS := Lib.hid (fun s hs => c_bWS hBd s hs)
      have hst := x0
      have hone : (⟨#[32]⟩ : ByteArray).size = 1 := rfl
      have g1 : ¬ 9223372036854775807 < it.size + 1 := by have := hz.out; omega
      have g2 : ¬ 9223372036854775807 < it.size + 1 + nm.size := by have := hz.out; omega
      have dx' := Lib.hid dx
      clear hFd hB9 hT9 hf9 d9 hby hbx dx hBx hBd e0 e1 e2 e3 e4
      go_wp2_with fail
      go_region_held3 (fun y9 => y9.cell? ⟨y.heap.size, 0, none⟩ = some (.string nm)) (first | with_reducible assumption | with_reducible exact hst) (first | (go_at_call 30; refine (hIt.out _).mono ?_; rintro e y7 ⟨rfl, rfl⟩) | (go_at_call 29; refine (hWS.out _ (by have := hz.out; have := htxl.out; simp only [ByteArray.size_append, hone]; omega)).mono ?_; rintro e y8 ⟨rfl, o8, hB8, hT8⟩; have hx8 := hT8.keep (show Wx.drew.heap[y.heap.size]? = _ from dx'.out) hobb.out.1 hobb.out.2; have hc8 : y8.cell? ⟨y.heap.size, 0, none⟩ = some (.string nm) := by rw [cell_of_row _ _ 0 _ _ _ hx8]; rfl))
      have hB8' := hB8
      obtain ⟨T1, hT1⟩ : ∃ T, txtS k ++ codesB (it ++ ⟨#[32]⟩ ++ nm) = T := ⟨_, rfl⟩
      rw [hT1] at hB8'
      have hT1l := Lib.hid (show T1.length ≤ 200 by
        have h1 := hz.out
        have h2 := htxl.out
        rw [← hT1, List.length_append, codesB_len, ByteArray.size_append, ByteArray.size_append, hone]
        omega)
      obtain ⟨wo, rfl⟩ : ∃ x : World, x = wr := ⟨_, rfl⟩
      obtain ⟨W10, hW10⟩ : ∃ W, y8.iter lt 0 = W := ⟨_, rfl⟩
      have hb10 : Below y8.heap.size y8 W10 := by rw [← hW10]; exact (Below.refl _ y8).alloc (Nat.le_refl _) _
      have i10 : W10.heap[y8.heap.size]? = some (.stringIter lt 0) := by rw [← hW10]; exact World.iter_heap y8 lt 0
      have hT8' := hT8.of_drew
      have hfr := hT8'.keep hfx.out (by omega) (fun e => hof e)
      have hir := hT8'.keep hdx.out hibb.out hio.out
      have hof8 := hT8'.apart (row_lt hfx.out) (fun e => hof e)
      have hio8 := hT8'.apart (row_lt hdx.out) hio.out
      have hsi := Lib.hid (show y8.heap.size ≠ w.heap.size + 1 ∧ o8 ≠ some y8.heap.size from ⟨by have := hB8'.lt; omega, fun e => by have := hB8'.own_lt _ e; omega⟩)
      have hord := Lib.hid (show w.heap.size < y8.heap.size ∧ wo.heap.size < y8.heap.size from ⟨row_lt hfr, row_lt hir⟩)
      have hTo := Lib.hid (hTx.out.trans hT8')
      have hB10 := Lib.hid (hB8'.below hb10)
      have hf10 := Lib.hid ((hb10.block _ (row_lt hfr)).trans hfr)
      have hi10 := Lib.hid ((hb10.block _ (row_lt hir)).trans hir)
      have hTb := Lib.hid (WT.of_below (wb := w.heap.size + 1) (o := o8) hb10)
      have x1 : y8.cell? ⟨y.heap.size, 1, none⟩ = some (.string lt) := by rw [cell_of_row _ _ 1 _ _ _ hx8]; rfl
      replace i10 := Lib.hid i10
      replace hT1 := Lib.hid hT1
      replace hW1 := Lib.hid hW1
      replace hW2 := Lib.hid hW2
      replace hW9 := Lib.hid hW9
      replace hWx := Lib.hid hWx
      clear hB8 hB8' hT8 hT8' hfr hir hx8 hWS hst g1 g2 x0 dx' hIt hTx hfx hdx hb10 hone cx0 cx1 cx2 cx3 cx4 a0 a1 a2 a3 a4 a5 a6 a7 a8
      go_wp2_with fail
      replace hW10 := Lib.hid hW10
      go_loopg [] lt.size (fun g wr => ∃ (j : Nat) (o9 : Option Nat), j + g = lt.size ∧ BS (w.heap.size + 1) o9 wr (T1 ++ (lt.data.toList.take j).flatMap pieceL) ∧ WT (w.heap.size + 1) o8 o9 y8 wr ∧ (o9 ≠ some w.heap.size ∧ o9 ≠ some wo.heap.size ∧ o9 ≠ some y8.heap.size) ∧ wr.heap[y8.heap.size]? = some (.stringIter lt j) ∧ wr.heap[w.heap.size]? = some (.cells #[.string ⟨#[]⟩, .int .i64 0, .bool false, .bool false, .int .i64 1, .slice none 0 0, .slice (some ⟨bx, 0, none⟩) 2 2, .slice none 0 0, .slice none 0 0] 47 (0, 0)) ∧ wr.heap[wo.heap.size]? = some (.cells #[.int .i64 (op : Int), .int .i64 0, .int .i64 0, .int .i64 0, .int .i64 0] 40 (0, 0)))
      case atStart => exact ⟨0, o8, by simp, by simpa using hB10.out, hTb.out, ⟨hof8, hio8, hsi.out.2⟩, i10.out, hf10.out, hi10.out⟩
      case round =>
        obtain ⟨j, o9, hjg, hBr, hTr, ⟨hn1, hn2, hn3⟩, hir, hfr, hcr⟩ := hrel
        rcases gk with _ | g9
        · obtain rfl : j = lt.size := by omega
          have hnx := fun (ty : TypeId) => run_next_no wr y8.heap.size lt lt.size ty hir (by omega)
          rw [List.take_of_length_le (by show lt.data.size ≤ _; exact Nat.le_refl _)] at hBr
          have hCB := Lib.hid (c_bWB hBr 10 (by have h1 := hT1l.out; have h2 := piece_len lt.data.toList; have h3 := hz.out; have h4 : lt.data.toList.length = lt.size := rfl; rw [List.length_append]; omega))
          have hTt := Lib.hid (hTo.out.trans hTr)
          have hfw := Lib.hid hfr
          clear hBr hTr hn2 hn3 hir hfr hcr hjg
          go_wp2_with fail
          refine hCB.out.mono ?_
          rintro e y15 ⟨rfl, o15, hB15, hT15⟩
          have hBf := Lib.hid (show BS (w.heap.size + 1) o15 y15 (txtS (k + 1)) by
            have h1 := hB15
            rw [← hT1.out, List.append_assoc, htx.out] at h1
            exact h1)
          have hof15 := hT15.apart (row_lt hfw.out) hn1
          have hTf := Lib.hid (hTt.out.trans hT15)
          clear hB15 hT15 hCB
          go_wp2_with fail
          go_roundg g
          case measure => exact Nat.lt_succ_self _
          case rel => exact ⟨k + 1, o15, hkg2, by go_num, hBf.out, hTf.out, hof15⟩
        · have hjl : j < lt.size := by omega
          obtain ⟨c0, hc0⟩ : ∃ c0, lt.data.toList[j]? = some c0 := ⟨_, List.getElem?_eq_getElem hjl⟩
          have hcj : lt[j]'hjl = c0 := by
            have := Lib.data_getElem? lt j hjl
            rw [hc0] at this
            injection this with this
            exact this.symm
          have hcl := hlet.out c0 (List.mem_of_getElem? hc0)
          have hdec := decode_ascii lt j hjl (by rw [hcj]; rcases hcl with rfl | rfl <;> decide)
          rw [hcj] at hdec
          have hnx := fun (ty : TypeId) => run_next_at wr y8.heap.size lt j ty hir hjl
          rw [hdec] at hnx
          have htk := Lib.hid (flat_take (wr := pieceL) hc0)
          obtain ⟨os, rune, hos1, hru, hos2, hO⟩ : ∃ (os : ByteArray) (rune : Int), os.size ≤ 5 ∧ ((c0.toNat : Nat) : Int) = rune ∧ codesB (⟨#[32]⟩ ++ os) = pieceL c0 ∧ ∀ y : World, Calls Tryz.prog 31 #[.agg #[.string ⟨#[]⟩, .int .i64 0, .bool false, .bool false, .int .i64 1, .slice none 0 0, .slice (some ⟨bx, 0, none⟩) 2 2, .slice none 0 0, .slice none 0 0], .int .i32 rune, .int .i64 0] y fun e w' => e = .returned (.string os) ∧ Below y.heap.size y w' := by
            rcases hcl with rfl | rfl
            · exact ⟨⟨#[114, 48]⟩, 114, by decide, rfl, by decide +kernel, fun y => c_operand_r y⟩
            · exact ⟨⟨#[48]⟩, 110, by decide, rfl, by decide +kernel, fun y => c_operand_n y⟩
          simp only [hru] at hnx
          obtain ⟨W11, hW11⟩ : ∃ W, putO wr y8.heap.size (.stringIter lt (j + 1)) = W := ⟨_, rfl⟩
          rw [hW11] at hnx
          have n11 : ∀ r', r' ≠ y8.heap.size → W11.heap[r']? = wr.heap[r']? := fun r' hr => by rw [← hW11]; exact putO_ne hr
          have i11 : W11.heap[y8.heap.size]? = some (.stringIter lt (j + 1)) := by rw [← hW11]; exact putO_same hir
          have hB11 := hBr.turn (n11 (w.heap.size + 1) (fun e => hsi.out.1 e.symm)) (fun k hk => n11 k (fun e => hn3 (by rw [hk, e])))
          have hT11 : WT (w.heap.size + 1) o8 o9 y8 W11 := ⟨by rw [← hW11]; exact hTr.kb.putO (Nat.le_refl _), hTr.own⟩
          have hf11 := (n11 w.heap.size (by have := hord.out; omega)).trans hfr
          have hc11 := (n11 wo.heap.size (by have := hord.out; omega)).trans hcr
          have hcel : ∀ y9 : World, Below W11.drew.heap.size W11.drew y9 → (y9.cell? ⟨w.heap.size, 0, none⟩ = some (.string ⟨#[]⟩) ∧ y9.cell? ⟨w.heap.size, 1, none⟩ = some (.int .i64 0) ∧ y9.cell? ⟨w.heap.size, 2, none⟩ = some (.bool false) ∧ y9.cell? ⟨w.heap.size, 3, none⟩ = some (.bool false) ∧ y9.cell? ⟨w.heap.size, 4, none⟩ = some (.int .i64 1) ∧ y9.cell? ⟨w.heap.size, 5, none⟩ = some (.slice none 0 0) ∧ y9.cell? ⟨w.heap.size, 6, none⟩ = some (.slice (some ⟨bx, 0, none⟩) 2 2) ∧ y9.cell? ⟨w.heap.size, 7, none⟩ = some (.slice none 0 0) ∧ y9.cell? ⟨w.heap.size, 8, none⟩ = some (.slice none 0 0)) ∧ (y9.cell? ⟨wo.heap.size, 0, none⟩ = some (.int .i64 (op : Int)) ∧ y9.cell? ⟨wo.heap.size, 1, none⟩ = some (.int .i64 0) ∧ y9.cell? ⟨wo.heap.size, 2, none⟩ = some (.int .i64 0) ∧ y9.cell? ⟨wo.heap.size, 3, none⟩ = some (.int .i64 0) ∧ y9.cell? ⟨wo.heap.size, 4, none⟩ = some (.int .i64 0)) := fun y9 hy => ⟨(row9 ((hy.block _ (row_lt (show W11.drew.heap[w.heap.size]? = _ from hf11))).trans hf11)).1, (row5 ((hy.block _ (row_lt (show W11.drew.heap[wo.heap.size]? = _ from hc11))).trans hc11)).1⟩
          have hst := hcel _ (Below.refl _ W11.drew)
          have hBd : BS (w.heap.size + 1) o9 W11.drew (T1 ++ (lt.data.toList.take j).flatMap pieceL) := hB11
          have hWS := Lib.hid (fun (y : World) (hy : Below W11.drew.heap.size W11.drew y) s hs => c_bWS (hBd.below hy) s hs)
          have hA := fun (y : World) => c_args (insS op) y
          unfold encI insS at hA
          dsimp only at hA
          have hix := zero_at j (by have := hz.out; omega)
          have g1 : ¬ 9223372036854775807 < 1 + os.size := by omega
          have hlen9 := Lib.hid (show (T1 ++ (lt.data.toList.take j).flatMap pieceL).length + ((⟨#[32]⟩ : ByteArray) ++ os).size ≤ 1099511627776 by
            have h1 := hT1l.out
            have h2 := piece_len (lt.data.toList.take j)
            have h3 := hz.out
            have h4 : (lt.data.toList.take j).length ≤ j := List.length_take_le _ _
            have h5 : (⟨#[32]⟩ : ByteArray).size = 1 := rfl
            rw [List.length_append, ByteArray.size_append, h5]
            omega)
          have hjg2 : (j + 1) + g9 = lt.size := by omega
          have hl9 := Lib.hid (show W11.heap.size = W11.drew.heap.size from rfl)
          replace hcel := Lib.hid hcel
          replace hA := Lib.hid hA
          replace hO := Lib.hid hO
          replace hos2 := Lib.hid hos2
          replace hT11 := Lib.hid hT11
          replace i11 := Lib.hid i11
          have hf11' := Lib.hid hf11
          have hc11' := Lib.hid hc11
          replace hru := Lib.hid hru
          clear hBr hTr hir hfr hcr hc0 hcj hcl hdec n11 hB11 hf11 hc11 hBd hW11 hjg
          go_wp2_with fail
          go_region_held3 (fun y9 => (y9.cell? ⟨w.heap.size, 0, none⟩ = some (.string ⟨#[]⟩) ∧ y9.cell? ⟨w.heap.size, 1, none⟩ = some (.int .i64 0) ∧ y9.cell? ⟨w.heap.size, 2, none⟩ = some (.bool false) ∧ y9.cell? ⟨w.heap.size, 3, none⟩ = some (.bool false) ∧ y9.cell? ⟨w.heap.size, 4, none⟩ = some (.int .i64 1) ∧ y9.cell? ⟨w.heap.size, 5, none⟩ = some (.slice none 0 0) ∧ y9.cell? ⟨w.heap.size, 6, none⟩ = some (.slice (some ⟨bx, 0, none⟩) 2 2) ∧ y9.cell? ⟨w.heap.size, 7, none⟩ = some (.slice none 0 0) ∧ y9.cell? ⟨w.heap.size, 8, none⟩ = some (.slice none 0 0)) ∧ (y9.cell? ⟨wo.heap.size, 0, none⟩ = some (.int .i64 (op : Int)) ∧ y9.cell? ⟨wo.heap.size, 1, none⟩ = some (.int .i64 0) ∧ y9.cell? ⟨wo.heap.size, 2, none⟩ = some (.int .i64 0) ∧ y9.cell? ⟨wo.heap.size, 3, none⟩ = some (.int .i64 0) ∧ y9.cell? ⟨wo.heap.size, 4, none⟩ = some (.int .i64 0))) (first | with_reducible assumption | with_reducible exact hst) (first | (go_at_call 32; refine (hA.out _).mono ?_; rintro e y12 ⟨rfl, hq1⟩; have hs12 := hcel.out y12 hq1) | (go_at_call 31; refine (hO.out _).mono ?_; rintro e y13 ⟨rfl, hq2⟩; have hq3 := hq1.trans (hq2.mono hq1.size); have hs13 := hcel.out y13 hq3) | (go_at_call 29; refine (hWS.out _ hq3 _ hlen9.out).mono ?_; rintro e y14 ⟨rfl, o14, hB14, hT14⟩; have hf14 := hT14.keep ((hq3.block _ (row_lt hf11'.out)).trans hf11'.out) (by omega) hn1; have hc14 := hT14.keep ((hq3.block _ (row_lt hc11'.out)).trans hc11'.out) hibb.out hn2; have hs14 : (y14.cell? ⟨w.heap.size, 0, none⟩ = some (.string ⟨#[]⟩) ∧ y14.cell? ⟨w.heap.size, 1, none⟩ = some (.int .i64 0) ∧ y14.cell? ⟨w.heap.size, 2, none⟩ = some (.bool false) ∧ y14.cell? ⟨w.heap.size, 3, none⟩ = some (.bool false) ∧ y14.cell? ⟨w.heap.size, 4, none⟩ = some (.int .i64 1) ∧ y14.cell? ⟨w.heap.size, 5, none⟩ = some (.slice none 0 0) ∧ y14.cell? ⟨w.heap.size, 6, none⟩ = some (.slice (some ⟨bx, 0, none⟩) 2 2) ∧ y14.cell? ⟨w.heap.size, 7, none⟩ = some (.slice none 0 0) ∧ y14.cell? ⟨w.heap.size, 8, none⟩ = some (.slice none 0 0)) ∧ (y14.cell? ⟨wo.heap.size, 0, none⟩ = some (.int .i64 (op : Int)) ∧ y14.cell? ⟨wo.heap.size, 1, none⟩ = some (.int .i64 0) ∧ y14.cell? ⟨wo.heap.size, 2, none⟩ = some (.int .i64 0) ∧ y14.cell? ⟨wo.heap.size, 3, none⟩ = some (.int .i64 0) ∧ y14.cell? ⟨wo.heap.size, 4, none⟩ = some (.int .i64 0)) := ⟨(row9 hf14).1, (row5 hc14).1⟩))
          have hz14 := Lib.hid (hT14.keep ((hq3.block _ (row_lt (show W11.drew.heap[y8.heap.size]? = _ from i11.out))).trans i11.out) hsi.out.1 hn3)
          have hoz := Lib.hid (show o14 ≠ some w.heap.size ∧ o14 ≠ some wo.heap.size ∧ o14 ≠ some y8.heap.size from ⟨hT14.apart (Nat.lt_of_lt_of_le (row_lt hf11'.out) hq3.size) hn1, hT14.apart (Nat.lt_of_lt_of_le (row_lt hc11'.out) hq3.size) hn2, hT14.apart (Nat.lt_of_lt_of_le (row_lt i11.out) hq3.size) hn3⟩)
          have hTz := Lib.hid (hT11.out.trans ((WT.of_below (wb := w.heap.size + 1) (o := o9) hq3).of_drew.trans hT14))
          have hBz := Lib.hid (show BS (w.heap.size + 1) o14 y14 (T1 ++ (lt.data.toList.take (j + 1)).flatMap pieceL) by rw [htk.out, ← List.append_assoc, ← hos2.out]; exact hB14)
          have hfz := Lib.hid hf14
          have hcz := Lib.hid hc14
          clear hB14 hT14 hf14 hc14 hq1 hq2 hq3 hs12 hs13 hst g1 hix hnx
          go_wp2_with fail
          go_roundg g9
          case measure => exact Nat.lt_succ_self _
          case rel => exact ⟨j + 1, o14, hjg2, hBz.out, hTz.out, hoz.out, hz14.out, hfz.out, hcz.out⟩
end Go.Proofs.YtjjogaenejdliaaGreatDoor
namespace Go.Proofs.YtjjogaenejdliaaGreatDoor
open Go.RowKit Go.Lib
set_option linter.unusedVariables false
set_option linter.unusedSimpArgs false
set_option maxHeartbeats 4000000
set_option maxRecDepth 100000

def f0 : FV := ⟨⟨#[]⟩, 0, false, false, 1, [], [insS 0, insS 34], [], []⟩
theorem f0_good : goodMb [f0] = true := by decide +kernel
theorem f0_bytes : ∀ x ∈ wrMod [f0], x < 256 := by decide +kernel
theorem f0_len : (wrMod [f0]).length ≤ 1000 := by decide +kernel
theorem f0_norm : normF f0 = f0 := rfl
theorem f0_rd : rdMod (wrMod [f0]) = some [f0] := by
  have hg : GoodF f0 := ⟨by decide, by unfold ok63; decide, by unfold ok63; decide, fun v hv => by simp [f0] at hv, fun i hi => by
    simp [f0] at hi
    rcases hi with rfl | rfl
    · refine ⟨by decide, fun k z hk => ?_⟩
      have : z = 0 := by
        simp [argsI, insS] at hk
        match k with
        | 0 => simpa using hk.symm
        | 1 => simpa using hk.symm
        | 2 => simpa using hk.symm
        | 3 => simpa using hk.symm
        | k + 4 => simp at hk
      subst this
      exact ⟨by unfold ok63; decide, fun _ => rfl⟩
    · refine ⟨by decide, fun k z hk => ?_⟩
      have : z = 0 := by
        simp [argsI, insS] at hk
        match k with
        | 0 => simpa using hk.symm
        | 1 => simpa using hk.symm
        | 2 => simpa using hk.symm
        | 3 => simpa using hk.symm
        | k + 4 => simp at hk
      subst this
      exact ⟨by unfold ok63; decide, fun _ => rfl⟩, fun t ht => by simp [f0] at ht, fun c hc => by simp [f0] at hc⟩
  have hz : SizedF f0 := ⟨by decide, by decide, by decide, by decide, by decide, fun v hv => by simp [f0] at hv⟩
  have := mod_rd [f0] (by simp) (by decide) (fun f hf => by simp at hf; subst hf; exact ⟨hg, hz⟩)
  rw [this]
  rfl
theorem rdB_own {w : World} {B : Nat} {v : Value} {bs : List Nat} (h : w.ownsRow B 5 1 v bs.length (bs.map byteV)) (hb : ∀ x ∈ bs, x < 256) (hl : bs.length ≤ 140737488355328) : RdB w v bs := by
  rcases h.2 with ⟨rfl, h0⟩ | ⟨g, cap, cur, rfl, _, hg, hn, hm, hsz, hcur⟩
  · have : bs = [] := by cases bs with | nil => rfl | cons => simp at h0
    subst this
    exact ⟨none, 0, rfl, by simp, by simp, fun k x hx => by simp at hx⟩
  · refine ⟨_, cap, rfl, hn, by unfold maxLen at hm; omega, fun k x hx => ⟨hb x (List.mem_of_getElem? hx), g, 0, rfl, ?_⟩⟩
    have h1 : (cur.toList.take (bs.length * 1))[k]? = some (byteV x) := by rw [hcur, List.getElem?_map, hx]; rfl
    rw [List.getElem?_take] at h1
    split at h1
    · rw [cell_of_row _ _ _ _ _ _ hg, Nat.zero_add]
      show _ = some (byteV x)
      simpa using h1
    · cases h1
/-- the shown text -/
def shB : ByteArray := ⟨#[48, 32, 76, 111, 97, 100, 32, 114, 48, 32, 48, 10, 49, 32, 82, 101, 116, 117, 114, 110, 32, 114, 48, 10]⟩
theorem sh_list : (shB.toList == [48, 32, 76, 111, 97, 100, 32, 114, 48, 32, 48, 10, 49, 32, 82, 101, 116, 117, 114, 110, 32, 114, 48, 10]) = true := by decide +kernel
theorem rdL_row {α : Type} {sz : Nat} {enc : α → List Value} {w : World} {b n : Nat} {cs : Array Value} {t : TypeId} {l : List α} (he : ∀ x, (enc x).length = sz) (h : w.heap[b]? = some (.cells cs t (0, 0))) (hl : l.length = n) (hn : n ≤ 100) (hc : cs.toList = l.flatMap enc) : RdL sz enc w (.slice (some ⟨b, 0, none⟩) n n) l := by
  refine ⟨_, n, by rw [hl], by omega, by unfold maxLen; omega, fun k x hx => ⟨b, 0, rfl, fun j u hu => ?_⟩⟩
  have h1 := flat_at he l k j x u hx hu
  rw [← hc] at h1
  rw [cell_of_row _ _ _ _ _ _ h, Nat.zero_add]
  simpa using h1
theorem c_awake (w : World) (hS : Spc w) : Calls Tryz.prog 5 #[] w fun e w' => e = .returned (.bool true) ∧ Below w.heap.size w w' := by
  have h00 : 0 < w.heap.size := Nat.lt_of_le_of_lt (Nat.zero_le _) (cell_lt (hS 0 (by decide)))
  obtain ⟨Wa, hWa⟩ : ∃ W, w.alloc (.cells #[.int .i64 0, .int .i64 0, .int .i64 0, .int .i64 0, .int .i64 0, .int .i64 34, .int .i64 0, .int .i64 0, .int .i64 0, .int .i64 0] 40) = W := ⟨_, rfl⟩
  obtain ⟨Wb, hWb⟩ : ∃ W, Wa.alloc (.cells #[.string ⟨#[]⟩, .int .i64 0, .bool false, .bool false, .int .i64 1, .slice none 0 0, .slice (some ⟨w.heap.size, 0, none⟩) 2 2, .slice none 0 0, .slice none 0 0] 47) = W := ⟨_, rfl⟩
  obtain ⟨Wc, hWc⟩ : ∃ W, Wb.alloc (.cells #[.string ⟨#[]⟩, .int .i64 0, .bool false, .bool false, .int .i64 1, .slice none 0 0, .slice (some ⟨w.heap.size, 0, none⟩) 2 2, .slice none 0 0, .slice none 0 0] 47) = W := ⟨_, rfl⟩
  have sa : Wa.heap.size = w.heap.size + 1 := by rw [← hWa]; exact Array.size_push _
  have sb : Wb.heap.size = w.heap.size + 1 + 1 := by rw [← hWb, ← sa]; exact Array.size_push _
  have sc : Wc.heap.size = w.heap.size + 1 + 1 + 1 := by rw [← hWc, ← sb]; exact Array.size_push _
  have ba : Below w.heap.size w Wa := by rw [← hWa]; exact (Below.refl _ w).alloc (Nat.le_refl _) _
  have bb : Below Wa.heap.size Wa Wb := by rw [← hWb]; exact (Below.refl _ Wa).alloc (Nat.le_refl _) _
  have bc : Below Wb.heap.size Wb Wc := by rw [← hWc]; exact (Below.refl _ Wb).alloc (Nat.le_refl _) _
  have hb3 : Below w.heap.size w Wc := (ba.trans (bb.mono (by omega))).trans (bc.mono (by omega))
  have di : Wc.heap[w.heap.size]? = some (.cells #[.int .i64 0, .int .i64 0, .int .i64 0, .int .i64 0, .int .i64 0, .int .i64 34, .int .i64 0, .int .i64 0, .int .i64 0, .int .i64 0] 40 (0, 0)) := by
    rw [bc.block _ (by omega), bb.block _ (by omega), ← hWa]; exact heap_alloc_new w _
  have df : Wc.heap[w.heap.size + 1]? = some (.cells #[.string ⟨#[]⟩, .int .i64 0, .bool false, .bool false, .int .i64 1, .slice none 0 0, .slice (some ⟨w.heap.size, 0, none⟩) 2 2, .slice none 0 0, .slice none 0 0] 47 (0, 0)) := by
    rw [bc.block _ (by omega), ← hWb, ← sa]; exact heap_alloc_new Wa _
  have dg : Wc.heap[w.heap.size + 1 + 1]? = some (.cells #[.string ⟨#[]⟩, .int .i64 0, .bool false, .bool false, .int .i64 1, .slice none 0 0, .slice (some ⟨w.heap.size, 0, none⟩) 2 2, .slice none 0 0, .slice none 0 0] 47 (0, 0)) := by
    rw [← hWc, ← sb]; exact heap_alloc_new Wb _
  have hRi : RdL 5 encI Wc (.slice (some ⟨w.heap.size, 0, none⟩) 2 2) [insS 0, insS 34] := rdL_row (fun _ => rfl) di rfl (by decide) rfl
  have hnil : ∀ {α : Type} (sz : Nat) (enc : α → List Value), RdL sz enc Wc (.slice none 0 0) ([] : List α) := fun sz enc => ⟨none, 0, rfl, by simp, by simp, fun k x hx => by simp at hx⟩
  have hFC : FnC Wc f0 (#[.string ⟨#[]⟩, .int .i64 0, .bool false, .bool false, .int .i64 1, .slice none 0 0, .slice (some ⟨w.heap.size, 0, none⟩) 2 2, .slice none 0 0, .slice none 0 0]).toList := ⟨_, _, _, _, rfl, ⟨hnil 4 encVV, hRi⟩, hnil 4 encT, hnil 2 encK⟩
  have hRF : RdFs Wc (.slice (some ⟨w.heap.size + 1 + 1, 0, none⟩) 1 1) [f0] := by
    refine ⟨_, 1, rfl, by simp, by unfold maxLen; omega, fun k f hf => ?_⟩
    have hk : k = 0 := by have := (List.getElem?_eq_some_iff.1 hf).1; simp at this; omega
    subst hk
    simp at hf
    subst hf
    refine ⟨_, 0, _, rfl, hFC, fun j u hu => ?_⟩
    rw [cell_of_row _ _ _ _ _ _ dg, Nat.zero_mul, Nat.zero_add]
    simpa using hu
  have hE := c_Encode [f0] _ Wc hRF (hS.keep hb3) (Nat.le_trans f0_len (by decide))
  have hSh := fun (y : World) (hy : Below Wc.heap.size Wc y) => c_Show2 y w.heap.size (hS.keep (hb3.trans (hy.mono hb3.size))) (hRi.below hy)
  have hDe := fun (y : World) (hy : Below Wc.heap.size Wc y) (g : Nat) (v : Value) (hv : RdB y v (wrMod [f0])) (hk : Blk g v) (hg : g < y.heap.size) => c_Decode v y hv hk hg (hS.keep (hb3.trans (hy.mono hb3.size))) (Nat.le_trans f0_len (by decide))
  have hlist := sh_list
  replace hSh : ∀ (y : World) (hy : Below Wc.heap.size Wc y), Calls Tryz.prog 12 #[.agg #[.string ⟨#[]⟩, .int .i64 0, .bool false, .bool false, .int .i64 1, .slice none 0 0, .slice (some ⟨w.heap.size, 0, none⟩) 2 2, .slice none 0 0, .slice none 0 0]] y fun e w' => e = .returned (.string shB) ∧ Below y.heap.size y w' := hSh
  generalize shB = SH at *
  have hfin := fun (y : World) (hy : Below Wc.heap.size Wc y) => hb3.trans (hy.mono hb3.size)
  replace hE := Lib.hid hE
  replace hSh := Lib.hid hSh
  replace hDe := Lib.hid hDe
  replace hfin := Lib.hid hfin
  replace df := Lib.hid df
  have hcl := Lib.hid (Below.refl Wc.heap.size Wc)
  clear hRi hFC hRF dg di hnil ba bb bc hb3 hS sa sb sc
  subst hWc hWb hWa
  go_enter Tryz.func5, Tryz.ntmps5
  go_wp2_with fail
  refine hE.out.mono ?_
  rintro e y ⟨hby, ⟨_, _, u, rfl, hou⟩ | ⟨_, hl, _⟩ | ⟨hg, _⟩⟩
  · have hv := rdB_own hou f0_bytes (Nat.le_trans f0_len (by decide))
    obtain ⟨g, cap, rfl⟩ : ∃ g cap, u = .slice (some ⟨g, 0, none⟩) (wrMod [f0]).length cap := by
      rcases hou.2 with ⟨_, h0⟩ | ⟨g, cap, cur, rfl, _⟩
      · exact absurd h0 (by decide +kernel)
      · exact ⟨g, cap, rfl⟩
    have hgl := own_lt hou g rfl
    have hD := Lib.hid (hDe.out y hby g _ hv (fun p n c h => by injection h with h; injection h with h; rw [← h]) hgl)
    replace hby := Lib.hid hby
    clear hE hv hou hgl hDe
    go_wp2_with fail
    refine hD.out.mono ?_
    rintro e y2 ⟨hb2, ⟨fs, u2, cs, hr, rfl, ho2, hL2⟩ | ⟨hr, _⟩⟩
    · rw [f0_rd] at hr
      injection hr with hr
      subst hr
      obtain ⟨p2, c2, rfl, _, _, hz⟩ := RdFs.of_own ho2 hL2
      obtain ⟨b, ob, cx, rfl, hFx, hcx⟩ := hz 0 f0 rfl
      obtain ⟨vc, vi, vt, vk, rfl, ⟨_, ⟨q6, n6, rfl, _⟩⟩, _⟩ := hFx
      have c6 := hcx 6 _ rfl
      have e1 : [f0].length = 1 := rfl
      have e2 : f0.code.length = 2 := rfl
      rw [e2] at c6
      simp only [Nat.zero_mul, Nat.add_zero] at c6
      rw [e1] at ho2
      rw [e1]
      have hbY := hby.out.trans (hb2.mono hby.out.size)
      have hf := (hbY.block _ (row_lt df.out)).trans df.out
      obtain ⟨⟨a0, a1, a2, a3, a4, a5, a6, a7, a8⟩, -⟩ := row9 hf
      have lb : b < y2.heap.size := cell_lt c6
      have lf : w.heap.size + 1 < y2.heap.size := row_lt hf
      have hbZ := hbY.alloc hbY.size (.cells #[.slice (some ⟨b, ob, none⟩) 1 c2] 24)
      have hS9 := Lib.hid (hSh.out _ hbZ)
      replace hbZ := Lib.hid hbZ
      clear hb2 hD hz hcx ho2 hL2 hbY hf hSh hcl e1 e2 df
      go_wp2_with (go_at_call 12; refine hS9.out.mono ?_; rintro e y4 ⟨rfl, hb4⟩)
      go_ret
      exact ⟨rfl, hfin.out _ (hbZ.out.trans (hb4.mono hbZ.out.size))⟩
    · rw [f0_rd] at hr; cases hr
  · exact absurd hl (by have := f0_len; omega)
  · rw [f0_good] at hg; cases hg
end Go.Proofs.YtjjogaenejdliaaGreatDoor
namespace Go.Proofs.YtjjogaenejdliaaGreatDoor
open Go.RowKit Go.Lib
set_option linter.unusedVariables false
set_option linter.unusedSimpArgs false
set_option maxHeartbeats 4000000
set_option maxRecDepth 100000

theorem rdFs_nil (w : World) : RdFs w (.slice none 0 0) [] := ⟨none, 0, rfl, by simp, by simp, fun k x hx => by simp at hx⟩
theorem c_CodeReads {bb : Nat} (bs : List Nat) (v : Value) (w : World) (hv : RdB w v bs) (hblk : Blk bb v) (hbb : bb < w.heap.size) (hS : Spc w) : Calls Tryz.prog 4 #[v] w fun e w' => e = .returned (.bool true) ∧ Below w.heap.size w w' := by
  have hA := Lib.hid (c_awake w hS)
  obtain ⟨p, c, rfl⟩ : ∃ p c, v = .slice p bs.length c := by
    obtain ⟨p, c, h, _⟩ := hv
    exact ⟨p, c, h⟩
  by_cases h5 : bs.length ≤ 5000
  · have hd5 : decide ((5000 : Int) < (bs.length : Int)) = false := by simp; omega
    obtain ⟨i0, hi0, hz0, hz1, hz2⟩ := info_parts infoU8
    replace hS := Lib.hid hS
    have hv' := Lib.hid hv
    replace hblk := Lib.hid hblk
    replace hbb := Lib.hid hbb
    have h5' := Lib.hid h5
    -- the two answers
    have hall : ∀ x ∈ bs, x < 256 := by
      obtain ⟨_, _, _, _, _, hc⟩ := hv
      intro x hx
      obtain ⟨k, hk⟩ := List.getElem?_of_mem hx
      exact (hc k x hk).1
    replace hall := Lib.hid hall
    have hcell : ∀ (y : World), Below w.heap.size w y → ∀ ad, p = some ad → ∀ j u, (bs.map byteV)[j]? = some u → y.cell? (ad.add j) = some u := by
      intro y hy ad had j u hu
      obtain ⟨q, d, e1, _, _, hc⟩ := hv
      injection e1 with e1 _ e3
      rw [List.getElem?_map, Option.map_eq_some_iff] at hu
      obtain ⟨x, hx, rfl⟩ := hu
      obtain ⟨_, b, o, e4, hcc⟩ := hc j x hx
      rw [← e1, had] at e4
      injection e4 with e4
      subst e4
      have e : (⟨b, o, none⟩ : Addr).add j = ⟨b, o + j, none⟩ := by
        unfold Addr.add
        split
        · rename_i hj; rw [hj]; rfl
        · rfl
      rw [e]
      exact (hy.cell (p := ⟨b, o + j, none⟩) (cell_lt hcc)).trans hcc
    replace hcell := Lib.hid hcell
    clear hv h5
    cases p with
    | none =>
      have h0 : bs = [] := by
        obtain ⟨q, d, e1, _, _, hc⟩ := hv'.out
        injection e1 with e1 _ _
        cases bs with
        | nil => rfl
        | cons x l => obtain ⟨_, b, o, e4, _⟩ := hc 0 x rfl; rw [← e1] at e4; cases e4
      subst h0
      go_enter Tryz.func4, Tryz.ntmps4
      go_wp2_with (go_at_call 5; refine hA.out.mono ?_; rintro e y ⟨rfl, hby⟩; replace hby := Lib.hid hby)
      replace hby := hby.out
      have hY := Lib.hid hby
      have hD := Lib.hid (c_Decode (bs := []) (.slice none 0 0) y ⟨none, 0, rfl, by simp, by simp, fun k x hx => by simp at hx⟩ (bb := 0) (fun p n c h => by cases h) (Nat.lt_of_le_of_lt (Nat.zero_le _) (cell_lt (hS.out.keep hby 0 (by decide)))) (hS.out.keep hby) (by simp))
      clear hby
      refine hD.out.mono ?_
      rintro e y2 ⟨hb2, ⟨fs, u1, cs, hr, rfl, ho, hL⟩ | ⟨hr, rfl⟩⟩
      · have hR1 := RdFs.of_own ho hL
        obtain ⟨p1, c1, rfl⟩ := own_form2 ho
        have hb3 := Lib.hid (hY.out.trans (hb2.mono hY.out.size))
        clear hb2 ho hL hD
        have e2 := heap_alloc_new y2 (.cells #[.slice p1 fs.length c1] 24)
        have hbZ := hb3.out.alloc hb3.out.size (.cells #[.slice p1 fs.length c1] 24)
        have hQ := Lib.hid (c_QDecode _ _ (hv'.out.below hbZ) hblk.out (Nat.lt_of_lt_of_le hbb.out hbZ.size) (Nat.le_trans h5'.out (by decide)))
        have hb2Z := (Below.refl y2.heap.size y2).alloc (Nat.le_refl _) (.cells #[.slice p1 fs.length c1] 24)
        replace hbZ := Lib.hid hbZ
        replace e2 := Lib.hid e2
        replace hb2Z := Lib.hid hb2Z
        replace hR1 := Lib.hid hR1
        go_wp2_with fail
        refine hQ.out.mono ?_
        rintro e y4 ⟨hb4, ⟨fs2, u2, cs2, hr2, rfl, ho2, hL2⟩ | ⟨hr2, rfl⟩⟩
        · rw [hr] at hr2
          injection hr2 with hr2
          subst hr2
          have hR2 := RdFs.of_own ho2 hL2
          obtain ⟨p2, c2, rfl⟩ := own_form2 ho2
          clear hr ho2 hL2
          have e4 := (hb4.block _ (row_lt e2.out)).trans e2.out
          have k4 : y4.cell? ⟨y2.heap.size, 0, none⟩ = some (.slice p1 fs.length c1) := by rw [cell_of_row _ _ 0 _ _ _ e4]; rfl
          have l4 : y2.heap.size < y4.heap.size := row_lt e4
          have hb24 := hb2Z.out.trans (hb4.mono hb2Z.out.size)
          have hbW := hbZ.out.trans (hb4.mono hbZ.out.size)
          have hSm := Lib.hid (c_QSame (y4.alloc (.cells #[.slice p2 fs.length c2] 24)) fs _ _ (hR1.out.below (hb24.alloc hb24.size _)) (hR2.below ((Below.refl y4.heap.size y4).alloc (Nat.le_refl _) _)))
          have hfin := Lib.hid (hbW.alloc hbW.size (.cells #[.slice p2 fs.length c2] 24))
          clear hb4 e4 hb24 hbW hQ hR2
          go_wp2_with (go_at_call 11; refine hSm.out.mono ?_; rintro e y5 ⟨rfl, hb5⟩)
          go_ret
          exact ⟨rfl, hfin.out.trans (hb5.mono hfin.out.size)⟩
        · rw [hr] at hr2; cases hr2
      · have hR1 := rdFs_nil y2
        have hb3 := Lib.hid (hY.out.trans (hb2.mono hY.out.size))
        clear hb2 hD
        have e2 := heap_alloc_new y2 (.cells #[.slice none 0 0] 24)
        have hbZ := hb3.out.alloc hb3.out.size (.cells #[.slice none 0 0] 24)
        have hQ := Lib.hid (c_QDecode _ _ (hv'.out.below hbZ) hblk.out (Nat.lt_of_lt_of_le hbb.out hbZ.size) (Nat.le_trans h5'.out (by decide)))
        have hb2Z := (Below.refl y2.heap.size y2).alloc (Nat.le_refl _) (.cells #[.slice none 0 0] 24)
        replace hbZ := Lib.hid hbZ
        replace e2 := Lib.hid e2
        replace hb2Z := Lib.hid hb2Z
        replace hR1 := Lib.hid hR1
        go_wp2_with fail
        refine hQ.out.mono ?_
        rintro e y4 ⟨hb4, ⟨fs2, u2, cs2, hr2, rfl, ho2, hL2⟩ | ⟨hr2, rfl⟩⟩
        · rw [hr] at hr2; cases hr2
        · have hR2 := rdFs_nil y4
          clear hr hr2
          have e4 := (hb4.block _ (row_lt e2.out)).trans e2.out
          have k4 : y4.cell? ⟨y2.heap.size, 0, none⟩ = some (.slice none 0 0) := by rw [cell_of_row _ _ 0 _ _ _ e4]; rfl
          have l4 : y2.heap.size < y4.heap.size := row_lt e4
          have hb24 := hb2Z.out.trans (hb4.mono hb2Z.out.size)
          have hbW := hbZ.out.trans (hb4.mono hbZ.out.size)
          have hSm := Lib.hid (c_QSame (y4.alloc (.cells #[.slice none 0 0] 24)) [] _ _ (hR1.out.below (hb24.alloc hb24.size _)) (hR2.below ((Below.refl y4.heap.size y4).alloc (Nat.le_refl _) _)))
          have hfin := Lib.hid (hbW.alloc hbW.size (.cells #[.slice none 0 0] 24))
          clear hb4 e4 hb24 hbW hQ hR2
          go_wp2_with (go_at_call 11; refine hSm.out.mono ?_; rintro e y5 ⟨rfl, hb5⟩)
          go_ret
          exact ⟨rfl, hfin.out.trans (hb5.mono hfin.out.size)⟩
    | some ad =>
      by_cases h0 : bs = []
      · subst h0
        go_enter Tryz.func4, Tryz.ntmps4
        go_wp2_with (go_at_call 5; refine hA.out.mono ?_; rintro e y ⟨rfl, hby⟩; replace hby := Lib.hid hby)
        replace hby := hby.out
        have hY := Lib.hid hby
        have hD := Lib.hid (c_Decode (bs := []) (.slice none 0 0) y ⟨none, 0, rfl, by simp, by simp, fun k x hx => by simp at hx⟩ (bb := 0) (fun p n c h => by cases h) (Nat.lt_of_le_of_lt (Nat.zero_le _) (cell_lt (hS.out.keep hby 0 (by decide)))) (hS.out.keep hby) (by simp))
        clear hby
        refine hD.out.mono ?_
        rintro e y2 ⟨hb2, ⟨fs, u1, cs, hr, rfl, ho, hL⟩ | ⟨hr, rfl⟩⟩
        · have hR1 := RdFs.of_own ho hL
          obtain ⟨p1, c1, rfl⟩ := own_form2 ho
          have hb3 := Lib.hid (hY.out.trans (hb2.mono hY.out.size))
          clear hb2 ho hL hD
          have e2 := heap_alloc_new y2 (.cells #[.slice p1 fs.length c1] 24)
          have hbZ := hb3.out.alloc hb3.out.size (.cells #[.slice p1 fs.length c1] 24)
          have hQ := Lib.hid (c_QDecode _ _ (hv'.out.below hbZ) hblk.out (Nat.lt_of_lt_of_le hbb.out hbZ.size) (Nat.le_trans h5'.out (by decide)))
          have hb2Z := (Below.refl y2.heap.size y2).alloc (Nat.le_refl _) (.cells #[.slice p1 fs.length c1] 24)
          replace hbZ := Lib.hid hbZ
          replace e2 := Lib.hid e2
          replace hb2Z := Lib.hid hb2Z
          replace hR1 := Lib.hid hR1
          go_wp2_with fail
          refine hQ.out.mono ?_
          rintro e y4 ⟨hb4, ⟨fs2, u2, cs2, hr2, rfl, ho2, hL2⟩ | ⟨hr2, rfl⟩⟩
          · rw [hr] at hr2
            injection hr2 with hr2
            subst hr2
            have hR2 := RdFs.of_own ho2 hL2
            obtain ⟨p2, c2, rfl⟩ := own_form2 ho2
            clear hr ho2 hL2
            have e4 := (hb4.block _ (row_lt e2.out)).trans e2.out
            have k4 : y4.cell? ⟨y2.heap.size, 0, none⟩ = some (.slice p1 fs.length c1) := by rw [cell_of_row _ _ 0 _ _ _ e4]; rfl
            have l4 : y2.heap.size < y4.heap.size := row_lt e4
            have hb24 := hb2Z.out.trans (hb4.mono hb2Z.out.size)
            have hbW := hbZ.out.trans (hb4.mono hbZ.out.size)
            have hSm := Lib.hid (c_QSame (y4.alloc (.cells #[.slice p2 fs.length c2] 24)) fs _ _ (hR1.out.below (hb24.alloc hb24.size _)) (hR2.below ((Below.refl y4.heap.size y4).alloc (Nat.le_refl _) _)))
            have hfin := Lib.hid (hbW.alloc hbW.size (.cells #[.slice p2 fs.length c2] 24))
            clear hb4 e4 hb24 hbW hQ hR2
            go_wp2_with (go_at_call 11; refine hSm.out.mono ?_; rintro e y5 ⟨rfl, hb5⟩)
            go_ret
            exact ⟨rfl, hfin.out.trans (hb5.mono hfin.out.size)⟩
          · rw [hr] at hr2; cases hr2
        · have hR1 := rdFs_nil y2
          have hb3 := Lib.hid (hY.out.trans (hb2.mono hY.out.size))
          clear hb2 hD
          have e2 := heap_alloc_new y2 (.cells #[.slice none 0 0] 24)
          have hbZ := hb3.out.alloc hb3.out.size (.cells #[.slice none 0 0] 24)
          have hQ := Lib.hid (c_QDecode _ _ (hv'.out.below hbZ) hblk.out (Nat.lt_of_lt_of_le hbb.out hbZ.size) (Nat.le_trans h5'.out (by decide)))
          have hb2Z := (Below.refl y2.heap.size y2).alloc (Nat.le_refl _) (.cells #[.slice none 0 0] 24)
          replace hbZ := Lib.hid hbZ
          replace e2 := Lib.hid e2
          replace hb2Z := Lib.hid hb2Z
          replace hR1 := Lib.hid hR1
          go_wp2_with fail
          refine hQ.out.mono ?_
          rintro e y4 ⟨hb4, ⟨fs2, u2, cs2, hr2, rfl, ho2, hL2⟩ | ⟨hr2, rfl⟩⟩
          · rw [hr] at hr2; cases hr2
          · have hR2 := rdFs_nil y4
            clear hr hr2
            have e4 := (hb4.block _ (row_lt e2.out)).trans e2.out
            have k4 : y4.cell? ⟨y2.heap.size, 0, none⟩ = some (.slice none 0 0) := by rw [cell_of_row _ _ 0 _ _ _ e4]; rfl
            have l4 : y2.heap.size < y4.heap.size := row_lt e4
            have hb24 := hb2Z.out.trans (hb4.mono hb2Z.out.size)
            have hbW := hbZ.out.trans (hb4.mono hbZ.out.size)
            have hSm := Lib.hid (c_QSame (y4.alloc (.cells #[.slice none 0 0] 24)) [] _ _ (hR1.out.below (hb24.alloc hb24.size _)) (hR2.below ((Below.refl y4.heap.size y4).alloc (Nat.le_refl _) _)))
            have hfin := Lib.hid (hbW.alloc hbW.size (.cells #[.slice none 0 0] 24))
            clear hb4 e4 hb24 hbW hQ hR2
            go_wp2_with (go_at_call 11; refine hSm.out.mono ?_; rintro e y5 ⟨rfl, hb5⟩)
            go_ret
            exact ⟨rfl, hfin.out.trans (hb5.mono hfin.out.size)⟩
      · have hpos : 0 < bs.length := List.length_pos_iff.2 h0
        have hml : (bs.map byteV).length = bs.length * 1 := by simp
        have hone : ∀ u ∈ bs.map byteV, u.oneCell' = true := fun u hu => by
          obtain ⟨x, _, rfl⟩ := List.mem_map.1 hu
          rfl
        have hlen := h5'.out
        replace hml := Lib.hid hml
        replace hone := Lib.hid hone
        clear h0
        go_enter Tryz.func4, Tryz.ntmps4
        go_wp2_with (first | (go_at_call 5; refine hA.out.mono ?_; rintro e y ⟨rfl, hby⟩; have hcy := Lib.hid (hcell.out y hby ad rfl); replace hby := Lib.hid hby) | (at_builtin; refine wpList_append_lies _ (by rfl) _ _ _ (by rfl) 0 5 i0 _ 1 1 Tryz.underlying27 hi0 hz0 hz1 hz2 rfl (by omega) (.slice none 0 0) 0 [] (by rfl) (World.ownsRow_nil _ _ _ _) ad bs.length _ (bs.map byteV) (by rfl) hml.out hcy.out hone.out (by omega) (by unfold maxLen; omega) (by omega) (by omega) y.heap.size rfl ?_; intro gg cap w5 hown5 hg5 hat5 hlt5; rw [List.nil_append, Nat.zero_add] at hown5; rw [Nat.zero_add]; have hv5 := rdB_own hown5 hall.out (by omega); have hY := Lib.hid (hby.out.trans (⟨hg5.os, hg5.tape, hg5.output, hg5.size, fun r hr => hg5.block r (Nat.lt_of_lt_of_le hr hby.out.size) (by simp [Value.ownBlock])⟩ : Below w.heap.size y w5)); have hD := Lib.hid (c_Decode _ _ hv5 (bb := gg) (fun p n c h => by injection h with h; injection h with h; rw [← h]) hlt5 (hS.out.keep hY.out) (by omega)); clear hown5 hg5 hat5 hlt5 hv5))
        refine hD.out.mono ?_
        rintro e y2 ⟨hb2, ⟨fs, u1, cs, hr, rfl, ho, hL⟩ | ⟨hr, rfl⟩⟩
        · have hR1 := RdFs.of_own ho hL
          obtain ⟨p1, c1, rfl⟩ := own_form2 ho
          have hb3 := Lib.hid (hY.out.trans (hb2.mono hY.out.size))
          clear hb2 ho hL hD
          have e2 := heap_alloc_new y2 (.cells #[.slice p1 fs.length c1] 24)
          have hbZ := hb3.out.alloc hb3.out.size (.cells #[.slice p1 fs.length c1] 24)
          have hQ := Lib.hid (c_QDecode _ _ (hv'.out.below hbZ) hblk.out (Nat.lt_of_lt_of_le hbb.out hbZ.size) (Nat.le_trans h5'.out (by decide)))
          have hb2Z := (Below.refl y2.heap.size y2).alloc (Nat.le_refl _) (.cells #[.slice p1 fs.length c1] 24)
          replace hbZ := Lib.hid hbZ
          replace e2 := Lib.hid e2
          replace hb2Z := Lib.hid hb2Z
          replace hR1 := Lib.hid hR1
          go_wp2_with fail
          refine hQ.out.mono ?_
          rintro e y4 ⟨hb4, ⟨fs2, u2, cs2, hr2, rfl, ho2, hL2⟩ | ⟨hr2, rfl⟩⟩
          · rw [hr] at hr2
            injection hr2 with hr2
            subst hr2
            have hR2 := RdFs.of_own ho2 hL2
            obtain ⟨p2, c2, rfl⟩ := own_form2 ho2
            clear hr ho2 hL2
            have e4 := (hb4.block _ (row_lt e2.out)).trans e2.out
            have k4 : y4.cell? ⟨y2.heap.size, 0, none⟩ = some (.slice p1 fs.length c1) := by rw [cell_of_row _ _ 0 _ _ _ e4]; rfl
            have l4 : y2.heap.size < y4.heap.size := row_lt e4
            have hb24 := hb2Z.out.trans (hb4.mono hb2Z.out.size)
            have hbW := hbZ.out.trans (hb4.mono hbZ.out.size)
            have hSm := Lib.hid (c_QSame (y4.alloc (.cells #[.slice p2 fs.length c2] 24)) fs _ _ (hR1.out.below (hb24.alloc hb24.size _)) (hR2.below ((Below.refl y4.heap.size y4).alloc (Nat.le_refl _) _)))
            have hfin := Lib.hid (hbW.alloc hbW.size (.cells #[.slice p2 fs.length c2] 24))
            clear hb4 e4 hb24 hbW hQ hR2
            go_wp2_with (go_at_call 11; refine hSm.out.mono ?_; rintro e y5 ⟨rfl, hb5⟩)
            go_ret
            exact ⟨rfl, hfin.out.trans (hb5.mono hfin.out.size)⟩
          · rw [hr] at hr2; cases hr2
        · have hR1 := rdFs_nil y2
          have hb3 := Lib.hid (hY.out.trans (hb2.mono hY.out.size))
          clear hb2 hD
          have e2 := heap_alloc_new y2 (.cells #[.slice none 0 0] 24)
          have hbZ := hb3.out.alloc hb3.out.size (.cells #[.slice none 0 0] 24)
          have hQ := Lib.hid (c_QDecode _ _ (hv'.out.below hbZ) hblk.out (Nat.lt_of_lt_of_le hbb.out hbZ.size) (Nat.le_trans h5'.out (by decide)))
          have hb2Z := (Below.refl y2.heap.size y2).alloc (Nat.le_refl _) (.cells #[.slice none 0 0] 24)
          replace hbZ := Lib.hid hbZ
          replace e2 := Lib.hid e2
          replace hb2Z := Lib.hid hb2Z
          replace hR1 := Lib.hid hR1
          go_wp2_with fail
          refine hQ.out.mono ?_
          rintro e y4 ⟨hb4, ⟨fs2, u2, cs2, hr2, rfl, ho2, hL2⟩ | ⟨hr2, rfl⟩⟩
          · rw [hr] at hr2; cases hr2
          · have hR2 := rdFs_nil y4
            clear hr hr2
            have e4 := (hb4.block _ (row_lt e2.out)).trans e2.out
            have k4 : y4.cell? ⟨y2.heap.size, 0, none⟩ = some (.slice none 0 0) := by rw [cell_of_row _ _ 0 _ _ _ e4]; rfl
            have l4 : y2.heap.size < y4.heap.size := row_lt e4
            have hb24 := hb2Z.out.trans (hb4.mono hb2Z.out.size)
            have hbW := hbZ.out.trans (hb4.mono hbZ.out.size)
            have hSm := Lib.hid (c_QSame (y4.alloc (.cells #[.slice none 0 0] 24)) [] _ _ (hR1.out.below (hb24.alloc hb24.size _)) (hR2.below ((Below.refl y4.heap.size y4).alloc (Nat.le_refl _) _)))
            have hfin := Lib.hid (hbW.alloc hbW.size (.cells #[.slice none 0 0] 24))
            clear hb4 e4 hb24 hbW hQ hR2
            go_wp2_with (go_at_call 11; refine hSm.out.mono ?_; rintro e y5 ⟨rfl, hb5⟩)
            go_ret
            exact ⟨rfl, hfin.out.trans (hb5.mono hfin.out.size)⟩
  · have hd5 : decide ((5000 : Int) < (bs.length : Int)) = true := by simp; omega
    clear hv hblk hbb hS h5
    go_enter Tryz.func4, Tryz.ntmps4
    go_wp2_with (go_at_call 5; refine hA.out.mono ?_; rintro e y ⟨rfl, hby⟩)
    go_ret
    exact ⟨rfl, hby⟩
end Go.Proofs.YtjjogaenejdliaaGreatDoor

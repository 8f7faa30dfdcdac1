/-
  A table's state; the contracts of New, is, Cut (of a whole text), Intern.
-/
import Derived.Test.YtbodfdmmfaampaaGreatDoorA2
import Derived.Maps.OwnSet
import Derived.Maps.OwnOps
import Derived.Maps.Views
namespace Go.Proofs.YtbodfdmmfaampaaGreatDoor
open Go.RowKit Go.Shelf Go.Lib Go.Sort Go.Proofs Go.Maps
set_option maxHeartbeats 400000
set_option maxRecDepth 100000

theorem lawStr : Keyed Tryz.prog 22 := string_keyed Tryz.underlying22
theorem zeroInt (w : World) : (zeroValue 3).run Tryz.prog w = .ok (.int .i64 0) w := by kernel_rfl
theorem infoStr : (Tryz.prog.info? 22).map (fun i => (i.zero, i.size, i.bytes)) = some (some (.string ⟨#[]⟩), 1, 16) := by kernel_rfl
def kl (s : ByteArray) : Lit := .string s.data.toList
theorem kl_ne {s t : ByteArray} (h : kl s ≠ kl t) : s ≠ t := fun e => h (by rw [e])
theorem kl_inj {s t : ByteArray} (h : kl s = kl t) : s = t := by
  unfold kl at h
  injection h with h
  cases s with | mk a => cases t with | mk b =>
  congr 1
  exact Array.toList_inj.1 h
/-- what the map tells of the names -/
def TellsD (D : DataW Unit) (names : List ByteArray) : Prop :=
  (∀ s, Maps.has D (kl s) = true ↔ s ∈ names) ∧ ∀ (i : Nat) s, names[i]? = some s → D.atKey (kl s) (.lit (.int .i64 0)) = .lit (.int .i64 (i : Int))
theorem tells_nil : TellsD (.map []) [] := ⟨fun s => by simp [Maps.has], fun i s h => by simp at h⟩
theorem tells_put {D : DataW Unit} {names : List ByteArray} (hm : IsMap D) (h : TellsD D names) (s : ByteArray) (hn : s ∉ names) : TellsD (D.put (kl s) (.lit (.int .i64 (names.length : Int)))) (names ++ [s]) := by
  have hk : WideAt.IsKeyLit (kl s) := by unfold kl; trivial
  constructor
  · intro t
    by_cases e : kl t = kl s
    · have := kl_inj e; subst this
      rw [has_put_same hm hk]; simp
    · rw [has_put_other e, h.1]
      have := kl_ne e
      simp [this]
  · intro i t ht
    by_cases e : kl t = kl s
    · have := kl_inj e; subst this
      rw [atKey_put_same hm hk]
      rcases Nat.lt_or_ge i names.length with hlt | hge
      · rw [List.getElem?_append_left hlt] at ht
        exact absurd (List.mem_of_getElem? ht) hn
      · have := (List.getElem?_eq_some_iff.1 ht).1
        simp at this
        have : i = names.length := by omega
        rw [this]
    · rw [atKey_put_other e]
      rcases Nat.lt_or_ge i names.length with hlt | hge
      · rw [List.getElem?_append_left hlt] at ht
        exact h.2 i t ht
      · have h2 := (List.getElem?_eq_some_iff.1 ht).1
        simp at h2
        have : i = names.length := by omega
        subst this
        simp at ht
        exact absurd (by rw [ht]) e
def strs (l : List ByteArray) : List Value := l.map Value.string
/-- a table's state: its block, its map, its two rows; all from block B on -/
def TabS (w : World) (B tb : Nat) (names syms : List ByteArray) : Prop :=
  ∃ (bm : Nat) (vn vs : Value) (D : DataW Unit), B ≤ tb ∧ B ≤ bm ∧ w.heap[tb]? = some (.cells #[.int .i64 1, .map (some bm), vn, vs] 60 (0, 0)) ∧ w.ownsMap Tryz.prog 22 (plainElem Tryz.prog 3) bm names.length D ∧ TellsD D names ∧
    w.ownsRow B 22 1 vn names.length (strs names) ∧ w.ownsRow B 22 1 vs syms.length (strs syms) ∧ (∀ k, vn.ownBlock = some k → vs.ownBlock ≠ some k)
theorem c_New (w : World) : Calls Tryz.prog 13 #[] w fun e w' => e = .returned (.pointer (some ⟨w.heap.size + 1, 0, none⟩)) ∧ TabS w' w.heap.size (w.heap.size + 1) [] [] ∧ Below w.heap.size w w' := by
  have hmm := @run_makeMap Tryz.prog
  go_enter Tryz.func13, Tryz.ntmps13
  go_wp2
  go_ret
  refine ⟨rfl, ⟨w.heap.size, .slice none 0 0, .slice none 0 0, .map [], by omega, Nat.le_refl _, ?_, ?_, tells_nil, ⟨rfl, .inl ⟨rfl, rfl⟩⟩, ⟨rfl, .inl ⟨rfl, rfl⟩⟩, fun k h => by cases h⟩, ?_⟩
  · exact heap_alloc2_new w _ _
  · exact (World.ownsMap_made w Tryz.prog 22 _).alloc _
  · exact ((Below.refl _ w).alloc (Nat.le_refl _) _).alloc (by simp) _
theorem c_is (w : World) (tb : Nat) (n : Int) (cs : Array Value) (h : w.heap[tb]? = some (.cells cs 60 (0, 0))) (h0 : cs[0]? = some (.int .i64 n)) :
    Calls Tryz.prog 30 #[.pointer (some ⟨tb, 0, none⟩)] w fun e w' => e = .returned (.bool (n == 1)) ∧ w' = w := by
  have c0 : w.cell? ⟨tb, 0, none⟩ = some (.int .i64 n) := by rw [cell_of_row w tb 0 _ _ _ h]; exact h0
  clear h h0
  go_enter Tryz.func30, Tryz.ntmps30
  go_wp2
  go_ret
  exact ⟨rfl, rfl⟩
theorem c_is0 (w : World) : Calls Tryz.prog 30 #[.pointer none] w fun e w' => e = .returned (.bool false) ∧ w' = w := by
  go_enter Tryz.func30, Tryz.ntmps30
  go_wp2
  go_ret
  exact ⟨rfl, rfl⟩
theorem c_UCut (s : ByteArray) (hs : s.size ≤ 1099511627776) (w : World) :
    Calls Tryz.prog 31 #[.string s, .int .i64 0, .int .i64 ((s.size / 2 : Nat) : Int)] w fun e w' => e = .returned (.string (evenB s)) ∧ w' = w := by
  have hL := Lib.hid (c_ULen s hs w)
  unfold evenB
  generalize hm : s.size / 2 = m at *
  have hm2 : m * 2 ≤ s.size := by omega
  have hm3 : s.size < m * 2 + 2 := by omega
  clear hm
  rcases Nat.eq_zero_or_pos m with h0 | h0
  · subst h0
    have e : s.extract 0 (0 * 2) = ⟨#[]⟩ := by simp; rfl
    rw [e]
    clear e
    go_enter Tryz.func31, Tryz.ntmps31
    go_wp2_with (go_at_call 15; refine hL.out.mono ?_; rintro e w1 ⟨rfl, rfl⟩)
    go_ret
    exact ⟨rfl, rfl⟩
  · have e1 : (0 : Int) ≤ (m : Int) := by omega
    have e2 : ¬ (m : Int) ≤ 0 := by omega
    have e3 : (2 : Int) * (m : Int) ≤ (s.size : Int) := by omega
    have e4 : (2 * (m : Int)).toNat = m * 2 := by omega
    go_enter Tryz.func31, Tryz.ntmps31
    go_wp2_with (go_at_call 15; refine hL.out.mono ?_; rintro e w1 ⟨rfl, rfl⟩)
    go_ret
    exact ⟨rfl, rfl⟩
end Go.Proofs.YtbodfdmmfaampaaGreatDoor

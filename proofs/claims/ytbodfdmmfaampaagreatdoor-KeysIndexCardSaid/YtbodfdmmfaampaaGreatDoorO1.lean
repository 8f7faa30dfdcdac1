/-
  Contracts of keys.sort, cmp.Or at ints, and the function that Order hands to slices.SortStableFunc.
-/
import Derived.Test.YtbodfdmmfaampaaGreatDoorI1
namespace Go.Proofs.YtbodfdmmfaampaaGreatDoor
open Go.RowKit
set_option maxHeartbeats 400000
set_option maxRecDepth 100000

def kindK (s : ByteArray) (n : Int) : Int := if 0 < n then 2 else if (idxOf (U s)).isSome then 0 else 1
def numK (s : ByteArray) (n : Int) : Nat := if 0 < n then 0 else (idxOf (U s)).getD 0
/-- where a key stands: indices by number, then texts, then symbols -/
def rankK (s : ByteArray) (n : Int) : Nat := if 0 < n then 8589934592 else match idxOf (U s) with
  | some i => i
  | none => 4294967296
theorem idxOf_le (l : List Nat) (n : Nat) (h : idxOf l = some n) : n ≤ 4294967294 := by
  unfold idxOf at h
  split at h
  · cases h
  · split at h
    · cases h
    · split at h
      · cases h
      · injection h with h; omega
theorem c_ksort (s : ByteArray) (n : Int) (hs : s.size ≤ 1099511627776) (w : World) :
    Calls Tryz.prog 26 #[keyV s n] w fun e w' => e = .returned (.tuple #[.int .i64 (kindK s n), .int .u32 (numK s n : Int)]) ∧ Below w.heap.size w w' := by
  have H := fun w => Lib.hid (c_Index s hs w)
  unfold keyV kindK numK
  have hb0 : ∀ o, Below w.heap.size w (w.alloc o) := fun o => (Below.refl _ w).alloc (Nat.le_refl _) o
  generalize idxOf (U s) = R at *
  rcases Int.lt_or_le 0 n with hn | hn
  · rw [if_pos hn, if_pos hn]
    go_enter Tryz.func26, Tryz.ntmps26
    go_wp2
    go_ret2
    exact ⟨rfl, hb0 _⟩
  · have hn' : ¬ 0 < n := by omega
    rw [if_neg hn', if_neg hn']
    cases R with
    | none =>
      go_enter Tryz.func26, Tryz.ntmps26
      go_wp2_with (go_at_call 5; refine (H _).out.mono ?_; rintro e w' ⟨rfl, hb⟩; unfold idxV)
      go_ret2
      exact ⟨rfl, below_after (hb0 _) hb⟩
    | some i =>
      go_enter Tryz.func26, Tryz.ntmps26
      go_wp2_with (go_at_call 5; refine (H _).out.mono ?_; rintro e w' ⟨rfl, hb⟩; unfold idxV)
      go_ret2
      exact ⟨rfl, below_after (hb0 _) hb⟩
def orZ (x y : Int) : Int := if x = 0 then y else x
theorem c_Or (x y : Int) (g : Nat) (w : World) (h0 : w.cell? ⟨g, 0, none⟩ = some (.int .i64 x)) (h1 : w.cell? ⟨g, 1, none⟩ = some (.int .i64 y)) :
    Calls Tryz.prog 27 #[.slice (some ⟨g, 0, none⟩) 2 2] w fun e w' => e = .returned (.int .i64 (orZ x y)) ∧ w = w' := by
  unfold orZ
  by_cases hx : x = 0
  · subst hx
    by_cases hy : y = 0
    · subst hy
      go_enter Tryz.func27, Tryz.ntmps27
      go_wp2
      go_loopw [8, 5] (fun i _ wr => ∃ k : Nat, k ≤ 2 ∧ i = .int .i64 (k : Int) ∧ wr = w) (fun i _ _ => 2 - (intOf i).toNat)
      case atStart => exact ⟨0, by omega, rfl, rfl⟩
      case round =>
        obtain ⟨k, hk, rfl, rfl⟩ := hrel
        have : k = 0 ∨ k = 1 ∨ k = 2 := by omega
        rcases this with rfl | rfl | rfl
        · go_wp2
          go_roundw
          case rel => exact ⟨1, by omega, rfl, by first | rfl | trivial⟩
          case measure => simp [intOf]
        · go_wp2
          go_roundw
          case rel => exact ⟨2, by omega, rfl, by first | rfl | trivial⟩
          case measure => simp [intOf]
        · go_wp2
          go_ret
          exact ⟨rfl, rfl⟩
    · have hy' : (y == 0) = false := beq_eq_false_iff_ne.2 hy
      go_enter Tryz.func27, Tryz.ntmps27
      go_wp2
      go_loopw [8, 5] (fun i _ wr => ∃ k : Nat, k ≤ 1 ∧ i = .int .i64 (k : Int) ∧ wr = w) (fun i _ _ => 2 - (intOf i).toNat)
      case atStart => exact ⟨0, by omega, rfl, rfl⟩
      case round =>
        obtain ⟨k, hk, rfl, rfl⟩ := hrel
        have : k = 0 ∨ k = 1 := by omega
        rcases this with rfl | rfl
        · go_wp2
          go_roundw
          case rel => exact ⟨1, by omega, rfl, by first | rfl | trivial⟩
          case measure => simp [intOf]
        · go_wp2
          go_ret
          exact ⟨rfl, rfl⟩
  · have hx' : (x == 0) = false := beq_eq_false_iff_ne.2 hx
    rw [if_neg hx]
    go_enter Tryz.func27, Tryz.ntmps27
    go_wp2
    go_loopw [8, 5] (fun i _ wr => i = .int .i64 0 ∧ wr = w) (fun i _ _ => 2 - (intOf i).toNat)
    case atStart => exact ⟨rfl, rfl⟩
    case round =>
      obtain ⟨rfl, rfl⟩ := hrel
      go_wp2
      go_ret
      exact ⟨rfl, rfl⟩
theorem cmp_rank (s t : ByteArray) (m n : Int) : (if cmpZ (kindK s m) (kindK t n) = 0 then cmpZ (numK s m) (numK t n) else cmpZ (kindK s m) (kindK t n)) = cmpZ (rankK s m) (rankK t n) := by
  have l1 := idxOf_le (U s)
  have l2 := idxOf_le (U t)
  unfold kindK numK rankK
  generalize idxOf (U s) = A at *
  generalize idxOf (U t) = B at *
  by_cases hm : 0 < m <;> by_cases hn : 0 < n
  · simp [hm, hn, cmpZ]
  · cases B with
    | none => simp [hm, hn, cmpZ]
    | some j => have := l2 j rfl; simp [hm, hn]; unfold cmpZ; simp; omega
  · cases A with
    | none => simp [hm, hn, cmpZ]
    | some i => have := l1 i rfl; simp [hm, hn]; unfold cmpZ; simp; omega
  · cases A with
    | none => cases B with
      | none => simp [hm, hn, cmpZ]
      | some j => have := l2 j rfl; simp [hm, hn]; unfold cmpZ; simp; omega
    | some i => cases B with
      | none => have := l1 i rfl; simp [hm, hn]; unfold cmpZ; simp; omega
      | some j => simp [hm, hn, cmpZ]

theorem cell_alloc1 (w : World) (c : Array Value) (ty : TypeId) (j : Nat) : (w.alloc (.cells c ty)).cell? ⟨w.heap.size, j, none⟩ = c[j]? :=
  cell_of_row _ _ _ _ _ _ (heap_alloc_new w _)
theorem cell_alloc2 (w : World) (o : Obj) (c : Array Value) (ty : TypeId) (j : Nat) : ((w.alloc o).alloc (.cells c ty)).cell? ⟨w.heap.size + 1, j, none⟩ = c[j]? := by
  have := cell_alloc1 (w.alloc o) c ty j
  rw [show (w.alloc o).heap.size = w.heap.size + 1 by simp] at this
  exact this
theorem c_OrderF (s t : ByteArray) (m n : Int) (hs : s.size ≤ 1099511627776) (ht : t.size ≤ 1099511627776) (w : World) :
    Calls Tryz.prog 25 #[keyV s m, keyV t n] w fun e w' => e = .returned (.int .i64 (cmpZ (rankK s m) (rankK t n))) ∧ Below w.heap.size w w' := by
  have H1 := fun w => Lib.hid (c_ksort s m hs w)
  have H2 := fun w => Lib.hid (c_ksort t n ht w)
  have HR := Lib.hid (show orZ _ _ = _ from cmp_rank s t m n)
  unfold keyV at *
  generalize kindK s m = k1 at *
  generalize kindK t n = k2 at *
  generalize numK s m = n1 at *
  generalize numK t n = n2 at *
  generalize cmpZ (rankK s m) (rankK t n) = R at *
  have hbb := Lib.hid (below_two w)
  go_enter Tryz.func25, Tryz.ntmps25
  go_wp2_with fail
  refine (H1 _).out.mono ?_
  rintro e wa ⟨rfl, ha⟩
  have d0 : wa.cell? ⟨w.heap.size + 1, 0, none⟩ = some (.string t) := by
    rw [ha.cell (p := ⟨w.heap.size + 1, 0, none⟩) (by simp)]; exact cell_alloc2 _ _ _ _ _
  have d1 : wa.cell? ⟨w.heap.size + 1, 1, none⟩ = some (.int .i64 n) := by
    rw [ha.cell (p := ⟨w.heap.size + 1, 1, none⟩) (by simp)]; exact cell_alloc2 _ _ _ _ _
  have ha' : Below w.heap.size w wa := below_after (hbb.out _ _) ha
  clear ha hbb
  go_wp2_with fail
  refine (H2 _).out.mono ?_
  rintro e wb ⟨rfl, hb⟩
  have hb' : Below w.heap.size w wb := below_after ha' hb
  clear hb d0 d1
  go_wp2_with (first | (go_at_call 28; refine (c_cmpInt _ _ _).mono ?_; rintro e w' ⟨rfl, rfl⟩) | (go_at_call 29; refine (c_cmpU32 _ _ _).mono ?_; rintro e w' ⟨rfl, rfl⟩) | (go_at_call 27; refine (c_Or _ _ _ _ (cell_alloc1 _ _ _ _) (cell_alloc1 _ _ _ _)).mono ?_; rintro e w' ⟨rfl, rfl⟩))
  go_ret
  exact ⟨ret_int HR.out, hb'.alloc hb'.size _⟩
end Go.Proofs.YtbodfdmmfaampaaGreatDoor

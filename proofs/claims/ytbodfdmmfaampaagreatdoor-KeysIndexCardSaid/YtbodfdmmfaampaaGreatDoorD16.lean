/-
  The contract of slices.Reverse at a row of units.
-/
import Derived.Test.YtbodfdmmfaampaaGreatDoorD15
namespace Go.Proofs.YtbodfdmmfaampaaGreatDoor
open Go.RowKit
set_option maxHeartbeats 1000000
set_option maxRecDepth 100000

/-- the units of row g: those outside i .. n-1-i are turned round -/
def RV (w0 : World) (g B : Nat) (A : List Nat) (i : Nat) (w : World) : Prop :=
  Below B w0 w ∧ g < w.heap.size ∧ ∀ q, q < A.length → w.frozen? ⟨g, q, none⟩ = false ∧ w.cell? ⟨g, q, none⟩ = some (.int .u16 ((if q < i ∨ A.length - 1 - i < q then A.getD (A.length - 1 - q) 0 else A.getD q 0 : Nat) : Int))
theorem RV.drew {w0 w : World} {g B i : Nat} {A : List Nat} (h : RV w0 g B A i w) : RV w0 g B A i w.drew := ⟨h.1.drew, h.2.1, h.2.2⟩
theorem c_Rev (w0 : World) (g B c : Nat) (A : List Nat) (hA : A.length ≤ 1000) (hA1 : 1 ≤ A.length) (hgB : B ≤ g) (w : World) (h : RV w0 g B A 0 w) :
    Calls Tryz.prog 19 #[.slice (some ⟨g, 0, none⟩) A.length c] w fun e w' => e = .returned (.tuple #[]) ∧ RV w0 g B A.reverse 0 w' := by
  go_enter Tryz.func19, Tryz.ntmps19
  go_wp2
  go_loopw [2, 3] (fun vi vj wr => ∃ i : Nat, 2 * i ≤ A.length ∧ vi = .int .i64 (i : Int) ∧ vj = .int .i64 ((A.length : Int) - 1 - (i : Int)) ∧ RV w0 g B A i wr) (fun vi _ _ => A.length - (intOf vi).toNat)
  case atStart => exact ⟨0, by omega, rfl, by go_num, h⟩
  case round =>
    obtain ⟨i, hi, rfl, rfl, hrv⟩ := hrel
    obtain ⟨hbel, hgs, hcell⟩ := hrv
    by_cases hlt : i + 1 < A.length - i
    · obtain ⟨f1, c1⟩ := hcell i (by omega)
      obtain ⟨f2, c2⟩ := hcell (A.length - 1 - i) (by omega)
      rw [if_neg (by omega)] at c1 c2
      have l1 : (i : Int) < (A.length : Int) - 1 - (i : Int) := by omega
      have l2 : (0 : Int) ≤ (A.length : Int) - 1 - (i : Int) ∧ (A.length : Int) - 1 - (i : Int) < (A.length : Int) := by omega
      have l3 : ((A.length : Int) - 1 - (i : Int)).toNat = A.length - 1 - i := by omega
      have l4 : (0 : Int) ≤ (i : Int) ∧ (i : Int) < (A.length : Int) := by omega
      have hne : ¬ A.length - 1 - i = i := by omega
      have hcell := Lib.hid hcell
      generalize hx1 : A.getD i 0 = x1 at *
      generalize hx2 : A.getD (A.length - 1 - i) 0 = x2 at *
      have hx1 := Lib.hid hx1
      have hx2 := Lib.hid hx2
      have hbel := Lib.hid hbel
      clear h
      go_wp2_with fail
      go_region
      go_wp2_with fail
      go_roundw
      case rel =>
        refine ⟨i + 1, by omega, by go_num, by go_num, ?_⟩
        refine RV.drew ⟨(hbel.out.setCell hgB _).setCell hgB _, by simpa using hgs, fun q hq => ?_⟩
        obtain ⟨fq, cq⟩ := hcell.out q hq
        refine ⟨by rw [World.frozen?_setCell, World.frozen?_setCell]; exact fq, ?_⟩
        by_cases e2 : q = A.length - 1 - i
        · subst e2
          rw [set_same ((set_other (by omega)).trans c2), if_pos (by omega)]
          have : A.length - 1 - (A.length - 1 - i) = i := by omega
          rw [this, hx1.out]
        · rw [set_other (fun h => e2 h.symm)]
          by_cases e1 : q = i
          · subst e1
            rw [set_same c1, if_pos (by omega), hx2.out]
          · rw [set_other (fun h => e1 h.symm)]
            refine cq.trans ?_
            by_cases hh : q < i ∨ A.length - 1 - i < q
            · rw [if_pos hh, if_pos (by omega)]
            · rw [if_neg hh, if_neg (by omega)]
      case measure => simp [intOf]; omega
    · have l1 : ¬ (i : Int) < (A.length : Int) - 1 - (i : Int) := by omega
      have hfin : RV w0 g B A.reverse 0 wr := by
        refine ⟨hbel, hgs, fun q hq => ?_⟩
        rw [List.length_reverse] at hq ⊢
        obtain ⟨fq, cq⟩ := hcell q hq
        refine ⟨fq, cq.trans ?_⟩
        have e0 : ¬ (q < 0 ∨ A.length - 1 - 0 < q) := by omega
        rw [if_neg e0]
        have hr : A.reverse.getD q 0 = A.getD (A.length - 1 - q) 0 := by
          rw [List.getD_eq_getElem?_getD, List.getD_eq_getElem?_getD, List.getElem?_reverse hq]
        rw [hr]
        by_cases hh : q < i ∨ A.length - 1 - i < q
        · rw [if_pos hh]
        · rw [if_neg hh]
          have : A.length - 1 - q = q := by omega
          rw [this]
      replace hfin := Lib.hid hfin
      clear hcell h
      go_wp2
      go_end0
      exact ⟨rfl, hfin.out⟩
end Go.Proofs.YtbodfdmmfaampaaGreatDoor

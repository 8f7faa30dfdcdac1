/-
  Lists of keys as rows in memory; the contract of the law's few.
-/
import Derived.Test.YtbodfdmmfaampaaGreatDoorS8
namespace Go.Proofs.YtbodfdmmfaampaaGreatDoor
open Go.RowKit Go.Shelf Go.Lib Go.Sort Go.Proofs
set_option maxHeartbeats 400000
set_option maxRecDepth 100000

def flatK (l : List KK) : List Value := l.flatMap encK
theorem flatK_len (l : List KK) : (flatK l).length = l.length * 2 := by
  induction l with
  | nil => rfl
  | cons x l ih => simp only [flatK, List.flatMap_cons, List.length_append, encK_len, List.length_cons] at ih ⊢; rw [ih]; omega
theorem flatK_get (l : List KK) (i : Nat) (x : KK) (h : l[i]? = some x) : (flatK l)[i * 2]? = some (.string x.1) ∧ (flatK l)[i * 2 + 1]? = some (.int .i64 x.2) := by
  induction l generalizing i with
  | nil => simp at h
  | cons y l ih =>
    have e : flatK (y :: l) = .string y.1 :: .int .i64 y.2 :: flatK l := rfl
    rw [e]
    cases i with
    | zero => simp at h; subst h; exact ⟨rfl, rfl⟩
    | succ i =>
      have := ih i (by simpa using h)
      have e1 : (i + 1) * 2 = i * 2 + 1 + 1 := by omega
      rw [e1]
      simpa using this
theorem flatK_one (l : List KK) : ∀ u ∈ flatK l, u.oneCell' = true := by
  intro u hu
  obtain ⟨x, _, hx⟩ := List.mem_flatMap.1 hu
  exact encK_one x u hx
theorem flatK_app (a b : List KK) : flatK (a ++ b) = flatK a ++ flatK b := List.flatMap_append ..
/-- v reads as the list l -/
def RdK (w : World) (v : Value) (l : List KK) : Prop :=
  (v = .slice none 0 0 ∧ l = []) ∨ ∃ p c, v = .slice (some p) l.length c ∧ l.length ≤ c ∧ ∀ k x, l[k]? = some x → p.spot = none ∧ w.cell? ⟨p.block, p.off + k * 2, none⟩ = some (.string x.1) ∧ w.cell? ⟨p.block, p.off + k * 2 + 1, none⟩ = some (.int .i64 x.2)
theorem cell_lt {w : World} {a : Addr} {u : Value} (h : w.cell? a = some u) : a.block < w.heap.size := by
  rcases Nat.lt_or_ge a.block w.heap.size with h1 | h1
  · exact h1
  · unfold World.cell? at h
    rw [Array.getElem?_eq_none h1] at h
    simp at h
theorem RdK.keep {w w' : World} {v : Value} {l : List KK} (h : RdK w v l) (hb : Below w.heap.size w w') : RdK w' v l := by
  rcases h with h | ⟨a, c, h1, h2, h3⟩
  · exact .inl h
  · refine .inr ⟨a, c, h1, h2, fun k x hx => ?_⟩
    obtain ⟨h4, h5, h6⟩ := h3 k x hx
    refine ⟨h4, ?_, ?_⟩
    · rw [hb.cell (p := ⟨a.block, a.off + k * 2, none⟩) (cell_lt h5)]; exact h5
    · rw [hb.cell (p := ⟨a.block, a.off + k * 2 + 1, none⟩) (cell_lt h6)]; exact h6
theorem RdK.form {w : World} {v : Value} {l : List KK} (h : RdK w v l) : ∃ p c, v = .slice p l.length c ∧ (p = none → c = 0) ∧ l.length ≤ c ∧
    ∀ k x, l[k]? = some x → ∃ b o, p = some ⟨b, o, none⟩ ∧ b < w.heap.size ∧ ∀ y, Below w.heap.size w y → y.cell? ⟨b, o + k * 2, none⟩ = some (.string x.1) ∧ y.cell? ⟨b, o + k * 2 + 1, none⟩ = some (.int .i64 x.2) := by
  rcases h with ⟨rfl, rfl⟩ | ⟨a, c, h1, h2, h3⟩
  · exact ⟨none, 0, rfl, (fun _ => rfl), (by simp), (fun k x hx => by simp at hx)⟩
  · refine ⟨some a, c, h1, (fun h => by cases h), h2, fun k x hx => ?_⟩
    obtain ⟨h4, h5, h6⟩ := h3 k x hx
    have hB := cell_lt h5
    refine ⟨a.block, a.off, ?_, hB, fun y hy => ⟨?_, ?_⟩⟩
    · rw [← h4]
    · rw [hy.cell (p := ⟨a.block, a.off + k * 2, none⟩) (cell_lt h5)]; exact h5
    · rw [hy.cell (p := ⟨a.block, a.off + k * 2 + 1, none⟩) (cell_lt h6)]; exact h6
/-- the sum of a list's length and its texts' lengths -/
def fewN (l : List KK) : Nat := l.length + (l.map fun x => x.1.size).sum
def fewA (l : List KK) (k : Nat) : Nat := l.length + ((l.take k).map fun x => x.1.size).sum
theorem fewA_step (l : List KK) (k : Nat) (x : KK) (h : l[k]? = some x) : fewA l (k + 1) = fewA l k + x.1.size := by
  unfold fewA
  rw [List.take_add_one, h]
  simp; omega
theorem sum_take_le (l : List KK) (k : Nat) : ((l.take k).map fun x => x.1.size).sum ≤ (l.map fun x => x.1.size).sum := by
  induction l generalizing k with
  | nil => simp
  | cons x l ih => cases k with
    | zero => simp
    | succ k => simp only [List.take_succ_cons, List.map_cons, List.sum_cons]; exact Nat.add_le_add_left (ih k) _
theorem fewA_le (l : List KK) (k : Nat) : fewA l k ≤ fewN l := by
  have := sum_take_le l k
  unfold fewA fewN; omega
theorem fewA_end (l : List KK) : fewA l l.length = fewN l := by unfold fewA fewN; simp
end Go.Proofs.YtbodfdmmfaampaaGreatDoor

/-
  Plain law: a row that is taken out of another one, element by element, is found there each time.
-/
import Derived.Test.YtkbjakadngnokaaK2
namespace Go.Proofs.Ytkbjakadngnokaa
open Go.RowKit Go.Shelf Go.Lib Go.Sort Go.Proofs
set_option maxHeartbeats 400000

/-- a key's class: keys alike have the same one -/
def kc (x : KK) : Int × List Nat := if 0 < x.2 then (x.2, []) else (0, U x.1)
theorem same_kc (a b : KK) : sameK a.1 b.1 a.2 b.2 = decide (kc a = kc b) := by
  unfold sameK kc
  by_cases h1 : 0 < a.2 <;> by_cases h2 : 0 < b.2
  · simp [h1, h2]
  · have e1 : a.2 ≠ b.2 := by omega
    have e2 : a.2 ≠ 0 := by omega
    simp [h1, h2, e1, e2]
  · have e1 : a.2 ≠ b.2 := by omega
    have e2 : (0 : Int) ≠ b.2 := by omega
    simp [h1, h2, e1, e2]
  · simp [h1, h2]
    by_cases h : U a.1 = U b.1
    · simp [h, cmpU_self]
    · have : cmpU (U a.1) (U b.1) ≠ 0 := fun e => h (cmpU_eq e)
      simp [h, this]
theorem eqv_perm {a b : List KK} (h : Eqv a b) : a.Perm b := perm_of_cls rk a b h
/-- of a list, those elements whose mark is set -/
def marked : List KK → List Bool → List KK
  | x :: l, true :: u => x :: marked l u
  | _ :: l, false :: u => marked l u
  | _, _ => []
def unmarked : List KK → List Bool → List KK
  | _ :: l, true :: u => unmarked l u
  | x :: l, false :: u => x :: unmarked l u
  | _, _ => []
theorem marked_perm (l : List KK) (u : List Bool) (h : u.length = l.length) : (marked l u ++ unmarked l u).Perm l := by
  induction l generalizing u with
  | nil => cases u <;> simp [marked, unmarked]
  | cons x l ih =>
    cases u with
    | nil => simp at h
    | cons b u =>
      have := ih u (by simpa using h)
      cases b
      · simp only [marked, unmarked]
        exact List.perm_middle.trans (this.cons x)
      · simp only [marked, unmarked, List.cons_append]
        exact this.cons x
theorem marked_set (l : List KK) (u : List Bool) (j : Nat) (x : KK) (hx : l[j]? = some x) (hu : u[j]? = some false) : (marked l (u.set j true)).Perm (x :: marked l u) := by
  induction l generalizing u j with
  | nil => simp at hx
  | cons y l ih =>
    cases u with
    | nil => simp at hu
    | cons b u =>
      cases j with
      | zero =>
        simp at hx hu
        subst hx; subst hu
        simp [marked]
      | succ j =>
        simp at hx hu
        have := ih u j hx hu
        cases b
        · simpa [marked] using this
        · simp only [marked, List.set_cons_succ]
          exact (this.cons y).trans (List.Perm.swap ..)
theorem marked_none (l : List KK) (n : Nat) : marked l (List.replicate n false) = [] := by
  induction l generalizing n with
  | nil => cases n <;> simp [marked]
  | cons x l ih => cases n with
    | zero => simp [marked]
    | succ n => simpa [marked, List.replicate_succ] using ih n
theorem unmarked_at (l : List KK) (u : List Bool) (x : KK) (hu : u.length = l.length) (hx : x ∈ unmarked l u) : ∃ j : Nat, l[j]? = some x ∧ u[j]? = some false := by
  induction l generalizing u with
  | nil => cases u <;> simp [unmarked] at hx
  | cons y l ih =>
    cases u with
    | nil => simp at hu
    | cons b u =>
      cases b
      · simp only [unmarked] at hx
        rcases List.mem_cons.1 hx with rfl | hx
        · exact ⟨0, rfl, rfl⟩
        · obtain ⟨j, h1, h2⟩ := ih u (by simpa using hu) hx
          exact ⟨j + 1, by simpa using h1, by simpa using h2⟩
      · simp only [unmarked] at hx
        obtain ⟨j, h1, h2⟩ := ih u (by simpa using hu) hx
        exact ⟨j + 1, by simpa using h1, by simpa using h2⟩
/-- the outer loop's state -/
def SI (L Z : List KK) (i : Nat) (u : List Bool) : Prop := u.length = L.length ∧ ((marked L u).map kc).Perm ((Z.take i).map kc)
/-- the inner loop's state -/
def SN (L Z : List KK) (i q : Nat) (f : Bool) (u : List Bool) : Prop :=
  (f = false ∧ SI L Z i u ∧ ∀ j x, j < q → L[j]? = some x → u[j]? = some false → ∀ k, Z[i]? = some k → kc x ≠ kc k) ∨ (f = true ∧ SI L Z (i + 1) u)
theorem stable_facts (L Z : List KK) (hp : Z.Perm L) :
    SI L Z 0 (List.replicate L.length false) ∧
    (∀ i u, SI L Z i u → u.length = L.length ∧ SN L Z i 0 false u) ∧
    (∀ i q f u, SN L Z i q f u → u.length = L.length) ∧
    (∀ i q u x k, SN L Z i q false u → L[q]? = some x → Z[i]? = some k → (u[q]? = some false → kc x = kc k → SN L Z i (q + 1) true (u.set q true)) ∧ ((u[q]? = some false → kc x ≠ kc k) → SN L Z i (q + 1) false u)) ∧
    (∀ i q u, SN L Z i q true u → SN L Z i (q + 1) true u) ∧
    (∀ i f u, SN L Z i L.length f u → i < L.length → f = true ∧ SI L Z (i + 1) u) := by
  refine ⟨⟨by simp, by simp [marked_none]⟩, ?_, ?_, ?_, ?_, ?_⟩
  · intro i u h
    exact ⟨h.1, .inl ⟨rfl, h, fun j x hj => by omega⟩⟩
  · rintro i q f u (⟨_, h, _⟩ | ⟨_, h⟩)
    · exact h.1
    · exact h.1
  · rintro i q u x k (⟨_, h, hn⟩ | ⟨h, _⟩) hx hk
    · constructor
      · intro hu he
        refine .inr ⟨rfl, by simpa using h.1, ?_⟩
        have h1 := (marked_set L u q x hx hu).map kc
        refine h1.trans ?_
        rw [List.take_add_one, hk]
        simp only [List.map_cons, List.map_append, Option.toList, List.map_nil]
        rw [he]
        exact (List.Perm.cons _ h.2).trans (List.perm_append_singleton _ _).symm
      · intro hne
        refine .inl ⟨rfl, h, ?_⟩
        intro j y hj hy hu k' hk'
        rw [hk] at hk'
        injection hk' with hk'
        subst hk'
        rcases Nat.lt_or_ge j q with hlt | hge
        · exact hn j y hlt hy hu k hk
        · obtain rfl : j = q := by omega
          rw [hx] at hy
          injection hy with hy
          subst hy
          exact hne hu
    · cases h
  · rintro i q u (⟨h, _⟩ | h)
    · cases h
    · exact .inr h
  · rintro i f u (⟨rfl, h, hn⟩ | h) hi
    · exfalso
      have hZl : Z.length = L.length := hp.length_eq
      have hk : Z[i]? = some Z[i] := List.getElem?_eq_getElem (by omega)
      have h1 : List.count (kc Z[i]) (L.map kc) = List.count (kc Z[i]) ((marked L u).map kc) + List.count (kc Z[i]) ((unmarked L u).map kc) := by
        have := ((marked_perm L u h.1).map kc).count_eq (kc Z[i])
        rw [← this]
        simp
      have h2 := h.2.count_eq (kc Z[i])
      have h3 := (hp.map kc).count_eq (kc Z[i])
      have h4 : List.count (kc Z[i]) (Z.map kc) = List.count (kc Z[i]) ((Z.take i).map kc) + List.count (kc Z[i]) ((Z.drop i).map kc) := by
        rw [← List.count_append, ← List.map_append, List.take_append_drop]
      have h5 : 0 < List.count (kc Z[i]) ((Z.drop i).map kc) := by
        rw [List.drop_eq_getElem_cons (by omega), List.map_cons, List.count_cons_self]
        omega
      have h6 : 0 < List.count (kc Z[i]) ((unmarked L u).map kc) := by omega
      obtain ⟨x, hx, hxe⟩ := List.mem_map.1 (List.count_pos_iff.1 h6)
      obtain ⟨j, hj1, hj2⟩ := unmarked_at L u x h.1 hx
      exact hn j x (List.getElem?_eq_some_iff.1 hj1).1 hj1 hj2 _ hk hxe
    · exact ⟨h.1, h.2⟩
end Go.Proofs.Ytkbjakadngnokaa

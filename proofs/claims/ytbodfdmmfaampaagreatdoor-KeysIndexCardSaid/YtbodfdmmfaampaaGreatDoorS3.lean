/-
  Lists in order by rank, each rank's elements as they came; the contract of slices.insertionSortCmpFunc.
-/
import Derived.Test.YtbodfdmmfaampaaGreatDoorS2
namespace Go.Proofs.YtbodfdmmfaampaaGreatDoor
open Go.RowKit Go.Shelf Go.Lib Go.Sort Go.Proofs
set_option maxHeartbeats 400000
set_option maxRecDepth 100000

def rk (x : KK) : Nat := rankK x.1 x.2
def Srt (l : List KK) : Prop := l.Pairwise (fun x y => rk x ≤ rk y)
def cls (r : Nat) (l : List KK) : List KK := l.filter (fun x => rk x == r)
/-- the same elements of each rank, in the same order -/
def Eqv (a b : List KK) : Prop := ∀ r, cls r a = cls r b
theorem cls_append (r : Nat) (a b : List KK) : cls r (a ++ b) = cls r a ++ cls r b := List.filter_append ..
theorem Eqv.refl (a : List KK) : Eqv a a := fun _ => rfl
theorem Eqv.symm {a b : List KK} (h : Eqv a b) : Eqv b a := fun r => (h r).symm
theorem Eqv.trans {a b c : List KK} (h : Eqv a b) (k : Eqv b c) : Eqv a c := fun r => (h r).trans (k r)
theorem Eqv.app {a b c d : List KK} (h : Eqv a b) (k : Eqv c d) : Eqv (a ++ c) (b ++ d) := fun r => by rw [cls_append, cls_append, h r, k r]
theorem Eqv.mem {a b : List KK} (h : Eqv a b) {x : KK} (hx : x ∈ a) : x ∈ b := by
  have : x ∈ cls (rk x) a := List.mem_filter.2 ⟨hx, by simp⟩
  rw [h] at this
  exact (List.mem_filter.1 this).1
theorem perm_of_cls {α : Type} (f : α → Nat) (a b : List α) (h : ∀ r, a.filter (fun x => f x == r) = b.filter (fun x => f x == r)) : a.Perm b := by
  classical
  rw [List.perm_iff_count]
  intro x
  have e : ∀ l : List α, List.count x l = List.count x (l.filter (fun y => f y == f x)) := fun l => (List.count_filter (by simp)).symm
  rw [e a, e b, h]
theorem Eqv.len {a b : List KK} (h : Eqv a b) : a.length = b.length := (perm_of_cls rk a b h).length_eq
theorem Eqv.swap {a b : List KK} (h : ∀ x ∈ a, ∀ y ∈ b, rk x ≠ rk y) : Eqv (a ++ b) (b ++ a) := fun r => by
  rw [cls_append, cls_append]
  cases ha : cls r a with
  | nil => simp
  | cons x l => cases hb : cls r b with
    | nil => simp
    | cons y m =>
      have hx : x ∈ cls r a := by rw [ha]; exact List.mem_cons_self ..
      have hy : y ∈ cls r b := by rw [hb]; exact List.mem_cons_self ..
      have hx := List.mem_filter.1 hx
      have hy := List.mem_filter.1 hy
      have e1 : rk x = r := by simpa using hx.2
      have e2 : rk y = r := by simpa using hy.2
      exact absurd (e1.trans e2.symm) (h x hx.1 y hy.1)
theorem Srt.app {a b : List KK} (ha : Srt a) (hb : Srt b) (h : ∀ x ∈ a, ∀ y ∈ b, rk x ≤ rk y) : Srt (a ++ b) := List.pairwise_append.2 ⟨ha, hb, h⟩
theorem Srt.parts {a b : List KK} (h : Srt (a ++ b)) : Srt a ∧ Srt b ∧ ∀ x ∈ a, ∀ y ∈ b, rk x ≤ rk y := List.pairwise_append.1 h
theorem Srt.one (x : KK) : Srt [x] := List.pairwise_singleton ..
/-- every text in a list is short enough -/
def Small (l : List KK) : Prop := ∀ x ∈ l, x.1.size ≤ 1099511627776
/-- the inner loop's state: x stands at place j; what it has passed is greater -/
def InsI (blk : Nat) (P R S : List KK) (x : KK) (i j : Nat) (w : World) : Prop :=
  ∃ Z1 Z2 T, RowL w blk (P ++ (Z1 ++ (x :: (Z2 ++ (T ++ S))))) ∧ Srt (Z1 ++ Z2) ∧ (∀ z ∈ Z2, rk x < rk z) ∧ Eqv (Z1 ++ (x :: (Z2 ++ T))) R ∧ P.length + Z1.length = j ∧ P.length + Z1.length + Z2.length = i
/-- the outer loop's state: all before i is in order -/
def InsO (blk : Nat) (P R S : List KK) (i : Nat) (w : World) : Prop :=
  ∃ Z T, RowL w blk (P ++ (Z ++ (T ++ S))) ∧ Srt Z ∧ Eqv (Z ++ T) R ∧ P.length + Z.length = i
theorem cell_list {w : World} {blk : Nat} {P Q : List KK} {x : KK} (h : RowL w blk (P ++ x :: Q)) (i : Nat) (hi : i = P.length) :
    w.cell? ⟨blk, i * 2, none⟩ = some (.string x.1) ∧ w.cell? ⟨blk, i * 2 + 1, none⟩ = some (.int .i64 x.2) ∧ w.frozen? ⟨blk, i * 2, none⟩ = false ∧ w.frozen? ⟨blk, i * 2 + 1, none⟩ = false := by
  have := cell_row h i (by simp; omega)
  have e : (P ++ x :: Q).toArray[i]! = x := by subst hi; simp
  rw [e] at this
  exact this
theorem swap_list {w : World} {blk : Nat} {P Q : List KK} {x y : KK} (h : RowL w blk (P ++ x :: y :: Q)) (i j : Nat) (hi : i = P.length + 1) (hj : j = P.length) :
    RowL (swW w blk i j x y) blk (P ++ y :: x :: Q) ∧ Fr blk w (swW w blk i j x y) := by
  have := swap_done h i j (by simp; omega) (by simp; omega)
  have e1 : (P ++ x :: y :: Q).toArray[j]! = x := by subst hj; simp
  have e2 : (P ++ x :: y :: Q).toArray[i]! = y := by
    subst hi
    rw [getElem!_pos _ _ (by simp)]
    simp [List.getElem_append_right]
  rw [e1, e2] at this
  have e3 : swp (P ++ x :: y :: Q).toArray i j = (P ++ y :: x :: Q).toArray := by
    unfold swp
    rw [e1, e2]
    subst hi; subst hj
    simp [List.set_append_right]
  rw [e3] at this
  exact this
theorem swap_list' {w : World} {blk : Nat} {P Q : List KK} {x y : KK} (h : RowL w blk (P ++ x :: y :: Q)) (i j : Nat) (hi : i = P.length) (hj : j = P.length + 1) :
    RowL (swW w blk i j y x) blk (P ++ y :: x :: Q) ∧ Fr blk w (swW w blk i j y x) := by
  have := swap_done h i j (by simp; omega) (by simp; omega)
  have e1 : (P ++ x :: y :: Q).toArray[i]! = x := by subst hi; simp
  have e2 : (P ++ x :: y :: Q).toArray[j]! = y := by
    subst hj
    rw [getElem!_pos _ _ (by simp)]
    simp [List.getElem_append_right]
  rw [e1, e2] at this
  have e3 : swp (P ++ x :: y :: Q).toArray i j = (P ++ y :: x :: Q).toArray := by
    unfold swp
    rw [e1, e2]
    subst hi; subst hj
    simp [List.set_append_right]
  rw [e3] at this
  exact this

theorem InsO.bound {blk : Nat} {P R S : List KK} {i : Nat} {w : World} (h : InsO blk P R S i w) : P.length ≤ i ∧ i ≤ P.length + R.length := by
  obtain ⟨Z, T, h1, h2, h3, h4⟩ := h
  have := h3.len
  simp at this
  omega
theorem InsI.bound {blk : Nat} {P R S : List KK} {x : KK} {i j : Nat} {w : World} (h : InsI blk P R S x i j w) : P.length ≤ j ∧ j ≤ i ∧ i < P.length + R.length := by
  obtain ⟨Z1, Z2, T, h1, h2, h3, h4, h5, h6⟩ := h
  have := h4.len
  simp at this
  omega
theorem InsI.lt {blk : Nat} {P R S : List KK} {x : KK} {i j : Nat} {w : World} (h : InsI blk P R S x i j w) : blk < w.heap.size := by
  obtain ⟨Z1, Z2, T, h1, _⟩ := h
  exact h1.2
/-- into the inner loop -/
theorem InsO.enter {blk : Nat} {P R S : List KK} {i : Nat} {w : World} (h : InsO blk P R S i w) (hi : i < P.length + R.length) : ∃ x ∈ R, InsI blk P R S x i i w := by
  obtain ⟨Z, T, h1, h2, h3, h4⟩ := h
  cases T with
  | nil => have := h3.len; simp at this; omega
  | cons x T => exact ⟨x, h3.mem (by simp), Z, [], T, by simpa using h1, by simpa using h2, fun z hz => by simp at hz, by simpa using h3, h4, by simpa using h4⟩
/-- out of the inner loop -/
theorem leave_aux {blk : Nat} {P R S : List KK} {x : KK} {i : Nat} {w : World} (Z1 Z2 T : List KK) (h1 : RowL w blk (P ++ (Z1 ++ (x :: (Z2 ++ (T ++ S)))))) (h2 : Srt (Z1 ++ Z2)) (h3 : ∀ z ∈ Z2, rk x < rk z) (h4 : Eqv (Z1 ++ (x :: (Z2 ++ T))) R) (h6 : P.length + Z1.length + Z2.length = i) (hz : ∀ z ∈ Z1, rk z ≤ rk x) : InsO blk P R S (i + 1) w := by
  obtain ⟨q1, q2, q3⟩ := h2.parts
  refine ⟨Z1 ++ x :: Z2, T, by simpa using h1, ?_, by simpa using h4, by simp; omega⟩
  refine q1.app ?_ ?_
  · exact List.pairwise_cons.2 ⟨fun z hz => Nat.le_of_lt (h3 z hz), q2⟩
  · intro z hz1 y hy
    rcases List.mem_cons.1 hy with rfl | hy
    · exact hz z hz1
    · exact q3 z hz1 y hy
theorem InsI.leave0 {blk : Nat} {P R S : List KK} {x : KK} {i : Nat} {w : World} (h : InsI blk P R S x i P.length w) : InsO blk P R S (i + 1) w := by
  obtain ⟨Z1, Z2, T, h1, h2, h3, h4, h5, h6⟩ := h
  have : Z1 = [] := List.length_eq_zero_iff.1 (by omega)
  subst this
  exact leave_aux [] Z2 T h1 h2 h3 h4 h6 (fun z hz => by simp at hz)
/-- what the test in the inner loop sees -/
theorem InsI.see {blk : Nat} {P R S : List KK} {x : KK} {i j : Nat} {w : World} (h : InsI blk P R S x i j w) (hj : P.length < j) : ∃ z ∈ R, 
    (w.cell? ⟨blk, j * 2, none⟩ = some (.string x.1) ∧ w.cell? ⟨blk, j * 2 + 1, none⟩ = some (.int .i64 x.2) ∧ w.frozen? ⟨blk, j * 2, none⟩ = false ∧ w.frozen? ⟨blk, j * 2 + 1, none⟩ = false) ∧
    (w.cell? ⟨blk, (j - 1) * 2, none⟩ = some (.string z.1) ∧ w.cell? ⟨blk, (j - 1) * 2 + 1, none⟩ = some (.int .i64 z.2) ∧ w.frozen? ⟨blk, (j - 1) * 2, none⟩ = false ∧ w.frozen? ⟨blk, (j - 1) * 2 + 1, none⟩ = false) ∧
    (rk x < rk z → InsI blk P R S x i (j - 1) (swW w blk j (j - 1) z x) ∧ Fr blk w (swW w blk j (j - 1) z x)) ∧
    (rk z ≤ rk x → InsO blk P R S (i + 1) w) := by
  have h0 := h
  obtain ⟨Z1, Z2, T, h1, h2, h3, h4, h5, h6⟩ := h
  obtain ⟨Y, z, rfl⟩ : ∃ Y z, Z1 = Y ++ [z] := ⟨Z1.dropLast, Z1.getLast (by intro hn; subst hn; simp at h5; omega), (List.dropLast_concat_getLast _).symm⟩
  simp only [List.length_append, List.length_cons, List.length_nil] at h5 h6
  have e1 : P ++ (Y ++ [z] ++ (x :: (Z2 ++ (T ++ S)))) = (P ++ Y ++ [z]) ++ x :: (Z2 ++ (T ++ S)) := by simp
  have e2 : P ++ (Y ++ [z] ++ (x :: (Z2 ++ (T ++ S)))) = (P ++ Y) ++ z :: (x :: (Z2 ++ (T ++ S))) := by simp
  have c1 := cell_list (e1 ▸ h1) j (by simp; omega)
  have c2 := cell_list (e2 ▸ h1) (j - 1) (by simp; omega)
  refine ⟨z, h4.mem (by simp), c1, c2, ?_, ?_⟩
  · intro hlt
    obtain ⟨s1, s2⟩ := swap_list (e2 ▸ h1) j (j - 1) (by simp; omega) (by simp; omega)
    refine ⟨⟨Y, z :: Z2, T, by simpa using s1, by simpa using h2, ?_, ?_, by omega, by simp; omega⟩, s2⟩
    · intro y hy
      rcases List.mem_cons.1 hy with rfl | hy
      · exact hlt
      · exact h3 y hy
    · refine Eqv.trans ?_ h4
      have : Eqv ([x] ++ [z]) ([z] ++ [x]) := Eqv.swap (fun a ha b hb => by simp at ha hb; subst ha; subst hb; omega)
      have := (Eqv.refl Y).app (this.app (Eqv.refl (Z2 ++ T)))
      simpa using this
  · intro hle
    refine leave_aux (Y ++ [z]) Z2 T h1 h2 h3 h4 (by simp; omega) ?_
    intro y hy
    obtain ⟨q1, q2, q3⟩ := h2.parts
    obtain ⟨p1, p2, p3⟩ := q1.parts
    rcases List.mem_append.1 hy with hy | hy
    · exact Nat.le_trans (p3 y hy z (by simp)) hle
    · simp at hy; subst hy; exact hle
/-- what a comparator says -/
theorem cmpZ_lt (a b : Nat) : cmpZ (a : Int) (b : Int) < 0 ↔ a < b := by
  unfold cmpZ
  split
  · omega
  · split <;> omega
/-- two elements of the row as a comparator's test reads them, in whatever world behind w -/
theorem peek_keep {w y y' : World} {blk i j : Nat} {x z : KK} (hB : blk < w.heap.size)
    (h : y.cell? ⟨blk, i * 2, none⟩ = some (.string x.1) ∧ y.cell? ⟨blk, i * 2 + 1, none⟩ = some (.int .i64 x.2) ∧ y.cell? ⟨blk, j * 2, none⟩ = some (.string z.1) ∧ y.cell? ⟨blk, j * 2 + 1, none⟩ = some (.int .i64 z.2) ∧ Below w.heap.size w y) (hb : Below y.heap.size y y') :
    y'.cell? ⟨blk, i * 2, none⟩ = some (.string x.1) ∧ y'.cell? ⟨blk, i * 2 + 1, none⟩ = some (.int .i64 x.2) ∧ y'.cell? ⟨blk, j * 2, none⟩ = some (.string z.1) ∧ y'.cell? ⟨blk, j * 2 + 1, none⟩ = some (.int .i64 z.2) ∧ Below w.heap.size w y' := by
  obtain ⟨h1, h2, h3, h4, h5⟩ := h
  have hlt : blk < y.heap.size := Nat.lt_of_lt_of_le hB h5.size
  refine ⟨?_, ?_, ?_, ?_, below_after h5 hb⟩
  · rw [hb.cell (p := ⟨blk, i * 2, none⟩) hlt]; exact h1
  · rw [hb.cell (p := ⟨blk, i * 2 + 1, none⟩) hlt]; exact h2
  · rw [hb.cell (p := ⟨blk, j * 2, none⟩) hlt]; exact h3
  · rw [hb.cell (p := ⟨blk, j * 2 + 1, none⟩) hlt]; exact h4
/-- what the test in the inner loop sees, in numbers alone -/
theorem ins_facts (blk : Nat) (P R S : List KK) (len a b : Nat) (hlen : len = (P ++ (R ++ S)).length) (ha : a = P.length) (hb : b = a + R.length) (hsm : Small R) :
    b ≤ len ∧ (∀ i wr, InsO blk P R S i wr → i ≤ b) ∧ (∀ i wr, InsO blk P R S i wr → i < b → ∃ x, x.1.size ≤ 1099511627776 ∧ InsI blk P R S x i i wr) ∧
    (∀ x i j wr, InsI blk P R S x i j wr → a ≤ j ∧ j ≤ i ∧ i < b ∧ blk < wr.heap.size) ∧ (∀ x i wr, InsI blk P R S x i a wr → ∀ y, Below wr.heap.size wr y → InsO blk P R S (i + 1) y) ∧
    (∀ x i j wr, InsI blk P R S x i (j + 1) wr → a < j + 1 → ∃ z : KK, z.1.size ≤ 1099511627776 ∧
      (wr.cell? ⟨blk, (j + 1) * 2, none⟩ = some (.string x.1) ∧ wr.cell? ⟨blk, (j + 1) * 2 + 1, none⟩ = some (.int .i64 x.2) ∧ wr.frozen? ⟨blk, (j + 1) * 2, none⟩ = false ∧ wr.frozen? ⟨blk, (j + 1) * 2 + 1, none⟩ = false) ∧
      (wr.cell? ⟨blk, j * 2, none⟩ = some (.string z.1) ∧ wr.cell? ⟨blk, j * 2 + 1, none⟩ = some (.int .i64 z.2) ∧ wr.frozen? ⟨blk, j * 2, none⟩ = false ∧ wr.frozen? ⟨blk, j * 2 + 1, none⟩ = false) ∧
      (rk x < rk z → ∀ y, Below wr.heap.size wr y → InsI blk P R S x i j (swW y blk (j + 1) j z x) ∧ Fr blk y (swW y blk (j + 1) j z x)) ∧
      (rk z ≤ rk x → ∀ y, Below wr.heap.size wr y → InsO blk P R S (i + 1) y)) ∧
    (∀ wr, InsO blk P R S b wr → ∃ Z, RowL wr blk (P ++ (Z ++ S)) ∧ Srt Z ∧ Eqv Z R) := by
  have keepI : ∀ x i j wr y, InsI blk P R S x i j wr → Below wr.heap.size wr y → InsI blk P R S x i j y := by
    rintro x i j wr y ⟨Z1, Z2, T, h1, h2⟩ hb
    exact ⟨Z1, Z2, T, RowK.keep h1 hb, h2⟩
  refine ⟨by simp at hlen; omega, ?_, ?_, ?_, ?_, ?_, ?_⟩
  · intro i wr h; have := h.bound; omega
  · intro i wr h hi
    obtain ⟨x, hx, hI⟩ := h.enter (by omega)
    exact ⟨x, hsm x hx, hI⟩
  · intro x i j wr h
    have h1 := h.bound
    have h2 := h.lt
    omega
  · intro x i wr h y hy
    rw [ha] at h
    exact (keepI _ _ _ _ _ h hy).leave0
  · intro x i j wr h hj
    obtain ⟨z, hz, hc1, hc2, hsw, hstop⟩ := h.see (by omega)
    simp only [Nat.add_sub_cancel] at hc2
    refine ⟨z, hsm z hz, hc1, hc2, ?_, ?_⟩
    · intro hlt y hy
      obtain ⟨z', hz', d1, d2, dsw, dstop⟩ := (keepI _ _ _ _ _ h hy).see (by omega)
      simp only [Nat.add_sub_cancel] at d2 dsw
      have e1 : z' = z := by
        have k1 := d2.1
        have k2 := d2.2.1
        have hB := h.lt
        rw [hy.cell (p := ⟨blk, j * 2, none⟩) hB, hc2.1] at k1
        rw [hy.cell (p := ⟨blk, j * 2 + 1, none⟩) hB, hc2.2.1] at k2
        injection k1 with k1; injection k1 with k1
        injection k2 with k2; injection k2 with k2 k3
        exact Prod.ext k1.symm k3.symm
      rw [e1] at dsw
      exact dsw hlt
    · intro hle y hy
      obtain ⟨z', hz', d1, d2, dsw, dstop⟩ := (keepI _ _ _ _ _ h hy).see (by omega)
      simp only [Nat.add_sub_cancel] at d2 dsw
      have e1 : z' = z := by
        have k1 := d2.1
        have k2 := d2.2.1
        have hB := h.lt
        rw [hy.cell (p := ⟨blk, j * 2, none⟩) hB, hc2.1] at k1
        rw [hy.cell (p := ⟨blk, j * 2 + 1, none⟩) hB, hc2.2.1] at k2
        injection k1 with k1; injection k1 with k1
        injection k2 with k2; injection k2 with k2 k3
        exact Prod.ext k1.symm k3.symm
      rw [e1] at dstop
      exact dstop hle
  · rintro wr ⟨Z, T, h1, h2, h3, h4⟩
    have := h3.len
    simp at this
    have hT : T = [] := List.length_eq_zero_iff.1 (by omega)
    subst hT
    exact ⟨Z, by simpa using h1, h2, by simpa using h3⟩
theorem c_ins (blk cap : Nat) (P R S : List KK) (len a b : Nat) (hlen : len = (P ++ (R ++ S)).length) (ha : a = P.length) (hb : b = a + R.length) (hsm : Small R) (hsz : len ≤ 1099511627776) (w : World) (h : RowL w blk (P ++ (R ++ S))) :
    Calls Tryz.prog 49 #[.slice (some ⟨blk, 0, none⟩) len cap, .int .i64 (a : Int), .int .i64 (b : Int), .func (.func 25) #[] #[]] w fun e w' => e = .returned (.tuple #[]) ∧ (∃ Z, RowL w' blk (P ++ (Z ++ S)) ∧ Srt Z ∧ Eqv Z R) ∧ Fr blk w w' := by
  obtain ⟨hbl, f1, f2, f3, f4, f5, hfin⟩ := ins_facts blk P R S len a b hlen ha hb hsm
  have hR0 : R = [] ∨ InsO blk P R S (a + 1) w := by
    cases R with
    | nil => exact .inl rfl
    | cons x R => exact .inr ⟨[x], R, by simpa using h, Srt.one x, Eqv.refl _, by simp; omega⟩
  rcases hR0 with rfl | hO
  · obtain rfl : b = a := by simpa using hb
    clear ha hlen hb f1 f2 f3 f4 f5 hfin
    go_enter Tryz.func49, Tryz.ntmps49
    go_wp2
    go_loopw [8] (fun vi wr => vi = .int .i64 ((b : Int) + 1) ∧ wr = w) (fun _ _ => 0)
    case atStart => exact ⟨rfl, rfl⟩
    case round =>
      obtain ⟨rfl, rfl⟩ := hrel
      go_wp2
      go_end0
      exact ⟨rfl, ⟨[], h, List.Pairwise.nil, Eqv.refl _⟩, Fr.refl _ _⟩
  · clear h ha hlen hb hsm
    replace f1 := Lib.hid f1
    replace f2 := Lib.hid f2
    replace f3 := Lib.hid f3
    replace f4 := Lib.hid f4
    replace f5 := Lib.hid f5
    replace hfin := Lib.hid hfin
    generalize hIO : InsO blk P R S = IO at *
    generalize hII : InsI blk P R S = II at *
    clear hIO hII
    have hab := f1.out _ _ hO
    go_enter Tryz.func49, Tryz.ntmps49
    go_wp2
    go_loopw [8] (fun vi wr => ∃ i : Nat, vi = .int .i64 (i : Int) ∧ IO i wr ∧ a < i ∧ Fr blk w wr) (fun vi _ => b + 1 - (intOf vi).toNat)
    case atStart => exact ⟨a + 1, by go_num, hO, by omega, Fr.refl _ _⟩
    case round =>
      obtain ⟨i, rfl, hI, hai, hfr⟩ := hrel
      have hbi := f1.out _ _ hI
      rcases Nat.lt_or_ge i b with hlt | hge
      · obtain ⟨x, hxs, hin⟩ := f2.out _ _ hI hlt
        clear hI hO hab
        go_wp2
        go_loopw [9] (fun vj wr2 => ∃ j : Nat, vj = .int .i64 (j : Int) ∧ II x i j wr2 ∧ Fr blk w wr2) (fun vj _ => (intOf vj).toNat)
        case atStart => exact ⟨i, rfl, hin, hfr⟩
        case round =>
          obtain ⟨j, rfl, hJ, hfr2⟩ := hrel
          obtain ⟨g1, g2, g3, hB⟩ := f3.out _ _ _ _ hJ
          clear hin hfr
          rcases Nat.lt_or_ge a j with haj | haj
          · obtain ⟨jp, rfl⟩ : ∃ jp, j = jp + 1 := ⟨j - 1, by omega⟩
            obtain ⟨z, hzs, hc1, hc2, hsw, hstop⟩ := f5.out _ _ _ _ hJ haj
            have hS0 : wr.drew.cell? ⟨blk, (jp + 1) * 2, none⟩ = some (.string x.1) ∧ wr.drew.cell? ⟨blk, (jp + 1) * 2 + 1, none⟩ = some (.int .i64 x.2) ∧ wr.drew.cell? ⟨blk, jp * 2, none⟩ = some (.string z.1) ∧ wr.drew.cell? ⟨blk, jp * 2 + 1, none⟩ = some (.int .i64 z.2) ∧ Below wr.heap.size wr wr.drew := ⟨hc1.1, hc1.2.1, hc2.1, hc2.2.1, (Below.refl _ _).drew⟩
            have hO := fun y => Lib.hid (c_OrderF x.1 z.1 x.2 z.2 hxs hzs y)
            unfold keyV at hO
            have hlt2 := cmpZ_lt (rankK x.1 x.2) (rankK z.1 z.2)
            generalize hR : cmpZ (rankK x.1 x.2) (rankK z.1 z.2) = Rz at hO hlt2
            replace hsw := Lib.hid hsw
            replace hstop := Lib.hid hstop
            have hfz := Lib.hid (And.intro hc1.2.2 hc2.2.2)
            clear hJ hR hc1 hc2
            have haj' : (a : Int) < (jp : Int) + 1 := by omega
            have hw1 : IntKind.i64.wrap (jp : Int) = (jp : Int) := by rw [IntKind.wrap_i64]; omega
            have hp0 : (0 : Int) ≤ (jp : Int) + 1 := by omega
            have he0 : ((jp : Int) + 1).toNat = jp + 1 := by omega
            have hjl : (jp : Int) + 1 < (len : Int) := by omega
            have hjl' : (jp : Int) < (len : Int) := by omega
            by_cases hlv : Rz < 0
            · have hlv' := Lib.hid (hlt2.1 hlv)
              clear hlt2
              go_wp2_with fail
              go_region_held3 (fun y => y.cell? ⟨blk, (jp + 1) * 2, none⟩ = some (.string x.1) ∧ y.cell? ⟨blk, (jp + 1) * 2 + 1, none⟩ = some (.int .i64 x.2) ∧ y.cell? ⟨blk, jp * 2, none⟩ = some (.string z.1) ∧ y.cell? ⟨blk, jp * 2 + 1, none⟩ = some (.int .i64 z.2) ∧ Below wr.heap.size wr y) (first | assumption | exact peek_keep hB (by assumption) (by assumption)) (first | (go_at_call 25; refine (hO _).out.mono ?_; rintro e y' ⟨rfl, hb⟩))
              obtain ⟨d1, d2, d3, d4, hbel⟩ := peek_keep hB hS0 hb
              obtain ⟨s1, s2⟩ := hsw.out hlv'.out y' hbel
              have z1 : y'.frozen? ⟨blk, (jp + 1) * 2, none⟩ = false := by rw [hbel.frozen (p := ⟨blk, (jp + 1) * 2, none⟩) hB]; exact hfz.out.1.1
              have z2 : y'.frozen? ⟨blk, (jp + 1) * 2 + 1, none⟩ = false := by rw [hbel.frozen (p := ⟨blk, (jp + 1) * 2 + 1, none⟩) hB]; exact hfz.out.1.2
              have z3 : y'.frozen? ⟨blk, jp * 2, none⟩ = false := by rw [hbel.frozen (p := ⟨blk, jp * 2, none⟩) hB]; exact hfz.out.2.1
              have z4 : y'.frozen? ⟨blk, jp * 2 + 1, none⟩ = false := by rw [hbel.frozen (p := ⟨blk, jp * 2 + 1, none⟩) hB]; exact hfz.out.2.2
              replace s1 := Lib.hid s1
              replace s2 := Lib.hid s2
              have hfr3 : Fr blk w y' := hfr2.trans (Fr.below hbel)
              have mixed : Tryz.prog.follows Departure.mixedOrders = true := by kernel_rfl
              have n1 : ¬ (jp + 1) * 2 = jp * 2 := by omega
              have n2 : ¬ (jp + 1) * 2 = jp * 2 + 1 := by omega
              have n3 : ¬ (jp + 1) * 2 + 1 = jp * 2 := by omega
              clear hS0 hb hbel hB
              go_wp2
              go_big_region_o
              all_goals go_wp2
              go_roundw
              case rel => exact ⟨jp, by go_num, s1.out, hfr3.trans s2.out⟩
              case measure => simp [intOf]
            · have hle : rk z ≤ rk x := Nat.le_of_not_lt (fun h => hlv (hlt2.2 h))
              have hle := Lib.hid hle
              have hlv2 : (0 : Int) ≤ Rz := by omega
              clear hlt2
              go_wp2_with fail
              go_region_held3 (fun y => y.cell? ⟨blk, (jp + 1) * 2, none⟩ = some (.string x.1) ∧ y.cell? ⟨blk, (jp + 1) * 2 + 1, none⟩ = some (.int .i64 x.2) ∧ y.cell? ⟨blk, jp * 2, none⟩ = some (.string z.1) ∧ y.cell? ⟨blk, jp * 2 + 1, none⟩ = some (.int .i64 z.2) ∧ Below wr.heap.size wr y) (first | assumption | exact peek_keep hB (by assumption) (by assumption)) (first | (go_at_call 25; refine (hO _).out.mono ?_; rintro e y' ⟨rfl, hb⟩))
              obtain ⟨d1, d2, d3, d4, hbel⟩ := peek_keep hB hS0 hb
              have s1 := Lib.hid (hstop.out hle.out y' hbel)
              have hfr3 : Fr blk w y' := hfr2.trans (Fr.below hbel)
              clear hS0 hb hbel hB d1 d2 d3 d4
              go_wp2
              go_roundw
              case rel => exact ⟨i + 1, by go_num, s1.out, by omega, hfr3⟩
              case measure => simp [intOf]; omega
          · obtain rfl : j = a := by omega
            have s1 := Lib.hid (f4.out _ _ _ hJ)
            have hb2 := fun nq => Lib.hid (bel_drewN (Below.refl wr.heap.size wr) nq)
            have mixed : Tryz.prog.follows Departure.mixedOrders = true := by kernel_rfl
            clear hJ
            go_wp2
            go_quiet (fail)
            go_wp2
            go_roundw
            case rel => exact ⟨i + 1, by go_num, s1.out _ (hb2 _).out, by omega, hfr2.trans (Fr.below (hb2 _).out)⟩
            case measure => simp [intOf]; omega
      · have hib : i = b := by omega
        subst hib
        go_wp2
        go_end0
        exact ⟨rfl, hfin.out _ hI, hfr⟩
end Go.Proofs.YtbodfdmmfaampaaGreatDoor

/-
  Contracts: Merging two runs: the contract of slices.symMergeCmpFunc, its two short cases. Merging two runs: the walks of slices.symMergeCmpFunc's two short cases. Merging two runs: what the search for the cut finds, and the three steps behind it.
-/
import Derived.Test.YtkbohoolnpaleaaGreatDoorW4
namespace Go.Proofs.YtkbohoolnpaleaaGreatDoor
open Go.RowKit Go.Shelf Go.Lib Go.Sort Go.Proofs
set_option maxHeartbeats 400000
set_option maxRecDepth 100000

theorem RowL.keep {w w' : World} {blk : Nat} {l : List KK} (h : RowL w blk l) (hb : Below w.heap.size w w') : RowL w' blk l := RowK.keep h hb
/-- a search between i and j for the first place at which T falls -/
def BS (T : Nat → Prop) (lo hi i j : Nat) : Prop := lo ≤ i ∧ i ≤ j ∧ j ≤ hi ∧ (∀ k, lo ≤ k → k < i → T k) ∧ (∀ k, j ≤ k → k < hi → ¬ T k)
theorem BS.start (T : Nat → Prop) (lo hi : Nat) (h : lo ≤ hi) : BS T lo hi lo hi := ⟨Nat.le_refl _, h, Nat.le_refl _, fun k h1 h2 => by omega, fun k h1 h2 => by omega⟩
theorem BS.up {T : Nat → Prop} {lo hi i j h : Nat} (hm : ∀ k l, lo ≤ k → k ≤ l → l < hi → T l → T k) (hs : BS T lo hi i j) (h1 : i ≤ h) (h2 : h < j) (hT : T h) : BS T lo hi (h + 1) j := by
  obtain ⟨a, b, c, d, e⟩ := hs
  exact ⟨by omega, by omega, c, fun k h3 h4 => hm k h h3 (by omega) (by omega) hT, e⟩
theorem BS.down {T : Nat → Prop} {lo hi i j h : Nat} (hm : ∀ k l, lo ≤ k → k ≤ l → l < hi → T l → T k) (hs : BS T lo hi i j) (h1 : i ≤ h) (h2 : h < j) (hT : ¬ T h) : BS T lo hi i h := by
  obtain ⟨a, b, c, d, e⟩ := hs
  exact ⟨a, h1, by omega, d, fun k h3 h4 hk => hT (hm h k (by omega) h3 h4 hk)⟩
/-- an element of a list, by its place -/
def at_ (l : List KK) (k : Nat) : KK := l.toArray[k]!
theorem at_mid (P Q : List KK) (x : KK) (i : Nat) (hi : i = P.length) : at_ (P ++ x :: Q) i = x := by subst hi; simp [at_]
theorem at_in (P R S : List KK) (i : Nat) (h1 : P.length ≤ i) (h2 : i < P.length + R.length) : at_ (P ++ (R ++ S)) i ∈ R := by
  obtain ⟨A, B, rfl, hA⟩ := split_at R (i - P.length) (by omega)
  cases B with
  | nil => simp at h2; omega
  | cons x B =>
    have e : P ++ (A ++ x :: B ++ S) = (P ++ A) ++ x :: (B ++ S) := by simp
    rw [e, at_mid _ _ _ i (by simp; omega)]
    simp
theorem at_srt (P R S : List KK) (hs : Srt R) (i j : Nat) (h1 : P.length ≤ i) (h2 : i ≤ j) (h3 : j < P.length + R.length) : rk (at_ (P ++ (R ++ S)) i) ≤ rk (at_ (P ++ (R ++ S)) j) := by
  rcases Nat.eq_or_lt_of_le h2 with rfl | h2
  · exact Nat.le_refl _
  obtain ⟨A, B, rfl, hA⟩ := split_at R (i + 1 - P.length) (by omega)
  have e1 : P ++ (A ++ B ++ S) = P ++ (A ++ (B ++ S)) := by simp
  have e2 : P ++ (A ++ B ++ S) = (P ++ A) ++ (B ++ S) := by simp
  have g1 := at_in P A (B ++ S) i h1 (by omega)
  have g2 := at_in (P ++ A) B S j (by simp; omega) (by simp at h3 ⊢; omega)
  rw [← e1] at g1; rw [← e2] at g2
  exact hs.parts.2.2 _ g1 _ g2
theorem row_at {w : World} {blk : Nat} {l : List KK} (h : RowL w blk l) (i : Nat) (hi : i < l.length) :
    w.cell? ⟨blk, i * 2, none⟩ = some (.string (at_ l i).1) ∧ w.cell? ⟨blk, i * 2 + 1, none⟩ = some (.int .i64 (at_ l i).2) ∧ w.frozen? ⟨blk, i * 2, none⟩ = false ∧ w.frozen? ⟨blk, i * 2 + 1, none⟩ = false :=
  cell_row h i (by simpa using hi)
/-- x wanders to the right over Y: it stands at place k -/
def Wan (blk : Nat) (P Y S : List KK) (x : KK) (k : Nat) (w : World) : Prop := ∃ A B, Y = A ++ B ∧ P.length + A.length = k ∧ RowL w blk (P ++ (A ++ x :: (B ++ S)))
theorem Wan.right {blk : Nat} {P Y S : List KK} {x : KK} {k : Nat} {w : World} (h : Wan blk P Y S x k w) (hk : k < P.length + Y.length) : ∃ z : KK,
    (w.cell? ⟨blk, k * 2, none⟩ = some (.string x.1) ∧ w.cell? ⟨blk, k * 2 + 1, none⟩ = some (.int .i64 x.2) ∧ w.frozen? ⟨blk, k * 2, none⟩ = false ∧ w.frozen? ⟨blk, k * 2 + 1, none⟩ = false) ∧
    (w.cell? ⟨blk, (k + 1) * 2, none⟩ = some (.string z.1) ∧ w.cell? ⟨blk, (k + 1) * 2 + 1, none⟩ = some (.int .i64 z.2) ∧ w.frozen? ⟨blk, (k + 1) * 2, none⟩ = false ∧ w.frozen? ⟨blk, (k + 1) * 2 + 1, none⟩ = false) ∧
    Wan blk P Y S x (k + 1) (swW w blk k (k + 1) z x) ∧ Fr blk w (swW w blk k (k + 1) z x) := by
  obtain ⟨A, B, rfl, hA, hrow⟩ := h
  cases B with
  | nil => simp at hk; omega
  | cons z B =>
    have e1 : P ++ (A ++ x :: (z :: B ++ S)) = (P ++ A) ++ x :: z :: (B ++ S) := by simp
    have e2 : P ++ (A ++ x :: (z :: B ++ S)) = (P ++ A ++ [x]) ++ z :: (B ++ S) := by simp
    obtain ⟨s1, s2⟩ := swap_list' (e1 ▸ hrow) k (k + 1) (by simp; omega) (by simp; omega)
    exact ⟨z, cell_list (e1 ▸ hrow) k (by simp; omega), cell_list (e2 ▸ hrow) (k + 1) (by simp; omega), ⟨A ++ [z], B, by simp, by simp; omega, by simpa using s1⟩, s2⟩
theorem Wan.left {blk : Nat} {P Y S : List KK} {x : KK} {k : Nat} {w : World} (h : Wan blk P Y S x (k + 1) w) (hk : P.length ≤ k) : ∃ z : KK,
    (w.cell? ⟨blk, (k + 1) * 2, none⟩ = some (.string x.1) ∧ w.cell? ⟨blk, (k + 1) * 2 + 1, none⟩ = some (.int .i64 x.2) ∧ w.frozen? ⟨blk, (k + 1) * 2, none⟩ = false ∧ w.frozen? ⟨blk, (k + 1) * 2 + 1, none⟩ = false) ∧
    (w.cell? ⟨blk, k * 2, none⟩ = some (.string z.1) ∧ w.cell? ⟨blk, k * 2 + 1, none⟩ = some (.int .i64 z.2) ∧ w.frozen? ⟨blk, k * 2, none⟩ = false ∧ w.frozen? ⟨blk, k * 2 + 1, none⟩ = false) ∧
    Wan blk P Y S x k (swW w blk (k + 1) k z x) ∧ Fr blk w (swW w blk (k + 1) k z x) := by
  obtain ⟨A, B, rfl, hA, hrow⟩ := h
  obtain ⟨C, z, rfl⟩ : ∃ C z, A = C ++ [z] := ⟨A.dropLast, A.getLast (by intro hn; subst hn; simp at hA; omega), (List.dropLast_concat_getLast _).symm⟩
  have e1 : P ++ (C ++ [z] ++ x :: (B ++ S)) = (P ++ C) ++ z :: x :: (B ++ S) := by simp
  have e2 : P ++ (C ++ [z] ++ x :: (B ++ S)) = (P ++ C ++ [z]) ++ x :: (B ++ S) := by simp
  simp at hA
  obtain ⟨s1, s2⟩ := swap_list (e1 ▸ hrow) (k + 1) k (by simp; omega) (by simp; omega)
  exact ⟨z, cell_list (e2 ▸ hrow) (k + 1) (by simp; omega), cell_list (e1 ▸ hrow) k (by simp; omega), ⟨C, z :: B, by simp, by omega, by simpa using s1⟩, s2⟩
theorem Wan.lt {blk : Nat} {P Y S : List KK} {x : KK} {k : Nat} {w : World} (h : Wan blk P Y S x k w) : blk < w.heap.size := by
  obtain ⟨A, B, h1, h2, h3⟩ := h; exact h3.2
theorem Wan.bound {blk : Nat} {P Y S : List KK} {x : KK} {k : Nat} {w : World} (h : Wan blk P Y S x k w) : P.length ≤ k ∧ k ≤ P.length + Y.length := by
  obtain ⟨A, B, h1, h2, h3⟩ := h; subst h1; simp; omega
theorem Wan.keep {blk : Nat} {P Y S : List KK} {x : KK} {k : Nat} {w w' : World} (h : Wan blk P Y S x k w) (hb : Below w.heap.size w w') : Wan blk P Y S x k w' := by
  obtain ⟨A, B, h1, h2, h3⟩ := h; exact ⟨A, B, h1, h2, RowL.keep h3 hb⟩
/-- one element ahead of a run: what the search and the wandering need, and what they come to -/
theorem sym1_facts (blk : Nat) (P Y S : List KK) (x : KK) (len a b : Nat) (hlen : len = (P ++ (x :: (Y ++ S))).length) (ha : a = P.length) (hb : b = a + 1 + Y.length) (hsY : Srt Y) (hsm : Small (x :: Y)) (w : World) (h : RowL w blk (P ++ (x :: (Y ++ S)))) :
    ∃ (Q : Nat → Nat → Prop) (Wn : Nat → World → Prop), a < b ∧ b ≤ len ∧ blk < w.heap.size ∧ Q (a + 1) b ∧
      (∀ i j, Q i j → a + 1 ≤ i ∧ i ≤ j ∧ j ≤ b) ∧
      (∀ i j h wr, Q i j → i ≤ h → h < j → Below w.heap.size w wr → ∃ z : KK, z.1.size ≤ 1099511627776 ∧ x.1.size ≤ 1099511627776 ∧
        (wr.cell? ⟨blk, h * 2, none⟩ = some (.string z.1) ∧ wr.cell? ⟨blk, h * 2 + 1, none⟩ = some (.int .i64 z.2) ∧ wr.cell? ⟨blk, a * 2, none⟩ = some (.string x.1) ∧ wr.cell? ⟨blk, a * 2 + 1, none⟩ = some (.int .i64 x.2)) ∧
        (rk z < rk x → Q (h + 1) j) ∧ (¬ rk z < rk x → Q i h)) ∧
      (∀ wr, Below w.heap.size w wr → Wn a wr) ∧
      (∀ k wr, Wn k wr → blk < wr.heap.size ∧ (k + 1 < b → ∃ z : KK,
        (wr.cell? ⟨blk, k * 2, none⟩ = some (.string x.1) ∧ wr.cell? ⟨blk, k * 2 + 1, none⟩ = some (.int .i64 x.2) ∧ wr.frozen? ⟨blk, k * 2, none⟩ = false ∧ wr.frozen? ⟨blk, k * 2 + 1, none⟩ = false) ∧
        (wr.cell? ⟨blk, (k + 1) * 2, none⟩ = some (.string z.1) ∧ wr.cell? ⟨blk, (k + 1) * 2 + 1, none⟩ = some (.int .i64 z.2) ∧ wr.frozen? ⟨blk, (k + 1) * 2, none⟩ = false ∧ wr.frozen? ⟨blk, (k + 1) * 2 + 1, none⟩ = false) ∧
        Wn (k + 1) (swW wr blk k (k + 1) z x) ∧ Fr blk wr (swW wr blk k (k + 1) z x))) ∧
      (∀ i wr, Q i i → Wn (i - 1) wr → ∃ Z, RowL wr blk (P ++ (Z ++ S)) ∧ Srt Z ∧ Eqv Z (x :: Y)) := by
  have e0 : P ++ (x :: (Y ++ S)) = (P ++ [x]) ++ (Y ++ S) := by simp
  have hx : at_ (P ++ (x :: (Y ++ S))) a = x := at_mid _ _ _ _ ha
  have hm : ∀ k l, a + 1 ≤ k → k ≤ l → l < b → rk (at_ (P ++ (x :: (Y ++ S))) l) < rk x → rk (at_ (P ++ (x :: (Y ++ S))) k) < rk x := by
    intro k l h1 h2 h3 h4
    have := at_srt (P ++ [x]) Y S hsY k l (by simp; omega) h2 (by simp; omega)
    rw [← e0] at this
    omega
  have hlen2 : len = a + 1 + Y.length + S.length := by rw [hlen, ha]; simp; omega
  refine ⟨BS (fun k => rk (at_ (P ++ (x :: (Y ++ S))) k) < rk x) (a + 1) b, Wan blk P Y S x, by omega, by omega, h.2, BS.start _ _ _ (by omega), ?_, ?_, ?_, ?_, ?_⟩
  · rintro i j ⟨h1, h2, h3, _⟩; exact ⟨h1, h2, h3⟩
  · intro i j hh wr hQ h1 h2 hbel
    have hq := hQ
    obtain ⟨q1, q2, q3, _⟩ := hQ
    have hrow : RowL wr blk (P ++ (x :: (Y ++ S))) := RowL.keep h hbel
    have c1 := row_at hrow hh (by omega)
    have c2 := row_at hrow a (by omega)
    rw [hx] at c2
    have hin := at_in (P ++ [x]) Y S hh (by simp; omega) (by simp; omega)
    rw [← e0] at hin
    exact ⟨_, hsm _ (List.mem_cons_of_mem _ hin), hsm x (by simp), ⟨c1.1, c1.2.1, c2.1, c2.2.1⟩, fun hT => BS.up hm hq h1 h2 hT, fun hT => BS.down hm hq h1 h2 hT⟩
  · intro wr hbel
    exact ⟨[], Y, rfl, by simp; omega, by simpa using RowL.keep h hbel⟩
  · intro k wr hW
    exact ⟨hW.lt, fun hk => hW.right (by omega)⟩
  · intro i wr hQ hW
    obtain ⟨q1, q2, q3, q4, q5⟩ := hQ
    obtain ⟨A, B, rfl, hA, hrow⟩ := hW
    obtain ⟨s1, s2, s3⟩ := hsY.parts
    have k1 : ∀ z ∈ A, rk z < rk x := by
      intro z hz
      obtain ⟨A1, A2, rfl⟩ := List.append_of_mem hz
      have := q4 (P.length + 1 + A1.length) (by omega) (by simp at hA; omega)
      have e : P ++ (x :: ((A1 ++ z :: A2) ++ B ++ S)) = (P ++ x :: A1) ++ z :: (A2 ++ (B ++ S)) := by simp
      dsimp only at this
      rw [e, at_mid _ _ _ _ (by simp; omega)] at this
      exact this
    have k2 : ∀ z ∈ B, rk x ≤ rk z := by
      intro z hz
      obtain ⟨A1, A2, rfl⟩ := List.append_of_mem hz
      have := q5 (P.length + 1 + A.length + A1.length) (by omega) (by simp at hb; omega)
      have e : P ++ (x :: ((A ++ (A1 ++ z :: A2)) ++ S)) = (P ++ x :: (A ++ A1)) ++ z :: (A2 ++ S) := by simp
      dsimp only at this
      rw [e, at_mid _ _ _ _ (by simp; omega)] at this
      omega
    refine ⟨A ++ x :: B, by simpa using hrow, ?_, ?_⟩
    · refine s1.app (List.pairwise_cons.2 ⟨k2, s2⟩) ?_
      intro y hy z hz
      rcases List.mem_cons.1 hz with rfl | hz
      · exact Nat.le_of_lt (k1 y hy)
      · exact s3 y hy z hz
    · have : Eqv (A ++ [x]) ([x] ++ A) := Eqv.swap (fun y hy z hz => by simp at hz; subst hz; exact Nat.ne_of_lt (k1 y hy))
      simpa using this.app (Eqv.refl B)
/-- one element behind a run -/
theorem sym2_facts (blk : Nat) (P X S : List KK) (y : KK) (len a m b : Nat) (hlen : len = (P ++ (X ++ (y :: S))).length) (ha : a = P.length) (hm0 : m = a + X.length) (hb : b = m + 1) (hsX : Srt X) (hsm : Small (X ++ [y])) (w : World) (h : RowL w blk (P ++ (X ++ (y :: S)))) :
    ∃ (Q : Nat → Nat → Prop) (Wn : Nat → World → Prop), a ≤ m ∧ m < len ∧ blk < w.heap.size ∧ Q a m ∧
      (∀ i j, Q i j → a ≤ i ∧ i ≤ j ∧ j ≤ m) ∧
      (∀ i j h wr, Q i j → i ≤ h → h < j → Below w.heap.size w wr → ∃ z : KK, z.1.size ≤ 1099511627776 ∧ y.1.size ≤ 1099511627776 ∧
        (wr.cell? ⟨blk, m * 2, none⟩ = some (.string y.1) ∧ wr.cell? ⟨blk, m * 2 + 1, none⟩ = some (.int .i64 y.2) ∧ wr.cell? ⟨blk, h * 2, none⟩ = some (.string z.1) ∧ wr.cell? ⟨blk, h * 2 + 1, none⟩ = some (.int .i64 z.2)) ∧
        (¬ rk y < rk z → Q (h + 1) j) ∧ (rk y < rk z → Q i h)) ∧
      (∀ wr, Below w.heap.size w wr → Wn m wr) ∧
      (∀ k wr, Wn (k + 1) wr → blk < wr.heap.size ∧ (a ≤ k → ∃ z : KK,
        (wr.cell? ⟨blk, (k + 1) * 2, none⟩ = some (.string y.1) ∧ wr.cell? ⟨blk, (k + 1) * 2 + 1, none⟩ = some (.int .i64 y.2) ∧ wr.frozen? ⟨blk, (k + 1) * 2, none⟩ = false ∧ wr.frozen? ⟨blk, (k + 1) * 2 + 1, none⟩ = false) ∧
        (wr.cell? ⟨blk, k * 2, none⟩ = some (.string z.1) ∧ wr.cell? ⟨blk, k * 2 + 1, none⟩ = some (.int .i64 z.2) ∧ wr.frozen? ⟨blk, k * 2, none⟩ = false ∧ wr.frozen? ⟨blk, k * 2 + 1, none⟩ = false) ∧
        Wn k (swW wr blk (k + 1) k z y) ∧ Fr blk wr (swW wr blk (k + 1) k z y))) ∧
      (∀ i wr, Q i i → Wn i wr → ∃ Z, RowL wr blk (P ++ (Z ++ S)) ∧ Srt Z ∧ Eqv Z (X ++ [y])) := by
  have e0 : P ++ (X ++ (y :: S)) = (P ++ X) ++ y :: S := by simp
  have hx : at_ (P ++ (X ++ (y :: S))) m = y := by rw [e0]; exact at_mid _ _ _ _ (by simp; omega)
  have hm : ∀ k l, a ≤ k → k ≤ l → l < m → ¬ rk y < rk (at_ (P ++ (X ++ (y :: S))) l) → ¬ rk y < rk (at_ (P ++ (X ++ (y :: S))) k) := by
    intro k l h1 h2 h3 h4
    have := at_srt P X (y :: S) hsX k l (by omega) h2 (by omega)
    omega
  have hlen2 : len = a + X.length + 1 + S.length := by rw [hlen, ha]; simp; omega
  refine ⟨BS (fun k => ¬ rk y < rk (at_ (P ++ (X ++ (y :: S))) k)) a m, Wan blk P X S y, by omega, by omega, h.2, BS.start _ _ _ (by omega), ?_, ?_, ?_, ?_, ?_⟩
  · rintro i j ⟨h1, h2, h3, _⟩; exact ⟨h1, h2, h3⟩
  · intro i j hh wr hQ h1 h2 hbel
    have hq := hQ
    obtain ⟨q1, q2, q3, _⟩ := hQ
    have hrow : RowL wr blk (P ++ (X ++ (y :: S))) := RowL.keep h hbel
    have c1 := row_at hrow hh (by omega)
    have c2 := row_at hrow m (by omega)
    rw [hx] at c2
    have hin := at_in P X (y :: S) hh (by omega) (by omega)
    exact ⟨_, hsm _ (List.mem_append_left _ hin), hsm y (by simp), ⟨c2.1, c2.2.1, c1.1, c1.2.1⟩, fun hT => BS.up hm hq h1 h2 hT, fun hT => BS.down hm hq h1 h2 (fun h => h hT)⟩
  · intro wr hbel
    exact ⟨X, [], by simp, by omega, by simpa using RowL.keep h hbel⟩
  · intro k wr hW
    exact ⟨hW.lt, fun hk => hW.left (by omega)⟩
  · intro i wr hQ hW
    obtain ⟨q1, q2, q3, q4, q5⟩ := hQ
    obtain ⟨A, B, rfl, hA, hrow⟩ := hW
    obtain ⟨s1, s2, s3⟩ := hsX.parts
    have k1 : ∀ z ∈ A, rk z ≤ rk y := by
      intro z hz
      obtain ⟨A1, A2, rfl⟩ := List.append_of_mem hz
      have := q4 (P.length + A1.length) (by omega) (by simp at hA; omega)
      have e : P ++ ((A1 ++ z :: A2) ++ B ++ y :: S) = (P ++ A1) ++ z :: (A2 ++ (B ++ y :: S)) := by simp
      dsimp only at this
      rw [e, at_mid _ _ _ _ (by simp)] at this
      omega
    have k2 : ∀ z ∈ B, rk y < rk z := by
      intro z hz
      obtain ⟨A1, A2, rfl⟩ := List.append_of_mem hz
      have := q5 (P.length + A.length + A1.length) (by omega) (by simp at hm0; omega)
      have e : P ++ ((A ++ (A1 ++ z :: A2)) ++ y :: S) = (P ++ (A ++ A1)) ++ z :: (A2 ++ y :: S) := by simp
      dsimp only at this
      rw [e, at_mid _ _ _ _ (by simp; omega)] at this
      omega
    refine ⟨A ++ y :: B, by simpa using hrow, ?_, ?_⟩
    · refine s1.app (List.pairwise_cons.2 ⟨fun z hz => Nat.le_of_lt (k2 z hz), s2⟩) ?_
      intro z hz u hu
      rcases List.mem_cons.1 hu with rfl | hu
      · exact k1 z hz
      · exact s3 z hz u hu
    · have : Eqv ([y] ++ B) (B ++ [y]) := Eqv.swap (fun u hu z hz => by simp at hu; subst hu; exact Nat.ne_of_lt (k2 z hz))
      simpa using (Eqv.refl A).app this
end Go.Proofs.YtkbohoolnpaleaaGreatDoor
namespace Go.Proofs.YtkbohoolnpaleaaGreatDoor
open Go.RowKit Go.Shelf Go.Lib Go.Sort Go.Proofs
set_option maxHeartbeats 400000
set_option maxRecDepth 100000

theorem c_sym1 (blk cap : Nat) (P Y S : List KK) (x : KK) (len a m b : Nat) (hlen : len = (P ++ (x :: (Y ++ S))).length) (ha : a = P.length) (hm : m = a + 1) (hb : b = m + Y.length) (hsY : Srt Y) (hsm : Small (x :: Y)) (hsz : len ≤ 1099511627776) (w : World) (h : RowL w blk (P ++ (x :: (Y ++ S)))) :
    Calls Tryz.prog 166 #[.slice (some ⟨blk, 0, none⟩) len cap, .int .i64 (a : Int), .int .i64 (m : Int), .int .i64 (b : Int), .func (.func 104) #[] #[]] w fun e w' => e = .returned (.tuple #[]) ∧ (∃ Z, RowL w' blk (P ++ (Z ++ S)) ∧ Srt Z ∧ Eqv Z (x :: Y)) ∧ Fr blk w w' := by
  obtain ⟨Q, Wn, f1, f2, f3, f4, f5, f6, f7, f8, f9⟩ := sym1_facts blk P Y S x len a b hlen ha (by omega) hsY hsm w h
  have hone : IntKind.i64.wrap ((m : Int) - (a : Int)) = 1 := by rw [IntKind.wrap_i64]; omega
  have hmb : m ≤ b := by omega
  clear hlen ha hb hsY hsm h
  rw [← hm] at f4 f5
  have ham : a < m := by omega
  clear hm
  replace f5 := Lib.hid f5
  replace f6 := Lib.hid f6
  replace f7 := Lib.hid f7
  replace f8 := Lib.hid f8
  replace f9 := Lib.hid f9
  go_enter Tryz.func166, Tryz.ntmps166
  go_wp2
  go_loopw [10, 11] (fun vi vj wr => ∃ i j : Nat, vi = .int .i64 (i : Int) ∧ vj = .int .i64 (j : Int) ∧ Q i j ∧ Below w.heap.size w wr) (fun vi vj _ => (intOf vj).toNat - (intOf vi).toNat)
  case atStart => exact ⟨m, b, rfl, rfl, f4, Below.refl _ _⟩
  case round =>
    obtain ⟨i, j, rfl, rfl, hQ, hbel⟩ := hrel
    obtain ⟨g1, g2, g3⟩ := f5.out _ _ hQ
    rcases Nat.lt_or_ge i j with hij | hij
    · have hi' : (i : Int) < (j : Int) := by omega
      obtain ⟨hh, he, hih, hhj⟩ : ∃ hh : Nat, ((i : Int) + (j : Int)) / 2 = (hh : Int) ∧ i ≤ hh ∧ hh < j := ⟨(i + j) / 2, by omega, by omega, by omega⟩
      obtain ⟨z, hzs, hxs, hc, hup, hdn⟩ := f6.out _ _ _ _ hQ hih hhj hbel
      have hB : blk < wr.heap.size := Nat.lt_of_lt_of_le f3 hbel.size
      have hS0 : wr.drew.cell? ⟨blk, hh * 2, none⟩ = some (.string z.1) ∧ wr.drew.cell? ⟨blk, hh * 2 + 1, none⟩ = some (.int .i64 z.2) ∧ wr.drew.cell? ⟨blk, a * 2, none⟩ = some (.string x.1) ∧ wr.drew.cell? ⟨blk, a * 2 + 1, none⟩ = some (.int .i64 x.2) ∧ Below wr.heap.size wr wr.drew := ⟨hc.1, hc.2.1, hc.2.2.1, hc.2.2.2, (Below.refl _ _).drew⟩
      have hO := fun y => Lib.hid (c_OrderF z.1 x.1 z.2 x.2 hzs hxs y)
      unfold keyV at hO
      have hlt2 := cmpZ_lt (rankK z.1 z.2) (rankK x.1 x.2)
      generalize hR : cmpZ (rankK z.1 z.2) (rankK x.1 x.2) = Rz at hO hlt2
      replace hup := Lib.hid hup
      replace hdn := Lib.hid hdn
      have hbel := Lib.hid hbel
      clear hQ hR hc
      have hhl : (hh : Int) < (len : Int) := by omega
      have hal : (a : Int) < (len : Int) := by omega
      by_cases hlv : Rz < 0
      · have hlv' := Lib.hid (hlt2.1 hlv)
        clear hlt2
        go_wp2_with fail
        go_region_held3 (fun y => y.cell? ⟨blk, hh * 2, none⟩ = some (.string z.1) ∧ y.cell? ⟨blk, hh * 2 + 1, none⟩ = some (.int .i64 z.2) ∧ y.cell? ⟨blk, a * 2, none⟩ = some (.string x.1) ∧ y.cell? ⟨blk, a * 2 + 1, none⟩ = some (.int .i64 x.2) ∧ Below wr.heap.size wr y) (first | assumption | exact peek_keep hB (by assumption) (by assumption)) (first | (go_at_call 104; refine (hO _).out.mono ?_; rintro e y' ⟨rfl, hb⟩))
        obtain ⟨d1, d2, d3, d4, hbel2⟩ := peek_keep hB hS0 hb
        have s1 := Lib.hid (hup.out hlv'.out)
        have s2 := Lib.hid (below_after hbel.out hbel2)
        clear hS0 hb hbel2 hB d1 d2 d3 d4
        go_wp2
        go_roundw
        case rel => exact ⟨hh + 1, j, by go_num, rfl, s1.out, s2.out⟩
        case measure => simp [intOf]; omega
      · have hle := Lib.hid (fun h => hlv (hlt2.2 h))
        have hlv2 : (0 : Int) ≤ Rz := by omega
        clear hlt2
        go_wp2_with fail
        go_region_held3 (fun y => y.cell? ⟨blk, hh * 2, none⟩ = some (.string z.1) ∧ y.cell? ⟨blk, hh * 2 + 1, none⟩ = some (.int .i64 z.2) ∧ y.cell? ⟨blk, a * 2, none⟩ = some (.string x.1) ∧ y.cell? ⟨blk, a * 2 + 1, none⟩ = some (.int .i64 x.2) ∧ Below wr.heap.size wr y) (first | assumption | exact peek_keep hB (by assumption) (by assumption)) (first | (go_at_call 104; refine (hO _).out.mono ?_; rintro e y' ⟨rfl, hb⟩))
        obtain ⟨d1, d2, d3, d4, hbel2⟩ := peek_keep hB hS0 hb
        have s1 := Lib.hid (hdn.out hle.out)
        have s2 := Lib.hid (below_after hbel.out hbel2)
        clear hS0 hb hbel2 hB d1 d2 d3 d4
        go_wp2
        go_roundw
        case rel => exact ⟨i, hh, rfl, by go_num, s1.out, s2.out⟩
        case measure => simp [intOf]; omega
    · obtain rfl : i = j := by omega
      have hW0 := Lib.hid (f7.out _ hbel)
      have hfr0 := Lib.hid (Fr.below (blk := blk) hbel)
      have hQ := Lib.hid hQ
      have hi1 : 1 ≤ i := by omega
      clear hbel
      go_wp2
      go_loopw [13] (fun vk wr2 => ∃ k : Nat, vk = .int .i64 (k : Int) ∧ k + 1 ≤ i ∧ Wn k wr2 ∧ Fr blk w wr2) (fun vk _ => i - (intOf vk).toNat)
      case atStart => exact ⟨a, rfl, by omega, hW0.out, hfr0.out⟩
      case round =>
        obtain ⟨k, rfl, hki, hW, hfr⟩ := hrel
        clear hW0 hfr0
        rcases Nat.lt_or_ge (k + 1) i with hlt | hge
        · obtain ⟨hB, hmv⟩ := f8.out _ _ hW
          obtain ⟨z, hc1, hc2, hw1, hw2⟩ := hmv (by omega)
          obtain ⟨c1, c2, c3, c4⟩ := hc1
          obtain ⟨c5, c6, c7, c8⟩ := hc2
          replace hw1 := Lib.hid hw1
          replace hw2 := Lib.hid hw2
          have mixed : Tryz.prog.follows Departure.mixedOrders = true := by kernel_rfl
          have n1 : ¬ (k + 1) * 2 = k * 2 := by omega
          have n2 : ¬ (k + 1) * 2 = k * 2 + 1 := by omega
          have n3 : ¬ (k + 1) * 2 + 1 = k * 2 := by omega
          have n4 : ¬ k * 2 = (k + 1) * 2 := by omega
          have n5 : ¬ k * 2 = (k + 1) * 2 + 1 := by omega
          have n6 : ¬ k * 2 + 1 = (k + 1) * 2 := by omega
          have q1 : IntKind.i64.wrap ((i : Int) - 1) = (i : Int) - 1 := by rw [IntKind.wrap_i64]; omega
          have q2 : (k : Int) < (i : Int) - 1 := by omega
          have q3 : (k : Int) < (len : Int) := by omega
          have q4 : (k : Int) + 1 < (len : Int) := by omega
          have q5 : (0 : Int) ≤ (k : Int) + 1 := by omega
          have q6 : ((k : Int) + 1).toNat = k + 1 := by omega
          clear hmv hW hB
          go_wp2
          go_big_region_o
          all_goals go_wp2
          go_roundw
          case rel => exact ⟨k + 1, by go_num, by omega, hw1.out, hfr.trans hw2.out⟩
          case measure => simp [intOf]; omega
        · have hk : i - 1 = k := by omega
          have hZ := Lib.hid (f9.out _ _ hQ.out (hk.symm ▸ hW))
          have q1 : IntKind.i64.wrap ((i : Int) - 1) = (i : Int) - 1 := by rw [IntKind.wrap_i64]; omega
          have q2 : ¬ (k : Int) < (i : Int) - 1 := by omega
          clear hW hk
          go_wp2
          refine bodyPost_ret (results_none rfl _ _ _) rfl ?_
          exact ⟨rfl, hZ.out, hfr⟩
theorem c_sym2 (blk cap : Nat) (P X S : List KK) (x : KK) (len a m b : Nat) (hlen : len = (P ++ (X ++ (x :: S))).length) (ha : a = P.length) (hm : m = a + X.length) (hX : X.length ≠ 1) (hb : b = m + 1) (hsX : Srt X) (hsm : Small (X ++ [x])) (hsz : len ≤ 1099511627776) (w : World) (h : RowL w blk (P ++ (X ++ (x :: S)))) :
    Calls Tryz.prog 166 #[.slice (some ⟨blk, 0, none⟩) len cap, .int .i64 (a : Int), .int .i64 (m : Int), .int .i64 (b : Int), .func (.func 104) #[] #[]] w fun e w' => e = .returned (.tuple #[]) ∧ (∃ Z, RowL w' blk (P ++ (Z ++ S)) ∧ Srt Z ∧ Eqv Z (X ++ [x])) ∧ Fr blk w w' := by
  obtain ⟨Q, Wn, f1, f2, f3, f4, f5, f6, f7, f8, f9⟩ := sym2_facts blk P X S x len a m b hlen ha hm hb hsX hsm w h
  have hone0 : IntKind.i64.wrap ((m : Int) - (a : Int)) = (m : Int) - a := by rw [IntKind.wrap_i64]; omega
  have hone1 : ((m : Int) - a == 1) = false := by simp; omega
  have hone : IntKind.i64.wrap ((b : Int) - (m : Int)) = 1 := by rw [IntKind.wrap_i64]; omega
  clear hlen ha hb hsX hsm h hm hX
  replace f5 := Lib.hid f5
  replace f6 := Lib.hid f6
  replace f7 := Lib.hid f7
  replace f8 := Lib.hid f8
  replace f9 := Lib.hid f9
  go_enter Tryz.func166, Tryz.ntmps166
  go_wp2
  go_loopw [14, 15] (fun vi vj wr => ∃ i j : Nat, vi = .int .i64 (i : Int) ∧ vj = .int .i64 (j : Int) ∧ Q i j ∧ Below w.heap.size w wr) (fun vi vj _ => (intOf vj).toNat - (intOf vi).toNat)
  case atStart => exact ⟨a, m, rfl, rfl, f4, Below.refl _ _⟩
  case round =>
    obtain ⟨i, j, rfl, rfl, hQ, hbel⟩ := hrel
    obtain ⟨g1, g2, g3⟩ := f5.out _ _ hQ
    rcases Nat.lt_or_ge i j with hij | hij
    · have hi' : (i : Int) < (j : Int) := by omega
      obtain ⟨hh, he, hih, hhj⟩ : ∃ hh : Nat, ((i : Int) + (j : Int)) / 2 = (hh : Int) ∧ i ≤ hh ∧ hh < j := ⟨(i + j) / 2, by omega, by omega, by omega⟩
      obtain ⟨z, hzs, hxs, hc, hup, hdn⟩ := f6.out _ _ _ _ hQ hih hhj hbel
      have hB : blk < wr.heap.size := Nat.lt_of_lt_of_le f3 hbel.size
      have hS0 : wr.drew.cell? ⟨blk, m * 2, none⟩ = some (.string x.1) ∧ wr.drew.cell? ⟨blk, m * 2 + 1, none⟩ = some (.int .i64 x.2) ∧ wr.drew.cell? ⟨blk, hh * 2, none⟩ = some (.string z.1) ∧ wr.drew.cell? ⟨blk, hh * 2 + 1, none⟩ = some (.int .i64 z.2) ∧ Below wr.heap.size wr wr.drew := ⟨hc.1, hc.2.1, hc.2.2.1, hc.2.2.2, (Below.refl _ _).drew⟩
      have hO := fun y => Lib.hid (c_OrderF x.1 z.1 x.2 z.2 hxs hzs y)
      unfold keyV at hO
      have hlt2 := cmpZ_lt (rankK x.1 x.2) (rankK z.1 z.2)
      generalize hR : cmpZ (rankK x.1 x.2) (rankK z.1 z.2) = Rz at hO hlt2
      replace hup := Lib.hid hup
      replace hdn := Lib.hid hdn
      have hbel := Lib.hid hbel
      clear hQ hR hc
      have hhl : (hh : Int) < (len : Int) := by omega
      have hal : (m : Int) < (len : Int) := by omega
      by_cases hlv : Rz < 0
      · have hlv' := Lib.hid (hlt2.1 hlv)
        clear hlt2
        go_wp2_with fail
        go_region_held3 (fun y => y.cell? ⟨blk, m * 2, none⟩ = some (.string x.1) ∧ y.cell? ⟨blk, m * 2 + 1, none⟩ = some (.int .i64 x.2) ∧ y.cell? ⟨blk, hh * 2, none⟩ = some (.string z.1) ∧ y.cell? ⟨blk, hh * 2 + 1, none⟩ = some (.int .i64 z.2) ∧ Below wr.heap.size wr y) (first | assumption | exact peek_keep hB (by assumption) (by assumption)) (first | (go_at_call 104; refine (hO _).out.mono ?_; rintro e y' ⟨rfl, hb⟩))
        obtain ⟨d1, d2, d3, d4, hbel2⟩ := peek_keep hB hS0 hb
        have s1 := Lib.hid (hdn.out hlv'.out)
        have s2 := Lib.hid (below_after hbel.out hbel2)
        clear hS0 hb hbel2 hB d1 d2 d3 d4
        go_wp2
        go_roundw
        case rel => exact ⟨i, hh, rfl, by go_num, s1.out, s2.out⟩
        case measure => simp [intOf]; omega
      · have hle := Lib.hid (fun h => hlv (hlt2.2 h))
        have hlv2 : decide (Rz < 0) = false := decide_eq_false hlv
        clear hlt2 hlv
        go_wp2_with fail
        go_region_held3 (fun y => y.cell? ⟨blk, m * 2, none⟩ = some (.string x.1) ∧ y.cell? ⟨blk, m * 2 + 1, none⟩ = some (.int .i64 x.2) ∧ y.cell? ⟨blk, hh * 2, none⟩ = some (.string z.1) ∧ y.cell? ⟨blk, hh * 2 + 1, none⟩ = some (.int .i64 z.2) ∧ Below wr.heap.size wr y) (first | assumption | exact peek_keep hB (by assumption) (by assumption)) (first | (go_at_call 104; refine (hO _).out.mono ?_; rintro e y' ⟨rfl, hb⟩))
        obtain ⟨d1, d2, d3, d4, hbel2⟩ := peek_keep hB hS0 hb
        have s1 := Lib.hid (hup.out hle.out)
        have s2 := Lib.hid (below_after hbel.out hbel2)
        clear hS0 hb hbel2 hB d1 d2 d3 d4
        go_wp2
        go_roundw
        case rel => exact ⟨hh + 1, j, by go_num, rfl, s1.out, s2.out⟩
        case measure => simp [intOf]; omega
    · obtain rfl : i = j := by omega
      have hW0 := Lib.hid (f7.out _ hbel)
      have hfr0 := Lib.hid (Fr.below (blk := blk) hbel)
      have hQ := Lib.hid hQ
      clear hbel
      go_wp2
      go_loopw [17] (fun vk wr2 => ∃ k : Nat, vk = .int .i64 (k : Int) ∧ i ≤ k ∧ k ≤ m ∧ Wn k wr2 ∧ Fr blk w wr2) (fun vk _ => (intOf vk).toNat)
      case atStart => exact ⟨m, rfl, by omega, by omega, hW0.out, hfr0.out⟩
      case round =>
        obtain ⟨k, rfl, hik, hkm, hW, hfr⟩ := hrel
        clear hW0 hfr0
        rcases Nat.lt_or_ge i k with hlt | hge
        · obtain ⟨k, rfl⟩ : ∃ k', k = k' + 1 := ⟨k - 1, by omega⟩
          obtain ⟨hB, hmv⟩ := f8.out _ _ hW
          obtain ⟨z, hc1, hc2, hw1, hw2⟩ := hmv (by omega)
          obtain ⟨c1, c2, c3, c4⟩ := hc1
          obtain ⟨c5, c6, c7, c8⟩ := hc2
          replace hw1 := Lib.hid hw1
          replace hw2 := Lib.hid hw2
          have mixed : Tryz.prog.follows Departure.mixedOrders = true := by kernel_rfl
          have n1 : ¬ (k + 1) * 2 = k * 2 := by omega
          have n2 : ¬ (k + 1) * 2 = k * 2 + 1 := by omega
          have n3 : ¬ (k + 1) * 2 + 1 = k * 2 := by omega
          have n4 : ¬ k * 2 = (k + 1) * 2 := by omega
          have n5 : ¬ k * 2 = (k + 1) * 2 + 1 := by omega
          have n6 : ¬ k * 2 + 1 = (k + 1) * 2 := by omega
          have q0 : (i : Int) < (k : Int) + 1 := by omega
          have q1 : IntKind.i64.wrap (k : Int) = (k : Int) := by rw [IntKind.wrap_i64]; omega
          have q3 : (k : Int) < (len : Int) := by omega
          have q4 : (k : Int) + 1 < (len : Int) := by omega
          have q5 : (0 : Int) ≤ (k : Int) + 1 := by omega
          have q6 : ((k : Int) + 1).toNat = k + 1 := by omega
          clear hmv hW hB
          go_wp2
          go_big_region_o
          all_goals go_wp2
          go_roundw
          case rel => exact ⟨k, by go_num, by omega, by omega, hw1.out, hfr.trans hw2.out⟩
          case measure => simp [intOf]
        · obtain rfl : k = i := by omega
          have hZ := Lib.hid (f9.out _ _ hQ.out hW)
          clear hW
          go_wp2
          refine bodyPost_ret (results_none rfl _ _ _) rfl ?_
          exact ⟨rfl, hZ.out, hfr⟩
end Go.Proofs.YtkbohoolnpaleaaGreatDoor
namespace Go.Proofs.YtkbohoolnpaleaaGreatDoor
open Go.RowKit Go.Shelf Go.Lib Go.Sort Go.Proofs
set_option maxHeartbeats 400000
set_option maxRecDepth 100000

theorem head_le {l : List KK} {x y : KK} {A B : List KK} (hs : Srt l) (e : l = A ++ x :: B) (hy : y ∈ x :: B) : rk x ≤ rk y := by
  subst e
  rcases List.mem_cons.1 hy with rfl | hy
  · exact Nat.le_refl _
  · exact (List.pairwise_cons.1 (hs.parts.2.1)).1 y hy
theorem last_ge {l : List KK} {x y : KK} {A B : List KK} (hs : Srt l) (e : l = A ++ x :: B) (hy : y ∈ A ++ [x]) : rk y ≤ rk x := by
  subst e
  rcases List.mem_append.1 hy with hy | hy
  · exact hs.parts.2.2 y hy x (by simp)
  · simp at hy; subst hy; exact Nat.le_refl _
theorem sym3_facts (blk : Nat) (P X Y S : List KK) (len a m b mid lo hi : Nat) (hlen : len = (P ++ (X ++ (Y ++ S))).length) (ha : a = P.length) (hm0 : m = a + X.length) (hb : b = m + Y.length)
    (hlo : a ≤ lo) (hlh : lo ≤ hi) (hhi : hi ≤ m) (h1 : m ≤ mid + m - hi) (h2 : mid + m - lo ≤ b) (h3 : lo = a ∨ mid + m - lo = b) (h4 : hi = m ∨ mid + m - hi = m)
    (hsX : Srt X) (hsY : Srt Y) (hsm : Small (X ++ Y)) (w : World) (h : RowL w blk (P ++ (X ++ (Y ++ S)))) :
    ∃ Q : Nat → Nat → Prop, b ≤ len ∧ blk < w.heap.size ∧ Q lo hi ∧
      (∀ i j, Q i j → lo ≤ i ∧ i ≤ j ∧ j ≤ hi) ∧
      (∀ i j c q wr, Q i j → i ≤ c → c < j → q = mid + m - 1 - c → Below w.heap.size w wr → ∃ y x : KK, y.1.size ≤ 1099511627776 ∧ x.1.size ≤ 1099511627776 ∧
        (wr.cell? ⟨blk, q * 2, none⟩ = some (.string y.1) ∧ wr.cell? ⟨blk, q * 2 + 1, none⟩ = some (.int .i64 y.2) ∧ wr.cell? ⟨blk, c * 2, none⟩ = some (.string x.1) ∧ wr.cell? ⟨blk, c * 2 + 1, none⟩ = some (.int .i64 x.2)) ∧
        (¬ rk y < rk x → Q (c + 1) j) ∧ (rk y < rk x → Q i c)) ∧
      (∀ st, Q st st → ∃ X1 X2 Y1 Y2, X = X1 ++ X2 ∧ Y = Y1 ++ Y2 ∧ st = a + X1.length ∧ mid + m - st = m + Y1.length ∧ (∀ x ∈ X1, ∀ y ∈ Y2, rk x ≤ rk y) ∧ (∀ y ∈ Y1, ∀ x ∈ X2, rk y < rk x)) := by
  have e0 : P ++ (X ++ (Y ++ S)) = (P ++ X) ++ (Y ++ S) := by simp
  have hlen2 : len = a + X.length + Y.length + S.length := by rw [hlen, ha]; simp; omega
  have hmono : ∀ k l, lo ≤ k → k ≤ l → l < hi → ¬ rk (at_ (P ++ (X ++ (Y ++ S))) (mid + m - 1 - l)) < rk (at_ (P ++ (X ++ (Y ++ S))) l) → ¬ rk (at_ (P ++ (X ++ (Y ++ S))) (mid + m - 1 - k)) < rk (at_ (P ++ (X ++ (Y ++ S))) k) := by
    intro k l q1 q2 q3 q4
    have a1 := at_srt P X (Y ++ S) hsX k l (by omega) q2 (by omega)
    have a2 := at_srt (P ++ X) Y S hsY (mid + m - 1 - l) (mid + m - 1 - k) (by simp; omega) (by omega) (by simp; omega)
    rw [← e0] at a2
    omega
  refine ⟨BS (fun c => ¬ rk (at_ (P ++ (X ++ (Y ++ S))) (mid + m - 1 - c)) < rk (at_ (P ++ (X ++ (Y ++ S))) c)) lo hi, by omega, h.2, BS.start _ _ _ hlh, ?_, ?_, ?_⟩
  · rintro i j ⟨q1, q2, q3, _⟩; exact ⟨q1, q2, q3⟩
  · intro i j c q wr hQ k1 k2 hq hbel
    have hq' := hQ
    obtain ⟨q1, q2, q3, _⟩ := hQ
    have hrow : RowL wr blk (P ++ (X ++ (Y ++ S))) := RowL.keep h hbel
    have c1 := row_at hrow c (by omega)
    have c2 := row_at hrow q (by omega)
    have hin1 := at_in P X (Y ++ S) c (by omega) (by omega)
    have hin2 := at_in (P ++ X) Y S q (by simp; omega) (by simp; omega)
    rw [← e0] at hin2
    refine ⟨_, _, hsm _ (List.mem_append_right _ hin2), hsm _ (List.mem_append_left _ hin1), ⟨c2.1, c2.2.1, c1.1, c1.2.1⟩, fun hT => BS.up hmono hq' k1 k2 (by rw [← hq]; exact hT), fun hT => BS.down hmono hq' k1 k2 (by rw [← hq]; exact fun h => h hT)⟩
  · intro st hQ
    obtain ⟨q1, q2, q3, q4, q5⟩ := hQ
    obtain ⟨X1, X2, rfl, hX1⟩ := split_at X (st - a) (by omega)
    obtain ⟨Y1, Y2, rfl, hY1⟩ := split_at Y (mid - st) (by omega)
    refine ⟨X1, X2, Y1, Y2, rfl, rfl, by omega, by omega, ?_, ?_⟩
    · intro x hx y hy
      obtain ⟨A, x', rfl⟩ : ∃ A x', X1 = A ++ [x'] := ⟨X1.dropLast, X1.getLast (by intro hn; subst hn; simp at hx), (List.dropLast_concat_getLast _).symm⟩
      cases Y2 with
      | nil => simp at hy
      | cons y' B =>
        have g1 := last_ge (A := A) (x := x') (B := X2) hsX (by simp) hx
        have g2 := head_le (A := Y1) (x := y') (B := B) hsY rfl hy
        simp only [List.length_append, List.length_cons, List.length_nil] at *
        have g3 := q4 (st - 1) (by omega) (by omega)
        have e1 : P ++ (A ++ [x'] ++ X2 ++ (Y1 ++ y' :: B ++ S)) = (P ++ A) ++ x' :: (X2 ++ (Y1 ++ y' :: B ++ S)) := by simp
        have e2 : P ++ (A ++ [x'] ++ X2 ++ (Y1 ++ y' :: B ++ S)) = (P ++ A ++ [x'] ++ X2 ++ Y1) ++ y' :: (B ++ S) := by simp
        have i1 : at_ (P ++ (A ++ [x'] ++ X2 ++ (Y1 ++ y' :: B ++ S))) (st - 1) = x' := by rw [e1]; exact at_mid _ _ _ _ (by simp; omega)
        have i2 : at_ (P ++ (A ++ [x'] ++ X2 ++ (Y1 ++ y' :: B ++ S))) (mid + m - 1 - (st - 1)) = y' := by rw [e2]; exact at_mid _ _ _ _ (by simp; omega)
        rw [i1, i2] at g3
        omega
    · intro y hy x hx
      obtain ⟨A, y', rfl⟩ : ∃ A y', Y1 = A ++ [y'] := ⟨Y1.dropLast, Y1.getLast (by intro hn; subst hn; simp at hy), (List.dropLast_concat_getLast _).symm⟩
      cases X2 with
      | nil => simp at hx
      | cons x' B =>
        have g1 := last_ge (A := A) (x := y') (B := Y2) hsY (by simp) hy
        have g2 := head_le (A := X1) (x := x') (B := B) hsX rfl hx
        simp only [List.length_append, List.length_cons, List.length_nil] at *
        have g3 := q5 st (by omega) (by omega)
        have e1 : P ++ (X1 ++ x' :: B ++ (A ++ [y'] ++ Y2 ++ S)) = (P ++ X1) ++ x' :: (B ++ (A ++ [y'] ++ Y2 ++ S)) := by simp
        have e2 : P ++ (X1 ++ x' :: B ++ (A ++ [y'] ++ Y2 ++ S)) = (P ++ (X1 ++ x' :: B ++ A)) ++ y' :: (Y2 ++ S) := by simp
        have i1 : at_ (P ++ (X1 ++ x' :: B ++ (A ++ [y'] ++ Y2 ++ S))) st = x' := by rw [e1]; exact at_mid _ _ _ _ (by simp; omega)
        have i2 : at_ (P ++ (X1 ++ x' :: B ++ (A ++ [y'] ++ Y2 ++ S))) (mid + m - 1 - st) = y' := by rw [e2]; exact at_mid _ _ _ _ (by simp; omega)
        rw [i1, i2] at g3
        omega
/-- merging is understood for runs shorter than N -/
def SymOK (N : Nat) : Prop := ∀ (blk cap : Nat) (P X Y S : List KK) (len a m b : Nat) (w : World), X.length + Y.length < N → len = (P ++ (X ++ (Y ++ S))).length → a = P.length → m = a + X.length → b = m + Y.length → 0 < X.length → 0 < Y.length → Srt X → Srt Y → Small (X ++ Y) → len ≤ 1099511627776 → RowL w blk (P ++ (X ++ (Y ++ S))) →
    Calls Tryz.prog 166 #[.slice (some ⟨blk, 0, none⟩) len cap, .int .i64 (a : Int), .int .i64 (m : Int), .int .i64 (b : Int), .func (.func 104) #[] #[]] w fun e w' => e = .returned (.tuple #[]) ∧ (∃ Z, RowL w' blk (P ++ (Z ++ S)) ∧ Srt Z ∧ Eqv Z (X ++ Y)) ∧ Fr blk w w'
theorem Eqv.small {a b : List KK} (h : Eqv a b) (k : Small b) : Small a := fun x hx => k x (h.mem hx)
theorem sym3_stage (f : Value) (hf : f = .func (.func 104) #[] #[]) (blk cap : Nat) (P X1 X2 Y1 Y2 S : List KK) (len a st m en b mid : Nat) (hrec : SymOK ((X1 ++ X2).length + (Y1 ++ Y2).length)) (hlen : len = (P ++ (X1 ++ X2 ++ (Y1 ++ Y2 ++ S))).length)
    (ha : a = P.length) (hst : st = a + X1.length) (hm : m = st + X2.length) (hen : en = m + Y1.length) (hb : b = en + Y2.length) (hmid : mid = st + Y1.length) (ham : a < mid) (hmb : mid < b)
    (hsX : Srt (X1 ++ X2)) (hsY : Srt (Y1 ++ Y2)) (hsm : Small (X1 ++ X2 ++ (Y1 ++ Y2))) (h12 : ∀ x ∈ X1, ∀ y ∈ Y2, rk x ≤ rk y) (h21 : ∀ y ∈ Y1, ∀ x ∈ X2, rk y < rk x) (hsz : len ≤ 1099511627776) :
    ∃ S1 S2 S3 : World → Prop,
      (∀ w, RowL w blk (P ++ (X1 ++ X2 ++ (Y1 ++ Y2 ++ S))) → (st < m → m < en → ∀ za zb zc : Int, za = st → zb = m → zc = en → Calls Tryz.prog 173 #[.slice (some ⟨blk, 0, none⟩) len cap, .int .i64 za, .int .i64 zb, .int .i64 zc, f] w fun e w' => e = .returned (.tuple #[]) ∧ S1 w' ∧ Fr blk w w') ∧ (¬ (st < m ∧ m < en) → S1 w)) ∧
      (∀ w, S1 w → (a < st → st < mid → ∀ za zb zc : Int, za = a → zb = st → zc = mid → Calls Tryz.prog 166 #[.slice (some ⟨blk, 0, none⟩) len cap, .int .i64 za, .int .i64 zb, .int .i64 zc, f] w fun e w' => e = .returned (.tuple #[]) ∧ S2 w' ∧ Fr blk w w') ∧ (¬ (a < st ∧ st < mid) → S2 w)) ∧
      (∀ w, S2 w → (mid < en → en < b → ∀ za zb zc : Int, za = mid → zb = en → zc = b → Calls Tryz.prog 166 #[.slice (some ⟨blk, 0, none⟩) len cap, .int .i64 za, .int .i64 zb, .int .i64 zc, f] w fun e w' => e = .returned (.tuple #[]) ∧ S3 w' ∧ Fr blk w w') ∧ (¬ (mid < en ∧ en < b) → S3 w)) ∧
      (∀ w, S3 w → ∃ Z, RowL w blk (P ++ (Z ++ S)) ∧ Srt Z ∧ Eqv Z (X1 ++ X2 ++ (Y1 ++ Y2))) := by
  subst hf
  obtain ⟨x1, x2, x3⟩ := hsX.parts
  obtain ⟨y1, y2, y3⟩ := hsY.parts
  simp only [List.length_append] at hrec hlen
  refine ⟨fun w => RowL w blk (P ++ (X1 ++ (Y1 ++ (X2 ++ (Y2 ++ S))))), fun w => ∃ Z1, Srt Z1 ∧ Eqv Z1 (X1 ++ Y1) ∧ RowL w blk (P ++ (Z1 ++ (X2 ++ (Y2 ++ S)))), fun w => ∃ Z1 Z2, Srt Z1 ∧ Eqv Z1 (X1 ++ Y1) ∧ Srt Z2 ∧ Eqv Z2 (X2 ++ Y2) ∧ RowL w blk (P ++ (Z1 ++ (Z2 ++ S))), ?_, ?_, ?_, ?_⟩
  · intro w h
    constructor
    · rintro k1 k2 _ _ _ rfl rfl rfl
      have e : P ++ (X1 ++ X2 ++ (Y1 ++ Y2 ++ S)) = (P ++ X1) ++ (X2 ++ (Y1 ++ (Y2 ++ S))) := by simp
      rw [e] at h
      refine (c_rotate (.func (.func 104) #[] #[]) blk cap (P ++ X1) X2 Y1 (Y2 ++ S) len st m en (by simp; omega) (by simp; omega) (by omega) (by omega) (by omega) (by omega) hsz w h).mono ?_
      rintro e w1 ⟨rfl, q1, q2⟩
      exact ⟨rfl, by simpa using q1, q2⟩
    · intro hn
      by_cases k1 : st < m
      · have : Y1 = [] := List.length_eq_zero_iff.1 (by omega)
        subst this; simpa using h
      · have : X2 = [] := List.length_eq_zero_iff.1 (by omega)
        subst this; simpa using h
  · intro w h
    constructor
    · rintro k1 k2 _ _ _ rfl rfl rfl
      refine (hrec blk cap P X1 Y1 (X2 ++ (Y2 ++ S)) len a st mid w (by omega) (by simp; omega) ha hst hmid (by omega) (by omega) x1 y1 (fun x hx => hsm x (by simp at hx ⊢; rcases hx with hx | hx <;> simp [hx])) hsz h).mono ?_
      rintro e w1 ⟨rfl, ⟨Z1, q1, q2, q3⟩, q4⟩
      exact ⟨rfl, ⟨Z1, q2, q3, q1⟩, q4⟩
    · intro hn
      refine ⟨X1 ++ Y1, ?_, Eqv.refl _, by simpa using h⟩
      by_cases k1 : a < st
      · have : Y1 = [] := List.length_eq_zero_iff.1 (by omega)
        subst this; simpa using x1
      · have : X1 = [] := List.length_eq_zero_iff.1 (by omega)
        subst this; simpa using y1
  · rintro w ⟨Z1, s1, s2, h⟩
    have hl := s2.len
    simp only [List.length_append] at hl
    constructor
    · rintro k1 k2 _ _ _ rfl rfl rfl
      rw [← List.append_assoc P Z1] at h
      refine (hrec blk cap (P ++ Z1) X2 Y2 S len mid en b w (by omega) (by simp; omega) (by simp; omega) (by omega) (by omega) (by omega) (by omega) x2 y2 (fun x hx => hsm x (by simp at hx ⊢; rcases hx with hx | hx <;> simp [hx])) hsz h).mono ?_
      rintro e w1 ⟨rfl, ⟨Z2, q1, q2, q3⟩, q4⟩
      exact ⟨rfl, ⟨Z1, Z2, s1, s2, q2, q3, by simpa using q1⟩, q4⟩
    · intro hn
      refine ⟨Z1, X2 ++ Y2, s1, s2, ?_, Eqv.refl _, by simpa using h⟩
      by_cases k1 : mid < en
      · have : Y2 = [] := List.length_eq_zero_iff.1 (by omega)
        subst this; simpa using x2
      · have : X2 = [] := List.length_eq_zero_iff.1 (by omega)
        subst this; simpa using y2
  · rintro w ⟨Z1, Z2, s1, s2, s3, s4, h⟩
    refine ⟨Z1 ++ Z2, by simpa using h, ?_, ?_⟩
    · refine s1.app s3 ?_
      intro x hx y hy
      have hx := s2.mem hx
      have hy := s4.mem hy
      rcases List.mem_append.1 hx with hx | hx <;> rcases List.mem_append.1 hy with hy | hy
      · exact x3 x hx y hy
      · exact h12 x hx y hy
      · exact Nat.le_of_lt (h21 x hx y hy)
      · exact y3 x hx y hy
    · refine (s2.app s4).trans ?_
      have : Eqv (Y1 ++ X2) (X2 ++ Y1) := Eqv.swap (fun y hy x hx => Nat.ne_of_lt (h21 y hy x hx))
      have := (Eqv.refl X1).app (this.app (Eqv.refl Y2))
      simpa using this
end Go.Proofs.YtkbohoolnpaleaaGreatDoor

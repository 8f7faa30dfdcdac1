/-
  Merging two runs: the contract of slices.symMergeCmpFunc, its two short cases.
-/
import Derived.Test.YtbodfdmmfaampaaGreatDoorS3
namespace Go.Proofs.YtbodfdmmfaampaaGreatDoor
open Go.RowKit Go.Shelf Go.Lib Go.Sort Go.Proofs
set_option maxHeartbeats 400000
set_option maxRecDepth 100000

theorem RowL.keep {w w' : World} {blk : Nat} {l : List KK} (h : RowL w blk l) (hb : Below w.heap.size w w') : RowL w' blk l := RowK.keep h hb
/-- a search between i and j for the first place at which T falls -/
def BS (T : Nat → Prop) (lo hi i j : Nat) : Prop := lo ≤ i ∧ i ≤ j ∧ j ≤ hi ∧ (∀ k, lo ≤ k → k < i → T k) ∧ (∀ k, j ≤ k → k < hi → ¬ T k)
theorem BS.start (T : Nat → Prop) (lo hi : Nat) (h : lo ≤ hi) : BS T lo hi lo hi := ⟨Nat.le_refl _, h, Nat.le_refl _, fun k h1 h2 => by omega, fun k h1 h2 => by omega⟩
theorem BS.up {T : Nat → Prop} {lo hi i j h : Nat} (hm : ∀ k l, lo ≤ k → k ≤ l → l < hi → T l → T k) (hs : BS T lo hi i j) (h1 : i ≤ h) (h2 : h < j) (hT : T h) : BS T lo hi (h + 1) j := by
  obtain ⟨a, b, c, d, e⟩ := hs
  exact ⟨by omega, by omega, c, fun k h3 h4 => hm k h h3 (by omega) (by omega) hT, e⟩
theorem BS.down {T : Nat → Prop} {lo hi i j h : Nat} (hm : ∀ k l, lo ≤ k → k ≤ l → l < hi → T l → T k) (hs : BS T lo hi i j) (h1 : i ≤ h) (h2 : h < j) (hT : ¬ T h) : BS T lo hi i h := by
  obtain ⟨a, b, c, d, e⟩ := hs
  exact ⟨a, h1, by omega, d, fun k h3 h4 hk => hT (hm h k (by omega) h3 h4 hk)⟩
/-- an element of a list, by its place -/
def at_ (l : List KK) (k : Nat) : KK := l.toArray[k]!
theorem at_mid (P Q : List KK) (x : KK) (i : Nat) (hi : i = P.length) : at_ (P ++ x :: Q) i = x := by subst hi; simp [at_]
theorem at_in (P R S : List KK) (i : Nat) (h1 : P.length ≤ i) (h2 : i < P.length + R.length) : at_ (P ++ (R ++ S)) i ∈ R := by
  obtain ⟨A, B, rfl, hA⟩ := split_at R (i - P.length) (by omega)
  cases B with
  | nil => simp at h2; omega
  | cons x B =>
    have e : P ++ (A ++ x :: B ++ S) = (P ++ A) ++ x :: (B ++ S) := by simp
    rw [e, at_mid _ _ _ i (by simp; omega)]
    simp
theorem at_srt (P R S : List KK) (hs : Srt R) (i j : Nat) (h1 : P.length ≤ i) (h2 : i ≤ j) (h3 : j < P.length + R.length) : rk (at_ (P ++ (R ++ S)) i) ≤ rk (at_ (P ++ (R ++ S)) j) := by
  rcases Nat.eq_or_lt_of_le h2 with rfl | h2
  · exact Nat.le_refl _
  obtain ⟨A, B, rfl, hA⟩ := split_at R (i + 1 - P.length) (by omega)
  have e1 : P ++ (A ++ B ++ S) = P ++ (A ++ (B ++ S)) := by simp
  have e2 : P ++ (A ++ B ++ S) = (P ++ A) ++ (B ++ S) := by simp
  have g1 := at_in P A (B ++ S) i h1 (by omega)
  have g2 := at_in (P ++ A) B S j (by simp; omega) (by simp at h3 ⊢; omega)
  rw [← e1] at g1; rw [← e2] at g2
  exact hs.parts.2.2 _ g1 _ g2
theorem row_at {w : World} {blk : Nat} {l : List KK} (h : RowL w blk l) (i : Nat) (hi : i < l.length) :
    w.cell? ⟨blk, i * 2, none⟩ = some (.string (at_ l i).1) ∧ w.cell? ⟨blk, i * 2 + 1, none⟩ = some (.int .i64 (at_ l i).2) ∧ w.frozen? ⟨blk, i * 2, none⟩ = false ∧ w.frozen? ⟨blk, i * 2 + 1, none⟩ = false :=
  cell_row h i (by simpa using hi)
/-- x wanders to the right over Y: it stands at place k -/
def Wan (blk : Nat) (P Y S : List KK) (x : KK) (k : Nat) (w : World) : Prop := ∃ A B, Y = A ++ B ∧ P.length + A.length = k ∧ RowL w blk (P ++ (A ++ x :: (B ++ S)))
theorem Wan.right {blk : Nat} {P Y S : List KK} {x : KK} {k : Nat} {w : World} (h : Wan blk P Y S x k w) (hk : k < P.length + Y.length) : ∃ z : KK,
    (w.cell? ⟨blk, k * 2, none⟩ = some (.string x.1) ∧ w.cell? ⟨blk, k * 2 + 1, none⟩ = some (.int .i64 x.2) ∧ w.frozen? ⟨blk, k * 2, none⟩ = false ∧ w.frozen? ⟨blk, k * 2 + 1, none⟩ = false) ∧
    (w.cell? ⟨blk, (k + 1) * 2, none⟩ = some (.string z.1) ∧ w.cell? ⟨blk, (k + 1) * 2 + 1, none⟩ = some (.int .i64 z.2) ∧ w.frozen? ⟨blk, (k + 1) * 2, none⟩ = false ∧ w.frozen? ⟨blk, (k + 1) * 2 + 1, none⟩ = false) ∧
    Wan blk P Y S x (k + 1) (swW w blk k (k + 1) z x) ∧ Fr blk w (swW w blk k (k + 1) z x) := by
  obtain ⟨A, B, rfl, hA, hrow⟩ := h
  cases B with
  | nil => simp at hk; omega
  | cons z B =>
    have e1 : P ++ (A ++ x :: (z :: B ++ S)) = (P ++ A) ++ x :: z :: (B ++ S) := by simp
    have e2 : P ++ (A ++ x :: (z :: B ++ S)) = (P ++ A ++ [x]) ++ z :: (B ++ S) := by simp
    obtain ⟨s1, s2⟩ := swap_list' (e1 ▸ hrow) k (k + 1) (by simp; omega) (by simp; omega)
    exact ⟨z, cell_list (e1 ▸ hrow) k (by simp; omega), cell_list (e2 ▸ hrow) (k + 1) (by simp; omega), ⟨A ++ [z], B, by simp, by simp; omega, by simpa using s1⟩, s2⟩
theorem Wan.left {blk : Nat} {P Y S : List KK} {x : KK} {k : Nat} {w : World} (h : Wan blk P Y S x (k + 1) w) (hk : P.length ≤ k) : ∃ z : KK,
    (w.cell? ⟨blk, (k + 1) * 2, none⟩ = some (.string x.1) ∧ w.cell? ⟨blk, (k + 1) * 2 + 1, none⟩ = some (.int .i64 x.2) ∧ w.frozen? ⟨blk, (k + 1) * 2, none⟩ = false ∧ w.frozen? ⟨blk, (k + 1) * 2 + 1, none⟩ = false) ∧
    (w.cell? ⟨blk, k * 2, none⟩ = some (.string z.1) ∧ w.cell? ⟨blk, k * 2 + 1, none⟩ = some (.int .i64 z.2) ∧ w.frozen? ⟨blk, k * 2, none⟩ = false ∧ w.frozen? ⟨blk, k * 2 + 1, none⟩ = false) ∧
    Wan blk P Y S x k (swW w blk (k + 1) k z x) ∧ Fr blk w (swW w blk (k + 1) k z x) := by
  obtain ⟨A, B, rfl, hA, hrow⟩ := h
  obtain ⟨C, z, rfl⟩ : ∃ C z, A = C ++ [z] := ⟨A.dropLast, A.getLast (by intro hn; subst hn; simp at hA; omega), (List.dropLast_concat_getLast _).symm⟩
  have e1 : P ++ (C ++ [z] ++ x :: (B ++ S)) = (P ++ C) ++ z :: x :: (B ++ S) := by simp
  have e2 : P ++ (C ++ [z] ++ x :: (B ++ S)) = (P ++ C ++ [z]) ++ x :: (B ++ S) := by simp
  simp at hA
  obtain ⟨s1, s2⟩ := swap_list (e1 ▸ hrow) (k + 1) k (by simp; omega) (by simp; omega)
  exact ⟨z, cell_list (e2 ▸ hrow) (k + 1) (by simp; omega), cell_list (e1 ▸ hrow) k (by simp; omega), ⟨C, z :: B, by simp, by omega, by simpa using s1⟩, s2⟩
theorem Wan.lt {blk : Nat} {P Y S : List KK} {x : KK} {k : Nat} {w : World} (h : Wan blk P Y S x k w) : blk < w.heap.size := by
  obtain ⟨A, B, h1, h2, h3⟩ := h; exact h3.2
theorem Wan.bound {blk : Nat} {P Y S : List KK} {x : KK} {k : Nat} {w : World} (h : Wan blk P Y S x k w) : P.length ≤ k ∧ k ≤ P.length + Y.length := by
  obtain ⟨A, B, h1, h2, h3⟩ := h; subst h1; simp; omega
theorem Wan.keep {blk : Nat} {P Y S : List KK} {x : KK} {k : Nat} {w w' : World} (h : Wan blk P Y S x k w) (hb : Below w.heap.size w w') : Wan blk P Y S x k w' := by
  obtain ⟨A, B, h1, h2, h3⟩ := h; exact ⟨A, B, h1, h2, RowL.keep h3 hb⟩
/-- one element ahead of a run: what the search and the wandering need, and what they come to -/
theorem sym1_facts (blk : Nat) (P Y S : List KK) (x : KK) (len a b : Nat) (hlen : len = (P ++ (x :: (Y ++ S))).length) (ha : a = P.length) (hb : b = a + 1 + Y.length) (hsY : Srt Y) (hsm : Small (x :: Y)) (w : World) (h : RowL w blk (P ++ (x :: (Y ++ S)))) :
    ∃ (Q : Nat → Nat → Prop) (Wn : Nat → World → Prop), a < b ∧ b ≤ len ∧ blk < w.heap.size ∧ Q (a + 1) b ∧
      (∀ i j, Q i j → a + 1 ≤ i ∧ i ≤ j ∧ j ≤ b) ∧
      (∀ i j h wr, Q i j → i ≤ h → h < j → Below w.heap.size w wr → ∃ z : KK, z.1.size ≤ 1099511627776 ∧ x.1.size ≤ 1099511627776 ∧
        (wr.cell? ⟨blk, h * 2, none⟩ = some (.string z.1) ∧ wr.cell? ⟨blk, h * 2 + 1, none⟩ = some (.int .i64 z.2) ∧ wr.cell? ⟨blk, a * 2, none⟩ = some (.string x.1) ∧ wr.cell? ⟨blk, a * 2 + 1, none⟩ = some (.int .i64 x.2)) ∧
        (rk z < rk x → Q (h + 1) j) ∧ (¬ rk z < rk x → Q i h)) ∧
      (∀ wr, Below w.heap.size w wr → Wn a wr) ∧
      (∀ k wr, Wn k wr → blk < wr.heap.size ∧ (k + 1 < b → ∃ z : KK,
        (wr.cell? ⟨blk, k * 2, none⟩ = some (.string x.1) ∧ wr.cell? ⟨blk, k * 2 + 1, none⟩ = some (.int .i64 x.2) ∧ wr.frozen? ⟨blk, k * 2, none⟩ = false ∧ wr.frozen? ⟨blk, k * 2 + 1, none⟩ = false) ∧
        (wr.cell? ⟨blk, (k + 1) * 2, none⟩ = some (.string z.1) ∧ wr.cell? ⟨blk, (k + 1) * 2 + 1, none⟩ = some (.int .i64 z.2) ∧ wr.frozen? ⟨blk, (k + 1) * 2, none⟩ = false ∧ wr.frozen? ⟨blk, (k + 1) * 2 + 1, none⟩ = false) ∧
        Wn (k + 1) (swW wr blk k (k + 1) z x) ∧ Fr blk wr (swW wr blk k (k + 1) z x))) ∧
      (∀ i wr, Q i i → Wn (i - 1) wr → ∃ Z, RowL wr blk (P ++ (Z ++ S)) ∧ Srt Z ∧ Eqv Z (x :: Y)) := by
  have e0 : P ++ (x :: (Y ++ S)) = (P ++ [x]) ++ (Y ++ S) := by simp
  have hx : at_ (P ++ (x :: (Y ++ S))) a = x := at_mid _ _ _ _ ha
  have hm : ∀ k l, a + 1 ≤ k → k ≤ l → l < b → rk (at_ (P ++ (x :: (Y ++ S))) l) < rk x → rk (at_ (P ++ (x :: (Y ++ S))) k) < rk x := by
    intro k l h1 h2 h3 h4
    have := at_srt (P ++ [x]) Y S hsY k l (by simp; omega) h2 (by simp; omega)
    rw [← e0] at this
    omega
  have hlen2 : len = a + 1 + Y.length + S.length := by rw [hlen, ha]; simp; omega
  refine ⟨BS (fun k => rk (at_ (P ++ (x :: (Y ++ S))) k) < rk x) (a + 1) b, Wan blk P Y S x, by omega, by omega, h.2, BS.start _ _ _ (by omega), ?_, ?_, ?_, ?_, ?_⟩
  · rintro i j ⟨h1, h2, h3, _⟩; exact ⟨h1, h2, h3⟩
  · intro i j hh wr hQ h1 h2 hbel
    have hq := hQ
    obtain ⟨q1, q2, q3, _⟩ := hQ
    have hrow : RowL wr blk (P ++ (x :: (Y ++ S))) := RowL.keep h hbel
    have c1 := row_at hrow hh (by omega)
    have c2 := row_at hrow a (by omega)
    rw [hx] at c2
    have hin := at_in (P ++ [x]) Y S hh (by simp; omega) (by simp; omega)
    rw [← e0] at hin
    exact ⟨_, hsm _ (List.mem_cons_of_mem _ hin), hsm x (by simp), ⟨c1.1, c1.2.1, c2.1, c2.2.1⟩, fun hT => BS.up hm hq h1 h2 hT, fun hT => BS.down hm hq h1 h2 hT⟩
  · intro wr hbel
    exact ⟨[], Y, rfl, by simp; omega, by simpa using RowL.keep h hbel⟩
  · intro k wr hW
    exact ⟨hW.lt, fun hk => hW.right (by omega)⟩
  · intro i wr hQ hW
    obtain ⟨q1, q2, q3, q4, q5⟩ := hQ
    obtain ⟨A, B, rfl, hA, hrow⟩ := hW
    obtain ⟨s1, s2, s3⟩ := hsY.parts
    have k1 : ∀ z ∈ A, rk z < rk x := by
      intro z hz
      obtain ⟨A1, A2, rfl⟩ := List.append_of_mem hz
      have := q4 (P.length + 1 + A1.length) (by omega) (by simp at hA; omega)
      have e : P ++ (x :: ((A1 ++ z :: A2) ++ B ++ S)) = (P ++ x :: A1) ++ z :: (A2 ++ (B ++ S)) := by simp
      dsimp only at this
      rw [e, at_mid _ _ _ _ (by simp; omega)] at this
      exact this
    have k2 : ∀ z ∈ B, rk x ≤ rk z := by
      intro z hz
      obtain ⟨A1, A2, rfl⟩ := List.append_of_mem hz
      have := q5 (P.length + 1 + A.length + A1.length) (by omega) (by simp at hb; omega)
      have e : P ++ (x :: ((A ++ (A1 ++ z :: A2)) ++ S)) = (P ++ x :: (A ++ A1)) ++ z :: (A2 ++ S) := by simp
      dsimp only at this
      rw [e, at_mid _ _ _ _ (by simp; omega)] at this
      omega
    refine ⟨A ++ x :: B, by simpa using hrow, ?_, ?_⟩
    · refine s1.app (List.pairwise_cons.2 ⟨k2, s2⟩) ?_
      intro y hy z hz
      rcases List.mem_cons.1 hz with rfl | hz
      · exact Nat.le_of_lt (k1 y hy)
      · exact s3 y hy z hz
    · have : Eqv (A ++ [x]) ([x] ++ A) := Eqv.swap (fun y hy z hz => by simp at hz; subst hz; exact Nat.ne_of_lt (k1 y hy))
      simpa using this.app (Eqv.refl B)
/-- one element behind a run -/
theorem sym2_facts (blk : Nat) (P X S : List KK) (y : KK) (len a m b : Nat) (hlen : len = (P ++ (X ++ (y :: S))).length) (ha : a = P.length) (hm0 : m = a + X.length) (hb : b = m + 1) (hsX : Srt X) (hsm : Small (X ++ [y])) (w : World) (h : RowL w blk (P ++ (X ++ (y :: S)))) :
    ∃ (Q : Nat → Nat → Prop) (Wn : Nat → World → Prop), a ≤ m ∧ m < len ∧ blk < w.heap.size ∧ Q a m ∧
      (∀ i j, Q i j → a ≤ i ∧ i ≤ j ∧ j ≤ m) ∧
      (∀ i j h wr, Q i j → i ≤ h → h < j → Below w.heap.size w wr → ∃ z : KK, z.1.size ≤ 1099511627776 ∧ y.1.size ≤ 1099511627776 ∧
        (wr.cell? ⟨blk, m * 2, none⟩ = some (.string y.1) ∧ wr.cell? ⟨blk, m * 2 + 1, none⟩ = some (.int .i64 y.2) ∧ wr.cell? ⟨blk, h * 2, none⟩ = some (.string z.1) ∧ wr.cell? ⟨blk, h * 2 + 1, none⟩ = some (.int .i64 z.2)) ∧
        (¬ rk y < rk z → Q (h + 1) j) ∧ (rk y < rk z → Q i h)) ∧
      (∀ wr, Below w.heap.size w wr → Wn m wr) ∧
      (∀ k wr, Wn (k + 1) wr → blk < wr.heap.size ∧ (a ≤ k → ∃ z : KK,
        (wr.cell? ⟨blk, (k + 1) * 2, none⟩ = some (.string y.1) ∧ wr.cell? ⟨blk, (k + 1) * 2 + 1, none⟩ = some (.int .i64 y.2) ∧ wr.frozen? ⟨blk, (k + 1) * 2, none⟩ = false ∧ wr.frozen? ⟨blk, (k + 1) * 2 + 1, none⟩ = false) ∧
        (wr.cell? ⟨blk, k * 2, none⟩ = some (.string z.1) ∧ wr.cell? ⟨blk, k * 2 + 1, none⟩ = some (.int .i64 z.2) ∧ wr.frozen? ⟨blk, k * 2, none⟩ = false ∧ wr.frozen? ⟨blk, k * 2 + 1, none⟩ = false) ∧
        Wn k (swW wr blk (k + 1) k z y) ∧ Fr blk wr (swW wr blk (k + 1) k z y))) ∧
      (∀ i wr, Q i i → Wn i wr → ∃ Z, RowL wr blk (P ++ (Z ++ S)) ∧ Srt Z ∧ Eqv Z (X ++ [y])) := by
  have e0 : P ++ (X ++ (y :: S)) = (P ++ X) ++ y :: S := by simp
  have hx : at_ (P ++ (X ++ (y :: S))) m = y := by rw [e0]; exact at_mid _ _ _ _ (by simp; omega)
  have hm : ∀ k l, a ≤ k → k ≤ l → l < m → ¬ rk y < rk (at_ (P ++ (X ++ (y :: S))) l) → ¬ rk y < rk (at_ (P ++ (X ++ (y :: S))) k) := by
    intro k l h1 h2 h3 h4
    have := at_srt P X (y :: S) hsX k l (by omega) h2 (by omega)
    omega
  have hlen2 : len = a + X.length + 1 + S.length := by rw [hlen, ha]; simp; omega
  refine ⟨BS (fun k => ¬ rk y < rk (at_ (P ++ (X ++ (y :: S))) k)) a m, Wan blk P X S y, by omega, by omega, h.2, BS.start _ _ _ (by omega), ?_, ?_, ?_, ?_, ?_⟩
  · rintro i j ⟨h1, h2, h3, _⟩; exact ⟨h1, h2, h3⟩
  · intro i j hh wr hQ h1 h2 hbel
    have hq := hQ
    obtain ⟨q1, q2, q3, _⟩ := hQ
    have hrow : RowL wr blk (P ++ (X ++ (y :: S))) := RowL.keep h hbel
    have c1 := row_at hrow hh (by omega)
    have c2 := row_at hrow m (by omega)
    rw [hx] at c2
    have hin := at_in P X (y :: S) hh (by omega) (by omega)
    exact ⟨_, hsm _ (List.mem_append_left _ hin), hsm y (by simp), ⟨c2.1, c2.2.1, c1.1, c1.2.1⟩, fun hT => BS.up hm hq h1 h2 hT, fun hT => BS.down hm hq h1 h2 (fun h => h hT)⟩
  · intro wr hbel
    exact ⟨X, [], by simp, by omega, by simpa using RowL.keep h hbel⟩
  · intro k wr hW
    exact ⟨hW.lt, fun hk => hW.left (by omega)⟩
  · intro i wr hQ hW
    obtain ⟨q1, q2, q3, q4, q5⟩ := hQ
    obtain ⟨A, B, rfl, hA, hrow⟩ := hW
    obtain ⟨s1, s2, s3⟩ := hsX.parts
    have k1 : ∀ z ∈ A, rk z ≤ rk y := by
      intro z hz
      obtain ⟨A1, A2, rfl⟩ := List.append_of_mem hz
      have := q4 (P.length + A1.length) (by omega) (by simp at hA; omega)
      have e : P ++ ((A1 ++ z :: A2) ++ B ++ y :: S) = (P ++ A1) ++ z :: (A2 ++ (B ++ y :: S)) := by simp
      dsimp only at this
      rw [e, at_mid _ _ _ _ (by simp)] at this
      omega
    have k2 : ∀ z ∈ B, rk y < rk z := by
      intro z hz
      obtain ⟨A1, A2, rfl⟩ := List.append_of_mem hz
      have := q5 (P.length + A.length + A1.length) (by omega) (by simp at hm0; omega)
      have e : P ++ ((A ++ (A1 ++ z :: A2)) ++ y :: S) = (P ++ (A ++ A1)) ++ z :: (A2 ++ y :: S) := by simp
      dsimp only at this
      rw [e, at_mid _ _ _ _ (by simp; omega)] at this
      omega
    refine ⟨A ++ y :: B, by simpa using hrow, ?_, ?_⟩
    · refine s1.app (List.pairwise_cons.2 ⟨fun z hz => Nat.le_of_lt (k2 z hz), s2⟩) ?_
      intro z hz u hu
      rcases List.mem_cons.1 hu with rfl | hu
      · exact k1 z hz
      · exact s3 z hz u hu
    · have : Eqv ([y] ++ B) (B ++ [y]) := Eqv.swap (fun u hu z hz => by simp at hu; subst hu; exact Nat.ne_of_lt (k2 z hz))
      simpa using (Eqv.refl A).app this
end Go.Proofs.YtbodfdmmfaampaaGreatDoor

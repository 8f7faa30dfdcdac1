/-
  Merging two runs: what the search for the cut finds, and the three steps behind it.
-/
import Derived.Test.YtbodfdmmfaampaaGreatDoorS5
namespace Go.Proofs.YtbodfdmmfaampaaGreatDoor
open Go.RowKit Go.Shelf Go.Lib Go.Sort Go.Proofs
set_option maxHeartbeats 400000
set_option maxRecDepth 100000

theorem head_le {l : List KK} {x y : KK} {A B : List KK} (hs : Srt l) (e : l = A ++ x :: B) (hy : y ∈ x :: B) : rk x ≤ rk y := by
  subst e
  rcases List.mem_cons.1 hy with rfl | hy
  · exact Nat.le_refl _
  · exact (List.pairwise_cons.1 (hs.parts.2.1)).1 y hy
theorem last_ge {l : List KK} {x y : KK} {A B : List KK} (hs : Srt l) (e : l = A ++ x :: B) (hy : y ∈ A ++ [x]) : rk y ≤ rk x := by
  subst e
  rcases List.mem_append.1 hy with hy | hy
  · exact hs.parts.2.2 y hy x (by simp)
  · simp at hy; subst hy; exact Nat.le_refl _
theorem sym3_facts (blk : Nat) (P X Y S : List KK) (len a m b mid lo hi : Nat) (hlen : len = (P ++ (X ++ (Y ++ S))).length) (ha : a = P.length) (hm0 : m = a + X.length) (hb : b = m + Y.length)
    (hlo : a ≤ lo) (hlh : lo ≤ hi) (hhi : hi ≤ m) (h1 : m ≤ mid + m - hi) (h2 : mid + m - lo ≤ b) (h3 : lo = a ∨ mid + m - lo = b) (h4 : hi = m ∨ mid + m - hi = m)
    (hsX : Srt X) (hsY : Srt Y) (hsm : Small (X ++ Y)) (w : World) (h : RowL w blk (P ++ (X ++ (Y ++ S)))) :
    ∃ Q : Nat → Nat → Prop, b ≤ len ∧ blk < w.heap.size ∧ Q lo hi ∧
      (∀ i j, Q i j → lo ≤ i ∧ i ≤ j ∧ j ≤ hi) ∧
      (∀ i j c q wr, Q i j → i ≤ c → c < j → q = mid + m - 1 - c → Below w.heap.size w wr → ∃ y x : KK, y.1.size ≤ 1099511627776 ∧ x.1.size ≤ 1099511627776 ∧
        (wr.cell? ⟨blk, q * 2, none⟩ = some (.string y.1) ∧ wr.cell? ⟨blk, q * 2 + 1, none⟩ = some (.int .i64 y.2) ∧ wr.cell? ⟨blk, c * 2, none⟩ = some (.string x.1) ∧ wr.cell? ⟨blk, c * 2 + 1, none⟩ = some (.int .i64 x.2)) ∧
        (¬ rk y < rk x → Q (c + 1) j) ∧ (rk y < rk x → Q i c)) ∧
      (∀ st, Q st st → ∃ X1 X2 Y1 Y2, X = X1 ++ X2 ∧ Y = Y1 ++ Y2 ∧ st = a + X1.length ∧ mid + m - st = m + Y1.length ∧ (∀ x ∈ X1, ∀ y ∈ Y2, rk x ≤ rk y) ∧ (∀ y ∈ Y1, ∀ x ∈ X2, rk y < rk x)) := by
  have e0 : P ++ (X ++ (Y ++ S)) = (P ++ X) ++ (Y ++ S) := by simp
  have hlen2 : len = a + X.length + Y.length + S.length := by rw [hlen, ha]; simp; omega
  have hmono : ∀ k l, lo ≤ k → k ≤ l → l < hi → ¬ rk (at_ (P ++ (X ++ (Y ++ S))) (mid + m - 1 - l)) < rk (at_ (P ++ (X ++ (Y ++ S))) l) → ¬ rk (at_ (P ++ (X ++ (Y ++ S))) (mid + m - 1 - k)) < rk (at_ (P ++ (X ++ (Y ++ S))) k) := by
    intro k l q1 q2 q3 q4
    have a1 := at_srt P X (Y ++ S) hsX k l (by omega) q2 (by omega)
    have a2 := at_srt (P ++ X) Y S hsY (mid + m - 1 - l) (mid + m - 1 - k) (by simp; omega) (by omega) (by simp; omega)
    rw [← e0] at a2
    omega
  refine ⟨BS (fun c => ¬ rk (at_ (P ++ (X ++ (Y ++ S))) (mid + m - 1 - c)) < rk (at_ (P ++ (X ++ (Y ++ S))) c)) lo hi, by omega, h.2, BS.start _ _ _ hlh, ?_, ?_, ?_⟩
  · rintro i j ⟨q1, q2, q3, _⟩; exact ⟨q1, q2, q3⟩
  · intro i j c q wr hQ k1 k2 hq hbel
    have hq' := hQ
    obtain ⟨q1, q2, q3, _⟩ := hQ
    have hrow : RowL wr blk (P ++ (X ++ (Y ++ S))) := RowL.keep h hbel
    have c1 := row_at hrow c (by omega)
    have c2 := row_at hrow q (by omega)
    have hin1 := at_in P X (Y ++ S) c (by omega) (by omega)
    have hin2 := at_in (P ++ X) Y S q (by simp; omega) (by simp; omega)
    rw [← e0] at hin2
    refine ⟨_, _, hsm _ (List.mem_append_right _ hin2), hsm _ (List.mem_append_left _ hin1), ⟨c2.1, c2.2.1, c1.1, c1.2.1⟩, fun hT => BS.up hmono hq' k1 k2 (by rw [← hq]; exact hT), fun hT => BS.down hmono hq' k1 k2 (by rw [← hq]; exact fun h => h hT)⟩
  · intro st hQ
    obtain ⟨q1, q2, q3, q4, q5⟩ := hQ
    obtain ⟨X1, X2, rfl, hX1⟩ := split_at X (st - a) (by omega)
    obtain ⟨Y1, Y2, rfl, hY1⟩ := split_at Y (mid - st) (by omega)
    refine ⟨X1, X2, Y1, Y2, rfl, rfl, by omega, by omega, ?_, ?_⟩
    · intro x hx y hy
      obtain ⟨A, x', rfl⟩ : ∃ A x', X1 = A ++ [x'] := ⟨X1.dropLast, X1.getLast (by intro hn; subst hn; simp at hx), (List.dropLast_concat_getLast _).symm⟩
      cases Y2 with
      | nil => simp at hy
      | cons y' B =>
        have g1 := last_ge (A := A) (x := x') (B := X2) hsX (by simp) hx
        have g2 := head_le (A := Y1) (x := y') (B := B) hsY rfl hy
        simp only [List.length_append, List.length_cons, List.length_nil] at *
        have g3 := q4 (st - 1) (by omega) (by omega)
        have e1 : P ++ (A ++ [x'] ++ X2 ++ (Y1 ++ y' :: B ++ S)) = (P ++ A) ++ x' :: (X2 ++ (Y1 ++ y' :: B ++ S)) := by simp
        have e2 : P ++ (A ++ [x'] ++ X2 ++ (Y1 ++ y' :: B ++ S)) = (P ++ A ++ [x'] ++ X2 ++ Y1) ++ y' :: (B ++ S) := by simp
        have i1 : at_ (P ++ (A ++ [x'] ++ X2 ++ (Y1 ++ y' :: B ++ S))) (st - 1) = x' := by rw [e1]; exact at_mid _ _ _ _ (by simp; omega)
        have i2 : at_ (P ++ (A ++ [x'] ++ X2 ++ (Y1 ++ y' :: B ++ S))) (mid + m - 1 - (st - 1)) = y' := by rw [e2]; exact at_mid _ _ _ _ (by simp; omega)
        rw [i1, i2] at g3
        omega
    · intro y hy x hx
      obtain ⟨A, y', rfl⟩ : ∃ A y', Y1 = A ++ [y'] := ⟨Y1.dropLast, Y1.getLast (by intro hn; subst hn; simp at hy), (List.dropLast_concat_getLast _).symm⟩
      cases X2 with
      | nil => simp at hx
      | cons x' B =>
        have g1 := last_ge (A := A) (x := y') (B := Y2) hsY (by simp) hy
        have g2 := head_le (A := X1) (x := x') (B := B) hsX rfl hx
        simp only [List.length_append, List.length_cons, List.length_nil] at *
        have g3 := q5 st (by omega) (by omega)
        have e1 : P ++ (X1 ++ x' :: B ++ (A ++ [y'] ++ Y2 ++ S)) = (P ++ X1) ++ x' :: (B ++ (A ++ [y'] ++ Y2 ++ S)) := by simp
        have e2 : P ++ (X1 ++ x' :: B ++ (A ++ [y'] ++ Y2 ++ S)) = (P ++ (X1 ++ x' :: B ++ A)) ++ y' :: (Y2 ++ S) := by simp
        have i1 : at_ (P ++ (X1 ++ x' :: B ++ (A ++ [y'] ++ Y2 ++ S))) st = x' := by rw [e1]; exact at_mid _ _ _ _ (by simp; omega)
        have i2 : at_ (P ++ (X1 ++ x' :: B ++ (A ++ [y'] ++ Y2 ++ S))) (mid + m - 1 - st) = y' := by rw [e2]; exact at_mid _ _ _ _ (by simp; omega)
        rw [i1, i2] at g3
        omega
/-- merging is understood for runs shorter than N -/
def SymOK (N : Nat) : Prop := ∀ (blk cap : Nat) (P X Y S : List KK) (len a m b : Nat) (w : World), X.length + Y.length < N → len = (P ++ (X ++ (Y ++ S))).length → a = P.length → m = a + X.length → b = m + Y.length → 0 < X.length → 0 < Y.length → Srt X → Srt Y → Small (X ++ Y) → len ≤ 1099511627776 → RowL w blk (P ++ (X ++ (Y ++ S))) →
    Calls Tryz.prog 50 #[.slice (some ⟨blk, 0, none⟩) len cap, .int .i64 (a : Int), .int .i64 (m : Int), .int .i64 (b : Int), .func (.func 25) #[] #[]] w fun e w' => e = .returned (.tuple #[]) ∧ (∃ Z, RowL w' blk (P ++ (Z ++ S)) ∧ Srt Z ∧ Eqv Z (X ++ Y)) ∧ Fr blk w w'
theorem Eqv.small {a b : List KK} (h : Eqv a b) (k : Small b) : Small a := fun x hx => k x (h.mem hx)
theorem sym3_stage (f : Value) (hf : f = .func (.func 25) #[] #[]) (blk cap : Nat) (P X1 X2 Y1 Y2 S : List KK) (len a st m en b mid : Nat) (hrec : SymOK ((X1 ++ X2).length + (Y1 ++ Y2).length)) (hlen : len = (P ++ (X1 ++ X2 ++ (Y1 ++ Y2 ++ S))).length)
    (ha : a = P.length) (hst : st = a + X1.length) (hm : m = st + X2.length) (hen : en = m + Y1.length) (hb : b = en + Y2.length) (hmid : mid = st + Y1.length) (ham : a < mid) (hmb : mid < b)
    (hsX : Srt (X1 ++ X2)) (hsY : Srt (Y1 ++ Y2)) (hsm : Small (X1 ++ X2 ++ (Y1 ++ Y2))) (h12 : ∀ x ∈ X1, ∀ y ∈ Y2, rk x ≤ rk y) (h21 : ∀ y ∈ Y1, ∀ x ∈ X2, rk y < rk x) (hsz : len ≤ 1099511627776) :
    ∃ S1 S2 S3 : World → Prop,
      (∀ w, RowL w blk (P ++ (X1 ++ X2 ++ (Y1 ++ Y2 ++ S))) → (st < m → m < en → ∀ za zb zc : Int, za = st → zb = m → zc = en → Calls Tryz.prog 57 #[.slice (some ⟨blk, 0, none⟩) len cap, .int .i64 za, .int .i64 zb, .int .i64 zc, f] w fun e w' => e = .returned (.tuple #[]) ∧ S1 w' ∧ Fr blk w w') ∧ (¬ (st < m ∧ m < en) → S1 w)) ∧
      (∀ w, S1 w → (a < st → st < mid → ∀ za zb zc : Int, za = a → zb = st → zc = mid → Calls Tryz.prog 50 #[.slice (some ⟨blk, 0, none⟩) len cap, .int .i64 za, .int .i64 zb, .int .i64 zc, f] w fun e w' => e = .returned (.tuple #[]) ∧ S2 w' ∧ Fr blk w w') ∧ (¬ (a < st ∧ st < mid) → S2 w)) ∧
      (∀ w, S2 w → (mid < en → en < b → ∀ za zb zc : Int, za = mid → zb = en → zc = b → Calls Tryz.prog 50 #[.slice (some ⟨blk, 0, none⟩) len cap, .int .i64 za, .int .i64 zb, .int .i64 zc, f] w fun e w' => e = .returned (.tuple #[]) ∧ S3 w' ∧ Fr blk w w') ∧ (¬ (mid < en ∧ en < b) → S3 w)) ∧
      (∀ w, S3 w → ∃ Z, RowL w blk (P ++ (Z ++ S)) ∧ Srt Z ∧ Eqv Z (X1 ++ X2 ++ (Y1 ++ Y2))) := by
  subst hf
  obtain ⟨x1, x2, x3⟩ := hsX.parts
  obtain ⟨y1, y2, y3⟩ := hsY.parts
  simp only [List.length_append] at hrec hlen
  refine ⟨fun w => RowL w blk (P ++ (X1 ++ (Y1 ++ (X2 ++ (Y2 ++ S))))), fun w => ∃ Z1, Srt Z1 ∧ Eqv Z1 (X1 ++ Y1) ∧ RowL w blk (P ++ (Z1 ++ (X2 ++ (Y2 ++ S)))), fun w => ∃ Z1 Z2, Srt Z1 ∧ Eqv Z1 (X1 ++ Y1) ∧ Srt Z2 ∧ Eqv Z2 (X2 ++ Y2) ∧ RowL w blk (P ++ (Z1 ++ (Z2 ++ S))), ?_, ?_, ?_, ?_⟩
  · intro w h
    constructor
    · rintro k1 k2 _ _ _ rfl rfl rfl
      have e : P ++ (X1 ++ X2 ++ (Y1 ++ Y2 ++ S)) = (P ++ X1) ++ (X2 ++ (Y1 ++ (Y2 ++ S))) := by simp
      rw [e] at h
      refine (c_rotate (.func (.func 25) #[] #[]) blk cap (P ++ X1) X2 Y1 (Y2 ++ S) len st m en (by simp; omega) (by simp; omega) (by omega) (by omega) (by omega) (by omega) hsz w h).mono ?_
      rintro e w1 ⟨rfl, q1, q2⟩
      exact ⟨rfl, by simpa using q1, q2⟩
    · intro hn
      by_cases k1 : st < m
      · have : Y1 = [] := List.length_eq_zero_iff.1 (by omega)
        subst this; simpa using h
      · have : X2 = [] := List.length_eq_zero_iff.1 (by omega)
        subst this; simpa using h
  · intro w h
    constructor
    · rintro k1 k2 _ _ _ rfl rfl rfl
      refine (hrec blk cap P X1 Y1 (X2 ++ (Y2 ++ S)) len a st mid w (by omega) (by simp; omega) ha hst hmid (by omega) (by omega) x1 y1 (fun x hx => hsm x (by simp at hx ⊢; rcases hx with hx | hx <;> simp [hx])) hsz h).mono ?_
      rintro e w1 ⟨rfl, ⟨Z1, q1, q2, q3⟩, q4⟩
      exact ⟨rfl, ⟨Z1, q2, q3, q1⟩, q4⟩
    · intro hn
      refine ⟨X1 ++ Y1, ?_, Eqv.refl _, by simpa using h⟩
      by_cases k1 : a < st
      · have : Y1 = [] := List.length_eq_zero_iff.1 (by omega)
        subst this; simpa using x1
      · have : X1 = [] := List.length_eq_zero_iff.1 (by omega)
        subst this; simpa using y1
  · rintro w ⟨Z1, s1, s2, h⟩
    have hl := s2.len
    simp only [List.length_append] at hl
    constructor
    · rintro k1 k2 _ _ _ rfl rfl rfl
      rw [← List.append_assoc P Z1] at h
      refine (hrec blk cap (P ++ Z1) X2 Y2 S len mid en b w (by omega) (by simp; omega) (by simp; omega) (by omega) (by omega) (by omega) (by omega) x2 y2 (fun x hx => hsm x (by simp at hx ⊢; rcases hx with hx | hx <;> simp [hx])) hsz h).mono ?_
      rintro e w1 ⟨rfl, ⟨Z2, q1, q2, q3⟩, q4⟩
      exact ⟨rfl, ⟨Z1, Z2, s1, s2, q2, q3, by simpa using q1⟩, q4⟩
    · intro hn
      refine ⟨Z1, X2 ++ Y2, s1, s2, ?_, Eqv.refl _, by simpa using h⟩
      by_cases k1 : mid < en
      · have : Y2 = [] := List.length_eq_zero_iff.1 (by omega)
        subst this; simpa using x2
      · have : X2 = [] := List.length_eq_zero_iff.1 (by omega)
        subst this; simpa using y2
  · rintro w ⟨Z1, Z2, s1, s2, s3, s4, h⟩
    refine ⟨Z1 ++ Z2, by simpa using h, ?_, ?_⟩
    · refine s1.app s3 ?_
      intro x hx y hy
      have hx := s2.mem hx
      have hy := s4.mem hy
      rcases List.mem_append.1 hx with hx | hx <;> rcases List.mem_append.1 hy with hy | hy
      · exact x3 x hx y hy
      · exact h12 x hx y hy
      · exact Nat.le_of_lt (h21 x hx y hy)
      · exact y3 x hx y hy
    · refine (s2.app s4).trans ?_
      have : Eqv (Y1 ++ X2) (X2 ++ Y1) := Eqv.swap (fun y hy x hx => Nat.ne_of_lt (h21 y hy x hx))
      have := (Eqv.refl X1).app (this.app (Eqv.refl Y2))
      simpa using this
end Go.Proofs.YtbodfdmmfaampaaGreatDoor

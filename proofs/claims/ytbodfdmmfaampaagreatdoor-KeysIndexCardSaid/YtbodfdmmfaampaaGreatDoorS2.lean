/-
  The contract of slices.rotateCmpFunc: two neighbouring runs change places.
-/
import Derived.Test.YtbodfdmmfaampaaGreatDoorS1
namespace Go.Proofs.YtbodfdmmfaampaaGreatDoor
open Go.RowKit Go.Shelf Go.Lib Go.Sort Go.Proofs
set_option maxHeartbeats 400000
set_option maxRecDepth 100000

theorem swp_list (P Q S : List KK) (x y : KK) : swp (P ++ x :: (Q ++ y :: S)).toArray P.length (P.length + (Q.length + 1)) = (P ++ y :: (Q ++ x :: S)).toArray := by
  unfold swp
  have g1 : (P ++ x :: (Q ++ y :: S)).toArray[P.length]! = x := by simp
  have g2 : (P ++ x :: (Q ++ y :: S)).toArray[P.length + (Q.length + 1)]! = y := by
    rw [getElem!_pos _ _ (by simp)]
    simp [List.getElem_append_right, List.getElem_cons]
  rw [g1, g2]
  simp [List.set_append_right]
theorem swapN_list (n : Nat) (P A Q B S : List KK) (hA : A.length = n) (hB : B.length = n) :
    swapN P.length (P.length + (n + Q.length)) n (P ++ (A ++ (Q ++ (B ++ S)))).toArray = (P ++ (B ++ (Q ++ (A ++ S)))).toArray := by
  induction n generalizing A B Q S with
  | zero =>
    rw [List.length_eq_zero_iff] at hA hB
    subst hA; subst hB; rfl
  | succ n ih =>
    obtain ⟨A1, x, rfl⟩ : ∃ A1 x, A = A1 ++ [x] := ⟨A.dropLast, A.getLast (by intro h; simp [h] at hA), (List.dropLast_concat_getLast _).symm⟩
    obtain ⟨B1, y, rfl⟩ : ∃ B1 y, B = B1 ++ [y] := ⟨B.dropLast, B.getLast (by intro h; simp [h] at hB), (List.dropLast_concat_getLast _).symm⟩
    simp at hA hB
    have h := ih A1 (x :: Q) B1 (y :: S) hA hB
    simp only [swapN]
    have e1 : P ++ (A1 ++ [x] ++ (Q ++ (B1 ++ [y] ++ S))) = P ++ (A1 ++ (x :: Q ++ (B1 ++ (y :: S)))) := by simp
    have e2 : P.length + (n + 1 + Q.length) = P.length + (n + (x :: Q).length) := by simp; omega
    rw [e1, e2, h]
    have e3 : P ++ (B1 ++ (x :: Q ++ (A1 ++ y :: S))) = (P ++ B1) ++ x :: ((Q ++ A1) ++ y :: S) := by simp
    have e4 : P.length + n = (P ++ B1).length := by simp; omega
    have e5 : P.length + (n + (x :: Q).length) + n = (P ++ B1).length + ((Q ++ A1).length + 1) := by simp; omega
    rw [e3, e4, e5, swp_list]
    simp
/-- the row holds a list -/
def RowL (w : World) (blk : Nat) (l : List KK) : Prop := RowK w blk l.toArray
theorem c_swapL (f : Value) (blk cap : Nat) (P A Q B S : List KK) (len m a b : Nat) (hlen : len = (P ++ (A ++ (Q ++ (B ++ S)))).length) (hA : A.length = m) (hB : B.length = m) (ha : a = P.length) (hb : b = P.length + (m + Q.length)) (hne : a ≠ b) (hsz : len ≤ 1099511627776) (w : World) (h : RowL w blk (P ++ (A ++ (Q ++ (B ++ S))))) :
    Calls Tryz.prog 69 #[.slice (some ⟨blk, 0, none⟩) len cap, .int .i64 (a : Int), .int .i64 (b : Int), .int .i64 (m : Int), f] w fun e w' => e = .returned (.tuple #[]) ∧ RowL w' blk (P ++ (B ++ (Q ++ (A ++ S)))) ∧ Fr blk w w' := by
  have := c_swapRange f blk cap a b m (P ++ (A ++ (Q ++ (B ++ S)))).toArray (by simp; omega) (by simp; omega) hne (by simp at hlen ⊢; omega) w h
  have e2 : swapN a b m (P ++ (A ++ (Q ++ (B ++ S)))).toArray = (P ++ (B ++ (Q ++ (A ++ S)))).toArray := by rw [ha, hb]; exact swapN_list m P A Q B S hA hB
  rw [e2] at this
  have e : (P ++ (A ++ (Q ++ (B ++ S)))).toArray.size = len := by rw [hlen]; simp
  rw [e] at this
  exact this

theorem split_at (l : List KK) (k : Nat) (h : k ≤ l.length) : ∃ A B, l = A ++ B ∧ A.length = k := ⟨l.take k, l.drop k, (List.take_append_drop k l).symm, by simp; omega⟩
/-- where the rotation stands: runs of i and of j are still to change places about m -/
def RotI (blk len m : Nat) (G : List KK) (w : World) (i j : Nat) : Prop :=
  ∃ P X Y S : List KK, X.length = i ∧ Y.length = j ∧ m = P.length + i ∧ len = (P ++ (X ++ (Y ++ S))).length ∧ P ++ (Y ++ (X ++ S)) = G ∧ RowL w blk (P ++ (X ++ (Y ++ S)))
theorem RotI.bound {blk len m : Nat} {G : List KK} {w : World} {i j : Nat} (h : RotI blk len m G w i j) : i ≤ m ∧ m + j ≤ len := by
  obtain ⟨P, X, Y, S, h1, h2, h3, h4, h5, h6⟩ := h
  simp only [List.length_append] at h4
  omega
theorem rot_lt (f : Value) (blk cap len m i j : Nat) (G : List KK) (w : World) (h : RotI blk len m G w i j) (hsz : len ≤ 1099511627776) (hi : 0 < i) (hij : i < j) (za zb zc : Int) (ha : za = (m : Int) - i) (hb : zb = (m : Int) + j - i) (hc : zc = i) :
    Calls Tryz.prog 69 #[.slice (some ⟨blk, 0, none⟩) len cap, .int .i64 za, .int .i64 zb, .int .i64 zc, f] w fun e w' => e = .returned (.tuple #[]) ∧ RotI blk len m G w' i (j - i) ∧ Fr blk w w' := by
  obtain ⟨P, X, Y, S, h1, h2, h3, h4, h5, h6⟩ := h
  obtain ⟨Ya, Yb, rfl, hYa⟩ := split_at Y (j - i) (by omega)
  have hYb : Yb.length = i := by simp only [List.length_append] at h2; omega
  have e : P ++ (X ++ (Ya ++ Yb ++ S)) = P ++ (X ++ (Ya ++ (Yb ++ S))) := by simp
  rw [e] at h4 h6
  have hC := c_swapL f blk cap P X Ya Yb S len i P.length (P.length + (i + Ya.length)) h4 h1 hYb rfl rfl (by omega) hsz w h6
  have z1 : za = (P.length : Int) := by omega
  have z2 : zb = ((P.length + (i + Ya.length) : Nat) : Int) := by omega
  rw [z1, z2, hc]
  refine hC.mono ?_
  rintro e w1 ⟨rfl, hrow, hfr⟩
  refine ⟨rfl, ⟨P, Yb, Ya, X ++ S, hYb, hYa, h3, ?_, ?_, hrow⟩, hfr⟩
  · simp only [List.length_append] at h4 ⊢; omega
  · rw [← h5]; simp
theorem rot_gt (f : Value) (blk cap len m i j : Nat) (G : List KK) (w : World) (h : RotI blk len m G w i j) (hsz : len ≤ 1099511627776) (hi : 0 < j) (hij : j < i) (za zb zc : Int) (ha : za = (m : Int) - i) (hb : zb = (m : Int)) (hc : zc = j) :
    Calls Tryz.prog 69 #[.slice (some ⟨blk, 0, none⟩) len cap, .int .i64 za, .int .i64 zb, .int .i64 zc, f] w fun e w' => e = .returned (.tuple #[]) ∧ RotI blk len m G w' (i - j) j ∧ Fr blk w w' := by
  obtain ⟨P, X, Y, S, h1, h2, h3, h4, h5, h6⟩ := h
  obtain ⟨Xa, Xb, rfl, hXa⟩ := split_at X j (by omega)
  have hXb : Xb.length = i - j := by simp only [List.length_append] at h1; omega
  have e : P ++ (Xa ++ Xb ++ (Y ++ S)) = P ++ (Xa ++ (Xb ++ (Y ++ S))) := by simp
  rw [e] at h4 h6
  have hC := c_swapL f blk cap P Xa Xb Y S len j P.length m h4 hXa h2 rfl (by omega) (by omega) hsz w h6
  have z1 : za = (P.length : Int) := by omega
  rw [z1, hb, hc]
  refine hC.mono ?_
  rintro e w1 ⟨rfl, hrow, hfr⟩
  refine ⟨rfl, ⟨P ++ Y, Xb, Xa, S, hXb, hXa, ?_, ?_, ?_, ?_⟩, hfr⟩
  · simp only [List.length_append]; omega
  · simp only [List.length_append] at h4 ⊢; omega
  · rw [← h5]; simp
  · rw [List.append_assoc]; exact hrow
theorem rot_eq (f : Value) (blk cap len m i j : Nat) (G : List KK) (w : World) (h : RotI blk len m G w i j) (hsz : len ≤ 1099511627776) (hi : 0 < j) (hij : i = j) (za zb zc : Int) (ha : za = (m : Int) - i) (hb : zb = (m : Int)) (hc : zc = i) :
    Calls Tryz.prog 69 #[.slice (some ⟨blk, 0, none⟩) len cap, .int .i64 za, .int .i64 zb, .int .i64 zc, f] w fun e w' => e = .returned (.tuple #[]) ∧ RowL w' blk G ∧ Fr blk w w' := by
  obtain ⟨P, X, Y, S, h1, h2, h3, h4, h5, h6⟩ := h
  have hC := c_swapL f blk cap P X [] Y S len i P.length m h4 h1 (by omega) rfl (by simp; omega) (by omega) hsz w h6
  have z1 : za = (P.length : Int) := by omega
  rw [z1, hb, hc]
  refine hC.mono ?_
  rintro e w1 ⟨rfl, hrow, hfr⟩
  exact ⟨rfl, by rw [← h5]; exact hrow, hfr⟩
theorem c_rotate (f : Value) (blk cap : Nat) (P X Y S : List KK) (len a m b : Nat) (hlen : len = (P ++ (X ++ (Y ++ S))).length) (ha : a = P.length) (hm : m = a + X.length) (hb : b = m + Y.length) (hX : 0 < X.length) (hY : 0 < Y.length) (hsz : len ≤ 1099511627776) (w : World) (h : RowL w blk (P ++ (X ++ (Y ++ S)))) :
    Calls Tryz.prog 57 #[.slice (some ⟨blk, 0, none⟩) len cap, .int .i64 (a : Int), .int .i64 (m : Int), .int .i64 (b : Int), f] w fun e w' => e = .returned (.tuple #[]) ∧ RowL w' blk (P ++ (Y ++ (X ++ S))) ∧ Fr blk w w' := by
  generalize hG : P ++ (Y ++ (X ++ S)) = G
  have hrel0 : RotI blk len m G w (m - a) (b - m) := ⟨P, X, Y, S, by omega, by omega, by omega, hlen, hG, h⟩
  have hbl : b ≤ len := by simp at hlen; omega
  have ham : a < m := by omega
  have hmb : m < b := by omega
  clear hG hlen ha hm hb hX hY h
  go_enter Tryz.func57, Tryz.ntmps57
  go_wp2
  go_loopw [10, 11] (fun vi vj wr => ∃ i j : Nat, vi = .int .i64 (i : Int) ∧ vj = .int .i64 (j : Int) ∧ 0 < i ∧ 0 < j ∧ RotI blk len m G wr i j ∧ Fr blk w wr) (fun vi vj _ => (intOf vi).toNat + (intOf vj).toNat)
  case atStart => exact ⟨m - a, b - m, by go_num, by go_num, by omega, by omega, hrel0, Fr.refl _ _⟩
  case round =>
    obtain ⟨i, j, rfl, rfl, hi, hj, hrot, hfr⟩ := hrel
    clear hrel0
    have hbd := hrot.bound
    rcases Nat.lt_trichotomy i j with hij | hij | hij
    · have hC := fun za zb zc => Lib.hid (rot_lt f blk cap len m i j G wr hrot hsz hi hij za zb zc)
      clear hrot
      go_wp2_with (go_at_call 69; refine ((hC _ _ _).out (by omega) (by omega) (by omega)).mono ?_; rintro e w1 ⟨rfl, hrow, hfr1⟩)
      go_roundw
      case rel => exact ⟨i, j - i, rfl, by go_num, hi, by omega, hrow, hfr.trans hfr1⟩
      case measure => simp [intOf]; omega
    · have hC := fun za zb zc => Lib.hid (rot_eq f blk cap len m i j G wr hrot hsz hj hij za zb zc)
      clear hrot
      go_wp2_with (go_at_call 69; refine ((hC _ _ _).out (by omega) (by omega) (by omega)).mono ?_; rintro e w1 ⟨rfl, hrow, hfr1⟩)
      go_end0
      exact ⟨rfl, hrow, hfr.trans hfr1⟩
    · have hC := fun za zb zc => Lib.hid (rot_gt f blk cap len m i j G wr hrot hsz hj hij za zb zc)
      clear hrot
      go_wp2_with (go_at_call 69; refine ((hC _ _ _).out (by omega) (by omega) (by omega)).mono ?_; rintro e w1 ⟨rfl, hrow, hfr1⟩)
      go_roundw
      case rel => exact ⟨i - j, j, by go_num, rfl, by omega, hj, hrow, hfr.trans hfr1⟩
      case measure => simp [intOf]; omega
end Go.Proofs.YtbodfdmmfaampaaGreatDoor

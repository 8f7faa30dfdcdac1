/-
  Contract of the reference Compare: how two lists of units compare. Condition: the texts are shorter than 2^40 bytes.
-/
import Derived.Test.YtbodfdmmfaampaaGreatDoorU3
namespace Go.Proofs.YtbodfdmmfaampaaGreatDoor
open Go.RowKit
set_option maxHeartbeats 400000
set_option maxRecDepth 100000

/-- v reads as the row xs; its block is below B -/
def Rd (B : Nat) (w : World) (v : Value) (xs : List Value) : Prop :=
  ∃ b c, v = .slice b xs.length c ∧ ∀ j u, xs[j]? = some u → ∃ g, g < B ∧ b = some ⟨g, 0, none⟩ ∧ xs.length ≤ c ∧ w.cell? ⟨g, j, none⟩ = some u
theorem add_zero_addr (g j : Nat) : (⟨g, 0, none⟩ : Addr).add j = ⟨g, j, none⟩ := by
  unfold Addr.add
  simp
  omega
theorem Rd_own {w : World} {base : Nat} {e : TypeId} {v : Value} {n : Nat} {xs : List Value} (h : w.ownsRow base e 1 v n xs) : Rd w.heap.size w v xs := by
  have hl := h.lt
  have hc := fun g hg => World.ownsRow.cells h (g := g) hg
  rcases h with ⟨hn, ⟨rfl, rfl⟩ | ⟨g, cap, cur, rfl, hb, hh, h1, h2, h3, h4⟩⟩
  · have : xs = [] := List.length_eq_zero_iff.1 (by omega)
    subst this
    exact ⟨none, 0, rfl, fun j u hu => by simp at hu⟩
  · have hn' : n = xs.length := by omega
    subst hn'
    refine ⟨_, cap, rfl, ?_⟩
    intro j u hu
    have := hc g rfl j u hu
    rw [add_zero_addr] at this
    exact ⟨g, (hl g rfl).2, rfl, h1, this⟩
theorem Rd.keep {B B' : Nat} {w w' : World} {v : Value} {xs : List Value} (h : Rd B w v xs) (hb : Below B' w w') (hB : B ≤ B') : Rd B w' v xs := by
  obtain ⟨b, c, h1, h2⟩ := h
  refine ⟨b, c, h1, fun j u hu => ?_⟩
  obtain ⟨g, k1, k2, k3, k4⟩ := h2 j u hu
  exact ⟨g, k1, k2, k3, by rw [hb.cell (p := ⟨g, j, none⟩) (by show g < B'; omega)]; exact k4⟩

/-- how lists of units compare -/
def cmpU : List Nat → List Nat → Int
  | [], [] => 0
  | [], _ :: _ => -1
  | _ :: _, [] => 1
  | x :: xs, y :: ys => if x < y then -1 else if y < x then 1 else cmpU xs ys
theorem cmpU_self (l : List Nat) : cmpU l l = 0 := by induction l with
  | nil => rfl
  | cons x l ih => simp [cmpU, ih]
theorem cmpU_eq {a b : List Nat} (h : cmpU a b = 0) : a = b := by
  induction a generalizing b with
  | nil => cases b with
    | nil => rfl
    | cons y b => simp [cmpU] at h
  | cons x a ih => cases b with
    | nil => simp [cmpU] at h
    | cons y b =>
      simp only [cmpU] at h
      split at h
      · omega
      · split at h
        · omega
        · have : x = y := by omega
          rw [this, ih h]
theorem cmpU_neg (a b : List Nat) : cmpU b a = - cmpU a b := by
  induction a generalizing b with
  | nil => cases b <;> simp [cmpU]
  | cons x a ih => cases b with
    | nil => simp [cmpU]
    | cons y b =>
      simp only [cmpU]
      rcases Nat.lt_trichotomy x y with h | h | h
      · rw [if_neg (by omega), if_pos h, if_pos h]; rfl
      · subst h; simp [ih]
      · rw [if_pos h, if_neg (by omega), if_pos h]
theorem cmpU_cases (a b : List Nat) : cmpU a b = -1 ∨ cmpU a b = 0 ∨ cmpU a b = 1 := by
  induction a generalizing b with
  | nil => cases b <;> simp [cmpU]
  | cons x a ih => cases b with
    | nil => simp [cmpU]
    | cons y b =>
      simp only [cmpU]
      split
      · simp
      · split
        · simp
        · exact ih b
/-- the units of a text -/
def U (s : ByteArray) : List Nat := unitsN s (s.size / 2)
theorem unitsN_len (s : ByteArray) (k : Nat) : (unitsN s k).length = k := by induction k with
  | zero => rfl
  | succ k ih => simp [unitsN, ih]
theorem U_len (s : ByteArray) : (U s).length = s.size / 2 := unitsN_len _ _
theorem u16s_len (l : List Nat) : (u16s l).length = l.length := by simp [u16s]
theorem u16s_get (l : List Nat) (k : Nat) (x : Nat) (h : l[k]? = some x) : (u16s l)[k]? = some (.int .u16 (x : Int)) := by simp [u16s, h]
theorem drop_one (l : List Nat) (k : Nat) (h : k < l.length) : ∃ x, l[k]? = some x ∧ l.drop k = x :: l.drop (k + 1) := ⟨l[k], List.getElem?_eq_getElem h, List.drop_eq_getElem_cons h⟩

theorem c_CompareR (s t : ByteArray) (hs : s.size ≤ 1099511627776) (ht : t.size ≤ 1099511627776) (w : World) :
    Calls Tryz.prog 18 #[.string s, .string t] w fun e w' => e = .returned (.int .i64 (cmpU (U s) (U t))) ∧ Below w.heap.size w w' := by
  have H1 := Lib.hid (c_UnitsR s hs w)
  have H2 := fun w1 => Lib.hid (c_UnitsR t ht w1)
  have hls := U_len s
  have hlt := U_len t
  unfold U at *
  generalize unitsN s (s.size / 2) = A at *
  generalize unitsN t (t.size / 2) = B at *
  rw [← hls] at H1
  rw [← hlt] at H2
  have hm1 : A.length ≤ 1099511627776 := by omega
  have hm2 : B.length ≤ 1099511627776 := by omega
  clear hls hlt
  generalize hR : cmpU A B = R
  go_enter Tryz.func18, Tryz.ntmps18
  go_wp2_with fail
  refine H1.out.mono ?_
  rintro e w1 ⟨v1, rfl, hown1, hb1⟩
  have r1 := Lib.hid (Rd_own hown1)
  clear hown1
  go_wp2_with fail
  refine (H2 _).out.mono ?_
  rintro e w2 ⟨v2, rfl, hown2, hb2⟩
  have r2 := Rd_own hown2
  have r1' := r1.out.keep hb2 (Nat.le_refl _)
  have hbel : Below w.heap.size w w2 := hb1.trans (hb2.mono hb1.size)
  have hw12 := hb2.size
  clear hown2 hb1 hb2 r1
  obtain ⟨b1, c1, rfl, q1⟩ := r1'
  obtain ⟨b2, c2, rfl, q2⟩ := r2
  rw [u16s_len, u16s_len] at *
  have q1 := Lib.hid q1
  have q2 := Lib.hid q2
  have hR := Lib.hid hR
  go_wp2
  go_loopw [14, 7] (fun i _ wr => ∃ k : Nat, k ≤ A.length ∧ i = .int .i64 (k : Int) ∧ cmpU (A.drop k) (B.drop k) = R ∧ Below w.heap.size w wr ∧ Below w2.heap.size w2 wr) (fun i _ _ => A.length - (intOf i).toNat)
  case atStart => exact ⟨0, by omega, rfl, hR.out, hbel, Below.refl _ _⟩
  case round =>
    obtain ⟨k, hk, rfl, hcmp, hbel1, hbel2⟩ := hrel
    rcases Nat.lt_or_ge k A.length with hlt | hge
    · obtain ⟨x, hx, hdx⟩ := drop_one A k hlt
      obtain ⟨g1, hg1, rfl, hc1, hcell1⟩ := q1.out k _ (u16s_get A k x hx)
      rw [← hbel2.cell (p := ⟨g1, k, none⟩) (by show g1 < _; omega)] at hcell1
      rcases Nat.lt_or_ge k B.length with hlt2 | hge2
      · obtain ⟨y, hy, hdy⟩ := drop_one B k hlt2
        obtain ⟨g2, hg2, rfl, hc2, hcell2⟩ := q2.out k _ (u16s_get B k y hy)
        rw [← hbel2.cell (p := ⟨g2, k, none⟩) (by show g2 < _; omega)] at hcell2
        rw [hdx, hdy] at hcmp
        simp only [cmpU] at hcmp
        rcases Nat.lt_trichotomy x y with hxy | hxy | hxy
        · rw [if_pos hxy] at hcmp
          have f1 : decide ((x : Int) < (y : Int)) = true := by simp; omega
          clear hR q1 q2
          go_wp2
          go_quiet (fail)
          go_wp2
          go_ret
          exact ⟨ret_int hcmp, bel_drewN hbel1 _⟩
        · subst hxy
          simp only [Nat.lt_irrefl, if_false] at hcmp
          have hcmp := Lib.hid hcmp
          go_wp2
          go_quiet (fail)
          go_wp2
          go_quiet (fail)
          go_wp2
          go_roundw
          case rel => exact ⟨k + 1, by omega, by go_num, hcmp.out, bel_drewN hbel1 _, bel_drewN hbel2 _⟩
          case measure => simp [intOf]; omega
        · rw [if_neg (by omega), if_pos hxy] at hcmp
          go_wp2
          go_quiet (fail)
          go_wp2
          go_quiet (fail)
          go_wp2
          go_ret
          exact ⟨ret_int hcmp, bel_drewN (bel_drewN hbel1 _) _⟩
      · rw [hdx, List.drop_eq_nil_of_le hge2] at hcmp
        simp only [cmpU] at hcmp
        go_wp2
        go_ret
        exact ⟨ret_int hcmp, hbel1⟩
    · have hk2 : k = A.length := by omega
      subst hk2
      rw [List.drop_length] at hcmp
      rcases Nat.lt_or_ge A.length B.length with hlt2 | hge2
      · obtain ⟨y, hy, hdy⟩ := drop_one B _ hlt2
        rw [hdy] at hcmp
        simp only [cmpU] at hcmp
        go_wp2
        go_ret
        exact ⟨ret_int hcmp, hbel1⟩
      · rw [List.drop_eq_nil_of_le hge2] at hcmp
        simp only [cmpU] at hcmp
        go_wp2
        go_ret
        exact ⟨ret_int hcmp, hbel1⟩
end Go.Proofs.YtbodfdmmfaampaaGreatDoor
